import Derived.Test.YtjhhnidfmoejdaaDoorLe
import Derived.Test.YtjhhnidfmoejdaaDoorP9
namespace Go.Proofs.YtjhhnidfmoejdaaDoor
open Go.RowKit Go.Proofs.YtjhhnidfmoejdaaDoor.PLedgerPlays Go.Proofs.YtjhhnidfmoejdaaDoorW.PrintWords Go.Proofs.YtjhhnidfmoejdaaDoorW.PrintLast
set_option maxRecDepth 10000
set_option linter.unusedVariables false
set_option maxHeartbeats 2000000
abbrev RSdT : Nat := 46
section
variable {α : Type} {P : Program} {ops : Array Oper} {rest : List Oper} {o : Oper} {a : Act} {Q : Exit → Act → World → Prop}
theorem Own.append_rowsC (d : Kd α) (F : Flt d) {W : World} (base : Nat) (hgd : o.guard = none) (s x : Operand) (t : TypeId) (e : TypeId) (z : Value) (bytes : Nat)
    (ho : o.op = .call { callee := .builtin .append, args := #[s, x], argTypes := #[t, t] })
    (ht : P.underlying t = some (.slice e)) (hinfo : (P.info? e).map (fun i => (i.zero, i.size, i.bytes)) = some (some z, d.sz, bytes)) (hz : z.cells.size = d.sz) (hs0 : 0 < d.sz) (hb0 : 0 < bytes)
    (v : Value) (xs ys : List α) (A : Option Addr) (c : Nat) (hs : a.eval s = v) (hx : a.eval x = .slice A ys.length c)
    (HO : Own d e base W v xs) (HC : d.C W A ys.length ys) (hbase : base ≤ W.heap.size) (hl : (xs.length + ys.length) * bytes ≤ 140737488355328)
    (h : ∀ v1 w1, Own d e base w1 v1 (xs ++ ys) → W.grownBy w1 v.ownBlock → (∀ k, v.ownBlock = some k → base ≤ k) → wpList P ops Q rest (a.put o.dst v1) w1) :
    wpList P ops Q (o :: rest) a W :=
  Kd.R_append_rows d (w0 := W) base hgd s x t e z bytes ho ht hinfo hz hs0 hb0 v xs ys A ys.length c (fun _ => True) (fun _ => False) hs hx HO HC (fun x cs h => F.KM h) (fun _ hk => hk.elim) (fun _ _ => trivial) (Below.refl _ _) hbase hl
    fun v1 w1 h1 _ h3 _ => h v1 w1 h1 h3 (Kd.R_base HO)
end
theorem refWrong {w : World} (A0 A1 A2 A4 : Option Addr) (n0 c0 n1 c1 n2 c2 c4 : Nat) (nw : Int) (l4 : List BA) (hC : ∀ w', Keep [] w w' → Kd.C Kd.string w' A4 l4.length l4) (hl : l4.length < 8796093022208) (s : BA) (hs1 : s.size + 1 ≤ 9223372036854775807) (id : Int) (t : BA) (hs2 : (s ++ (⟨#[32]⟩ : BA)).size + t.size ≤ 9223372036854775807)
    (hd : ∀ w', Calls Tryd.prog 42 #[.int .i64 id] w' fun e w2 => e = .returned (.string t) ∧ Below w'.heap.size w' w2) :
    Calls Tryd.prog 35 #[.agg #[.slice A0 n0 c0, .slice A1 n1 c1, .slice A2 n2 c2, .int .i64 nw, .slice A4 l4.length c4], .string s, .int .i64 id] w (Px fun (v : Value) e w' => e = .returned (.agg #[.slice A0 n0 c0, .slice A1 n1 c1, .slice A2 n2 c2, .int .i64 nw, v]) ∧ Own Kd.string StrT w.heap.size w' v (l4 ++ [(s ++ ⟨#[32]⟩) ++ t]) ∧ Keep [] w w') := by
  have g1 : ¬ 9223372036854775807 < s.size + 1 := by omega
  have g2 : ¬ 9223372036854775807 < (s ++ (⟨#[32]⟩ : BA)).size + t.size := by omega
  have g3 : ¬ 9223372036854775807 < s.size + 1 + t.size := by rw [ByteArray.size_append] at hs2; have : (⟨#[32]⟩ : BA).size = 1 := rfl; omega
  have HD := hide hd
  have HC := hide hC
  have hX := Blk.new w #[.slice A0 n0 c0, .slice A1 n1 c1, .slice A2 n2 c2, .int .i64 nw, .slice A4 l4.length c4] RSdT
  clear hd hC hs1 hs2
  go_enter Tryd.func35, Tryd.ntmps35
  obtain ⟨n4, hn4⟩ : ∃ n4, l4.length = n4 := ⟨_, rfl⟩
  have hN4 := hide hn4
  have hK2 := ((Keep.refl [] w).alloc (.cells #[.slice A0 n0 c0, .slice A1 n1 c1, .slice A2 n2 c2, .int .i64 nw, .slice A4 l4.length c4] RSdT)).alloc (.cells #[.slice none 0 0, .slice none 0 0, .slice none 0 0, .int .i64 0, .slice none 0 0] RSdT)
  have hX2 := hX.alloc (.cells #[.slice none 0 0, .slice none 0 0, .slice none 0 0, .int .i64 0, .slice none 0 0] RSdT)
  have hZ2 : Blk ((w.alloc (.cells #[.slice A0 n0 c0, .slice A1 n1 c1, .slice A2 n2 c2, .int .i64 nw, .slice A4 l4.length c4] RSdT)).alloc (.cells #[.slice none 0 0, .slice none 0 0, .slice none 0 0, .int .i64 0, .slice none 0 0] RSdT)) (w.heap.size + 1) #[.slice none 0 0, .slice none 0 0, .slice none 0 0, .int .i64 0, .slice none 0 0] RSdT := Blk.new' _ _ (by simp)
  obtain ⟨wz, hwz⟩ : ∃ wz, (w.alloc (.cells #[.slice A0 n0 c0, .slice A1 n1 c1, .slice A2 n2 c2, .int .i64 nw, .slice A4 l4.length c4] RSdT)).alloc (.cells #[.slice none 0 0, .slice none 0 0, .slice none 0 0, .int .i64 0, .slice none 0 0] RSdT) = wz := ⟨_, rfl⟩
  have hzs : wz.heap.size = w.heap.size + 1 + 1 := by rw [← hwz]; simp
  rw [hwz] at hK2 hX2 hZ2
  have hF := Own.fresh (d := Kd.string) (e := StrT) (base := w.heap.size) (w := wz) hK2.size
  have hCz := HC.out _ (hK2.alloc (.cells #[] StrT))
  have x4 : wz.cell? ⟨w.heap.size, 4, none⟩ = some (.slice A4 l4.length c4) := hX2.cell 4
  have HX2 := hide hX2
  have HZ2 := hide hZ2
  have HK2 := hide hK2
  clear hX hX2 hZ2 hK2 hn4
  go_wp2_with (at_builtin; refine Own.append_rowsC Kd.string fltS w.heap.size rfl (.tmp 7) (.tmp 9) StrsT StrT _ _ rfl Tryd.underlying39 infoS rfl (by decide) (by decide) (.slice (some ⟨wz.heap.size, 0, none⟩) 0 0) [] l4 A4 c4 (by simp [Act.eval, hzs]) rfl hF hCz (by simp; omega) (by simp; omega) ?_; intro v1 w1 hO1 hg1 hr1)
  rw [List.nil_append] at hO1
  have hkz1 : Keep [wz.heap.size] (wz.alloc (.cells #[] StrT)) w1 := Keep.of_grown hg1 (fun k e _ => by simp [Value.ownBlock] at e; simp [e])
  have hX1 := (HX2.out.alloc (.cells #[] StrT)).keep hkz1 (by have := HX2.out.lt; simp; omega)
  have hZ1 := (HZ2.out.alloc (.cells #[] StrT)).keep hkz1 (by have := HZ2.out.lt; simp; omega)
  have hK1 : Keep [] w w1 := (HK2.out.alloc (.cells #[] StrT)).trans hkz1 (by simp) (fun x hx hlt => by have := HK2.out.size; simp at hx; omega)
  have HX1 := hide hX1
  have HZ1 := hide hZ1
  have HK1 := hide hK1
  have HO1 := hide hO1
  clear hX1 hZ1 hK1 hkz1 hg1 hr1 hF hCz x4 hO1
  refine (HD.out _).mono ?_
  rintro e wm ⟨rfl, hbm⟩
  have hkm := Keep.of_below hbm
  have hOm := HO1.out.keep hkm (by simp)
  have hXm := HX1.out.keep hkm (by simp)
  have hZm := HZ1.out.keep hkm (by simp)
  have hKm := HK1.out.then hkm
  obtain ⟨B1, d1, rfl⟩ := hOm.slice
  have HXm := hide hXm
  have HZm := hide hZm
  have HKm := hide hKm
  have HOm := hide hOm
  have hszm := hKm.size
  have hbl := fun (k : Nat) (hk : (Value.slice B1 l4.length d1).ownBlock = some k) => hOm.blt hk
  have HBL := hide (fun k (hk : (Value.slice B1 l4.length d1).ownBlock = some k) => (show w.heap.size ≤ k ∧ k ≠ w.heap.size ∧ k ≠ w.heap.size + 1 from by
    have h1 := (hbl k hk).1
    obtain ⟨_, _, ho, _⟩ := HOm.out
    obtain ⟨cells, hc⟩ := own_typed ho k hk
    refine ⟨h1, ?_, ?_⟩
    · rintro rfl
      obtain ⟨lo, hi, h2, _⟩ := HXm.out
      rw [hc] at h2; cases h2
    · rintro rfl
      obtain ⟨lo, hi, h2, _⟩ := HZm.out
      rw [hc] at h2; cases h2))
  clear hOm hXm hZm hKm hkm hbm hbl HO1 HX1 HZ1 HK1
  go_wp2_with (at_builtin; refine Own.append_law Kd.string w.heap.size rfl (.tmp 10) (.tmp 16) StrsT StrT _ _ rfl Tryd.underlying39 infoS rfl (by decide) (by decide) (.slice B1 l4.length d1) l4 ((s ++ ⟨#[32]⟩) ++ t) _ rfl wm.heap.size rfl rfl (by exact rfl) HOm.out hszm (by have := hl; omega) ?_; intro v2 w2 hO2 hg2 hr2; obtain ⟨B2, d2, rfl⟩ := hO2.slice; rw [show (l4 ++ [(s ++ ⟨#[32]⟩) ++ t]).length = l4.length + 1 by simp] at hO2 ⊢; have hX2 := HXm.out.of_block (hg2.block w.heap.size HXm.out.lt (fun e => (HBL.out _ e.symm).2.1 rfl)); have hZ2 := HZm.out.of_block (hg2.block (w.heap.size + 1) HZm.out.lt (fun e => (HBL.out _ e.symm).2.2 rfl)); have x0 := hX2.cell 0; have x1 := hX2.cell 1; have x2 := hX2.cell 2; have x3 := hX2.cell 3; have x4 := hX2.cell 4; have f4 := hX2.frozen 4 (by simp); have hZs := hZ2.other (a := ⟨w.heap.size, 4, none⟩) (by simp) (.slice B2 (l4.length + 1) d2); have q0 := hZs.frozen 0 (by simp); have q1 := hZs.frozen 1 (by simp); have q2 := hZs.frozen 2 (by simp); have q3 := hZs.frozen 3 (by simp); have q4 := hZs.frozen 4 (by simp); have p0 := hZs.cell 0; have p1 := hZs.cell 1; have p2 := hZs.cell 2; have p3 := hZs.cell 3; have p4 := hZs.cell 4; have HZs := hide hZs; clear hZs; have HX2' := hide hX2; have HZ2' := hide hZ2; have HO2 := hide hO2; have HG2 := hide hg2; clear hX2 hZ2 hO2 hg2 hr2)
  have hZ9 := ((((HZs.out.set 0 (.slice A0 n0 c0)).set 1 (.slice A1 n1 c1)).set 2 (.slice A2 n2 c2)).set 3 (.int .i64 nw)).set 4 (.slice B2 (l4.length + 1) d2)
  have hk9 : Keep [w.heap.size, w.heap.size + 1] w2 ((((((w2.setCell ⟨w.heap.size, 4, none⟩ (.slice B2 (l4.length + 1) d2)).setCell ⟨w.heap.size + 1, 0, none⟩ (.slice A0 n0 c0)).setCell ⟨w.heap.size + 1, 1, none⟩ (.slice A1 n1 c1)).setCell ⟨w.heap.size + 1, 2, none⟩ (.slice A2 n2 c2)).setCell ⟨w.heap.size + 1, 3, none⟩ (.int .i64 nw)).setCell ⟨w.heap.size + 1, 4, none⟩ (.slice B2 (l4.length + 1) d2)) :=
    ((((((Keep.refl _ w2).setCell (fun _ => by simp) _).setCell (fun _ => by simp) _).setCell (fun _ => by simp) _).setCell (fun _ => by simp) _).setCell (fun _ => by simp) _).setCell (fun _ => by simp) _
  obtain ⟨w9, hw9⟩ : ∃ w9, ((((((w2.setCell ⟨w.heap.size, 4, none⟩ (.slice B2 (l4.length + 1) d2)).setCell ⟨w.heap.size + 1, 0, none⟩ (.slice A0 n0 c0)).setCell ⟨w.heap.size + 1, 1, none⟩ (.slice A1 n1 c1)).setCell ⟨w.heap.size + 1, 2, none⟩ (.slice A2 n2 c2)).setCell ⟨w.heap.size + 1, 3, none⟩ (.int .i64 nw)).setCell ⟨w.heap.size + 1, 4, none⟩ (.slice B2 (l4.length + 1) d2)) = w9 := ⟨_, rfl⟩
  rw [hw9]
  rw [hw9] at hZ9 hk9
  have e0 := hZ9.cell 0
  have e1 := hZ9.cell 1
  have e2 := hZ9.cell 2
  have e3 := hZ9.cell 3
  have e4 := hZ9.cell 4
  simp at e0 e1 e2 e3 e4
  refine bodyPost_ret (v := .agg #[.slice A0 n0 c0, .slice A1 n1 c1, .slice A2 n2 c2, .int .i64 nw, .slice B2 (l4.length + 1) d2]) ?_ ?_ ?_
  · simp [results, Tryd.results35, go_sem, e0, e1, e2, e3, e4]
  · rfl
  · refine ⟨_, rfl, HO2.out.keep hk9 (fun k hm => ?_), ?_⟩
    · simp at hm
      rcases hm with rfl | rfl
      · exact not_of_blk HX2'.out (by decide)
      · exact not_of_blk HZ2'.out (by decide)
    · have hkg : Keep (Value.slice B1 l4.length d1).ownBlock.toList wm w2 := Keep.of_grown HG2.out (fun k e _ => by simp [e])
      have h1 : Keep [] w w2 := HKm.out.trans hkg (by simp) (fun x hx hlt => by have := (HBL.out x (by simpa using hx)).1; omega)
      exact h1.trans hk9 (by simp) (fun x hx hlt => by simp at hx; omega)
end Go.Proofs.YtjhhnidfmoejdaaDoor
