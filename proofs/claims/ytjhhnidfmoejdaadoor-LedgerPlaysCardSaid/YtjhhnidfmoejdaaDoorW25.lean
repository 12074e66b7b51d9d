import Derived.Test.YtjhhnidfmoejdaaDoorV25
namespace Go.Proofs.YtjhhnidfmoejdaaDoor
open Go.RowKit Go.Lib Go.Proofs.YtjhhnidfmoejdaaDoor.PLedgerPlays Go.Proofs.YtjhhnidfmoejdaaDoorW.PrintWords Go.Proofs.YtjhhnidfmoejdaaDoorW.PrintLast
set_option maxRecDepth 10000
set_option linter.unusedVariables false
set_option linter.unusedSimpArgs false
set_option maxHeartbeats 2000000
section
variable {α : Type} {P : Program} {ops : Array Oper} {o : Oper} {a : Act} {Q : Exit → Act → World → Prop} {Kc : Act → World → Prop}
theorem Own.append_rowsC_step (d : Kd α) (F : Flt d) {W : World} (base : Nat) (hw : Region.wanted o (yielded ops a.tmps) = true) (s x : Operand) (t e : TypeId) (z : Value) (bytes : Nat)
    (ho : o.op = .call { callee := .builtin .append, args := #[s, x], argTypes := #[t, t] })
    (ht : P.underlying t = some (.slice e)) (hinfo : (P.info? e).map (fun i => (i.zero, i.size, i.bytes)) = some (some z, d.sz, bytes)) (hz : z.cells.size = d.sz) (hs0 : 0 < d.sz) (hb0 : 0 < bytes)
    (v : Value) (xs ys : List α) (A : Option Addr) (m c : Nat) (hs : a.eval s = v) (hx : a.eval x = .slice A m c)
    (HO : Own d e base W v xs) (HC : d.C W A m ys) (hbase : base ≤ W.heap.size) (hl : (xs.length + m) * bytes ≤ 140737488355328)
    (h : ∀ v1 w1, Own d e base w1 v1 (xs ++ ys) → W.grownBy w1 v.ownBlock → (∀ k, v1.ownBlock = some k → base ≤ k) → Kc (a.put o.dst v1) w1) :
    if Region.wanted o (yielded ops a.tmps) = true then Oper.wp P o a W Kc Q else Kc (a.put o.dst undef) W :=
  Kd.R_append_rows_step d (w0 := W) base hw s x t e z bytes ho ht hinfo hz hs0 hb0 v xs ys A m c (fun _ => True) (fun _ => False) hs hx HO HC (fun x cs h => F.KM h) (fun _ hk => hk.elim) (fun _ _ => trivial) (Below.refl _ _) hbase hl
    fun v1 w1 h1 _ h3 _ => h v1 w1 h1 h3 (Kd.R_base h1)
end
namespace R25
theorem rowI_of {base : Nat} {w : World} {A : Option Addr} {n c : Nat} {l : List Int} (h : Own (Kd.int .i64) IntT base w (.slice A n c) l) {j : Nat} (hj : j < l.length) : ∃ g, A = some ⟨g, 0, none⟩ ∧ w.cell? ⟨g, j, none⟩ = some (.int .i64 l[j]) := by
  obtain ⟨g, cap, hv, hb, hg⟩ := h.form (by omega)
  obtain ⟨A', c', hv', _, hC⟩ := h.reads
  simp only [Value.slice.injEq] at hv hv'
  obtain ⟨rfl, _, _⟩ := hv
  obtain ⟨rfl, _, _⟩ := hv'
  obtain ⟨ad, c1, e, hc1, hK, hcell⟩ := Kd.C_get hC 0 (j : Int) (by omega) (by omega)
  cases e
  have hK' : c1 = [.int .i64 (l.getD (j : Int).toNat 0)] := hK
  subst hK'
  have := hcell 0 _ rfl
  rw [show (j : Int).toNat = j by omega, Lib.add_plain, show (Kd.int .i64).sz = 1 from rfl] at this
  exact ⟨g, rfl, by simpa [List.getD, hj] using this⟩
def relRel (w0 w : World) (v : Vs) (x : Rx) (id : Int) (o i : Value) (wr : World) : Prop := ∃ j : Nat, i = .int .i64 j ∧ j ≤ x.T.length ∧ Bx w0 w wr v x ∧ Own (Kd.int .i64) IntT w.heap.size wr o ((x.T.take j).filter fun n => decide (n ≠ id))
theorem Bx.grown {α : Type} {d : Kd α} {e : Nat} {u : Value} {xs : List α} {w0 w wr w2 : World} {v : Vs} {x : Rx} (hb : Bx w0 w wr v x) (hh : Rmem w0.heap.size w v x) (ho : Own d e w.heap.size wr u xs) (he : e ≠ SbT) (hg : wr.grownBy w2 u.ownBlock) : Bx w0 w w2 v x := by
  have hne : ∀ {B : Nat} {cs : Array Value}, Blk wr B cs SbT → u.ownBlock ≠ some B := fun {B cs} hB hu => by
    obtain ⟨_, _, ho, _⟩ := ho
    obtain ⟨c, hc⟩ := own_typed ho _ hu
    obtain ⟨lo, hi, h3, _⟩ := hB
    rw [hc] at h3
    cases h3
    exact he rfl
  have hblk : ∀ k, k < wr.heap.size → u.ownBlock ≠ some k → w2.heap[k]? = wr.heap[k]? := fun k hk hn => hg.block k hk (fun e => hn e.symm)
  have hsz := hb.k.size
  exact ⟨hb.s.of_block (hblk _ hb.s.lt (hne hb.s)), hb.r.of_block (hblk _ hb.r.lt (hne hb.r)), hb.k.grown_base (base := w.heap.size) (Nat.le_refl _) hg (fun k hk => (ho.blt hk).1), hb.h.off fun k hi => hblk k (hb.h.lt hi).2 (fun hu => by have := (ho.blt hu).1; have := (hh.lt hi).2; omega)⟩
theorem own_box {α : Type} {d : Kd α} {e base : Nat} {u : Value} {xs : List α} {w : World} {B : Nat} {cs : Array Value} (ho : Own d e base w u xs) (hB : Blk w B cs SbT) (he : e ≠ SbT) : u.ownBlock ≠ some B := fun hu => by
  obtain ⟨_, _, ho, _⟩ := ho
  obtain ⟨c, hc⟩ := own_typed ho _ hu
  obtain ⟨lo, hi, h3, _⟩ := hB
  rw [hc] at h3
  cases h3
  exact he rfl
theorem in_box {w0 w : World} {B : Nat} {cs : Array Value} {v : Vs} {x : Rx} (h : Rmem w0.heap.size w v x) (hB : Blk w B cs SbT) {k : Nat} (hi : v.in_ k) : k ≠ B := by
  rintro rfl
  rcases hi with hi | hi | hi | hi
  · exact own_box h.o hB (by decide) hi
  · exact own_box h.d hB (by decide) hi
  · exact own_box h.t hB (by decide) hi
  · exact own_box h.e hB (by decide) hi
theorem bx_rel {w0 w wr : World} {v : Vs} {x : Rx} {u : Value} {xs : List Int} (hb : Bx w0 w wr v x) (hh : Rmem w0.heap.size w v x) (hs : w0.heap.size ≤ w.heap.size) (ho : Own (Kd.int .i64) IntT w.heap.size wr u xs) :
    Bx w0 w (wr.setCell ⟨w.heap.size, 2, none⟩ u) ⟨v.a, v.b, u, v.d⟩ { x with T := xs } ∧ (∀ k, Vs.in_ ⟨v.a, v.b, u, v.d⟩ k → v.in_ k ∨ w.heap.size ≤ k) := by
  have hk : Keep [w.heap.size] wr (wr.setCell ⟨w.heap.size, 2, none⟩ u) := (Keep.refl _ wr).setCell (fun _ => by simp) u
  have h1 := hb.h.off (w' := wr.setCell ⟨w.heap.size, 2, none⟩ u) fun k hi => hk.block k (hb.h.lt hi).2 (by simpa using in_box hb.h hb.s hi)
  have hsb := hb.s.set 2 u
  refine ⟨⟨by simpa using hsb, hb.r.other (by simp) u, hb.k.trans hk (by simp) (fun x hx hlt => by simp at hx; omega), ⟨h1.o, h1.d, ?_, h1.e, h1.ap⟩⟩, fun k hi => ?_⟩
  · exact (ho.off fltI fun k hk' => hk.block k (ho.blt hk').2 (by simp; rintro rfl; exact own_box ho hb.s (by decide) hk')).lower hs
  · rcases hi with hi | hi | hi | hi
    · exact Or.inl (Or.inl hi)
    · exact Or.inl (Or.inr (Or.inl hi))
    · exact Or.inr (ho.blt hi).1
    · exact Or.inl (Or.inr (Or.inr (Or.inr hi)))
theorem bx_done {w0 w wr : World} {v : Vs} {x : Rx} {u : Value} {xs : List RX} (hb : Bx w0 w wr v x) (hh : Rmem w0.heap.size w v x) (hs : w0.heap.size ≤ w.heap.size) (ho : Own kRX RXT w.heap.size wr u xs) :
    Bx w0 w (wr.setCell ⟨w.heap.size, 1, none⟩ u) ⟨v.a, u, v.c, v.d⟩ { x with D := xs } ∧ (∀ k, Vs.in_ ⟨v.a, u, v.c, v.d⟩ k → v.in_ k ∨ w.heap.size ≤ k) := by
  have hk : Keep [w.heap.size] wr (wr.setCell ⟨w.heap.size, 1, none⟩ u) := (Keep.refl _ wr).setCell (fun _ => by simp) u
  have h1 := hb.h.off (w' := wr.setCell ⟨w.heap.size, 1, none⟩ u) fun k hi => hk.block k (hb.h.lt hi).2 (by simpa using in_box hb.h hb.s hi)
  have hsb := hb.s.set 1 u
  refine ⟨⟨by simpa using hsb, hb.r.other (by simp) u, hb.k.trans hk (by simp) (fun x hx hlt => by simp at hx; omega), ⟨h1.o, ?_, h1.t, h1.e, fun k hk' hu => ?_⟩⟩, fun k hi => ?_⟩
  · exact (ho.off fltR fun k hk' => hk.block k (ho.blt hk').2 (by simp; rintro rfl; exact own_box ho hb.s (by decide) hk')).lower hs
  · have := (ho.blt hu).1
    have := (hh.lt (Or.inl hk')).2
    omega
  · rcases hi with hi | hi | hi | hi
    · exact Or.inl (Or.inl hi)
    · exact Or.inr (ho.blt hi).1
    · exact Or.inl (Or.inr (Or.inr (Or.inl hi)))
    · exact Or.inl (Or.inr (Or.inr (Or.inr hi)))
theorem infoI : (Tryd.prog.info? IntT).map (fun i => (i.zero, i.size, i.bytes)) = some (some (.int .i64 0), 1, 8) := by kernel_rfl
theorem blkC {w : World} {B : Nat} {y : RX} (h : Blk w B #[.int .i64 y.f0, .string y.f1, .string y.f2, .int .i64 y.f3, .bool y.f4, .bool y.f5] RXT) : kRX.C w (some ⟨B, 0, none⟩) 1 [y] := by
  refine ⟨rfl, by decide, fun _ => ⟨⟨B, 0, none⟩, rfl, fun j p hp => ?_⟩⟩
  rcases j with _ | j
  · simp at hp
    subst hp
    refine ⟨[.int .i64 y.f0, .string y.f1, .string y.f2, .int .i64 y.f3, .bool y.f4, .bool y.f5], rfl, k87_mk w y, fun i u hu => ?_⟩
    rw [Lib.add_plain, show 0 + (0 * kRX.sz + i) = i by omega, h.cell i]
    simpa using hu
  · simp at hp
def Rx.untake (x : Rx) (id : Int) : Rx := { x with T := x.T.filter fun n => decide (n ≠ id) }
theorem ans_rel {w0 w : World} {v : Vs} {x : Rx} (hB : Below w0.heap.size w0 w) (h : Rmem w0.heap.size w v x) (hT : x.T.length < 1000) (id code : Int) :
    Calls Tryd.prog 27 #[v.val x.n, .int .i64 6, .int .i64 id, .int .i64 code] w (RPost w0 w v (x.untake id)) := by
  obtain ⟨A0, n0, c0, A1, n1, c1, A2, n2, c2, A3, n3, c3, hv⟩ := h.form
  have hbx := Bx.lay h
  have hn2 : x.T.length = n2 := by
    obtain ⟨_, _, e0⟩ := h.t.slice
    subst hv
    simp only [Value.slice.injEq] at e0
    exact e0.2.1.symm
  have HROW := hide (fun (w' : World) (hb : Bx w0 w w' v x) (j : Nat) (hj : j < x.T.length) => rowI_of (base := w0.heap.size) (A := A2) (n := n2) (c := c2) (by have := hb.h.t; rw [hv] at this; exact this) hj)
  have HH := hide h
  have HSZ := hide hB.size
  have HB0 := hide hB
  obtain ⟨nn, hnn⟩ : ∃ n, x.n = n := ⟨_, rfl⟩
  have HNN := hide hnn
  have hnl : n2 < 1000 := by omega
  have HN2 := hide hn2
  rw [hnn] at hbx ⊢
  subst hv
  simp only [Vs.val] at hbx ⊢
  obtain ⟨wz, hwz⟩ : ∃ wz, (w.alloc (.cells #[.slice A0 n0 c0, .slice A1 n1 c1, .slice A2 n2 c2, .int .i64 nn, .slice A3 n3 c3] SbT)).alloc (.cells #[.slice none 0 0, .slice none 0 0, .slice none 0 0, .int .i64 0, .slice none 0 0] SbT) = wz := ⟨_, rfl⟩
  rw [hwz] at hbx
  have hs := hbx.s
  dsimp only at hs
  rw [hnn] at hs
  have hoe : Own (Kd.int .i64) IntT w.heap.size (wz.alloc (.cells #[] IntT)) (.slice (some ⟨wz.heap.size, 0, none⟩) 0 0) [] := Own.fresh hbx.k.size
  have hbe := hbx.keep ((Keep.refl [] wz).alloc (.cells #[] IntT))
  obtain ⟨q0, q1, q2, q3, q4⟩ := (hs.alloc (.cells #[] IntT)).cells5
  have h0 : relRel w0 w ⟨.slice A0 n0 c0, .slice A1 n1 c1, .slice A2 n2 c2, .slice A3 n3 c3⟩ x id (.slice (some ⟨wz.heap.size, 0, none⟩) 0 0) (.int .i64 0) (wz.alloc (.cells #[] IntT)) := ⟨0, rfl, Nat.zero_le _, hbe, by simpa using hoe⟩
  have H0 := hide h0
  clear h hB hbx hnn hs hn2 hT hoe hbe h0
  go_enter Tryd.func27, Tryd.ntmps27
  go_wp2_with fail
  go_loopw [9, 20] (fun o i wr => relRel w0 w ⟨.slice A0 n0 c0, .slice A1 n1 c1, .slice A2 n2 c2, .slice A3 n3 c3⟩ x id o i wr) (fun _ i _ => n2 - (intOf i).toNat)
  case atStart => exact H0.out
  case round =>
    obtain ⟨j, rfl, hj, hbx, ho⟩ := hrel
    by_cases hlt : j < n2
    · obtain ⟨g, rfl, hc⟩ := HROW.out _ hbx j (by have := HN2.out; omega)
      have hjl : j < x.T.length := by have := HN2.out; omega
      have ht1 : x.T.take (j + 1) = x.T.take j ++ [x.T[j]] := by simp
      have hg1 : (j : Int) < (n2 : Int) := by omega
      obtain ⟨y, hy⟩ : ∃ y, x.T[j] = y := ⟨_, rfl⟩
      rw [hy] at hc ht1
      obtain ⟨L, hL⟩ : ∃ L, (x.T.take j).filter (fun n => decide (n ≠ id)) = L := ⟨_, rfl⟩
      have hLl : L.length ≤ j := by rw [← hL]; exact Nat.le_trans (List.length_filter_le _ _) (by rw [List.length_take]; omega)
      rw [hL] at ho
      by_cases he : y = id
      · subst he
        have hnext : relRel w0 w ⟨.slice A0 n0 c0, .slice A1 n1 c1, .slice (some ⟨g, 0, none⟩) n2 c2, .slice A3 n3 c3⟩ x y _ (.int .i64 ((j : Int) + 1)) wr := ⟨j + 1, by simp, by omega, hbx, by rw [ht1, List.filter_append, hL]; simpa using ho⟩
        have HX := hide hnext
        have b1 : (y != y) = false := by simp
        clear ht1 hy hL ho hbx hnext hj HROW hjl hLl
        go_wp2_with fail
        exact ⟨HX.out, by simp [intOf]; omega⟩
      · have hnext := hide (fun (v1 : Value) (w1 : World) (hk : Keep [] w w1 → True) (hb1 : Bx w0 w w1 ⟨.slice A0 n0 c0, .slice A1 n1 c1, .slice (some ⟨g, 0, none⟩) n2 c2, .slice A3 n3 c3⟩ x) (ho1 : Own (Kd.int .i64) IntT w.heap.size w1 v1 (L ++ [y])) => (show relRel w0 w ⟨.slice A0 n0 c0, .slice A1 n1 c1, .slice (some ⟨g, 0, none⟩) n2 c2, .slice A3 n3 c3⟩ x id v1 (.int .i64 ((j : Int) + 1)) w1 from ⟨j + 1, by simp, by omega, hb1, by rw [ht1, List.filter_append, hL]; simpa [he] using ho1⟩))
        have b1 : (y != id) = true := by simpa using he
        have hszr := hbx.k.size
        have HBX := hide hbx
        have HO := hide ho
        obtain ⟨Ao, co, rfl⟩ := ho.slice
        clear ht1 hy hL ho hbx hj HROW hjl
        go_wp2_with (at_builtin; refine Own.append_law (Kd.int .i64) w.heap.size rfl (.tmp 27) (.tmp 29) 44 IntT _ _ rfl Tryd.underlying44 infoI rfl (by decide) (by decide) (.slice Ao L.length co) L y _ rfl wr.heap.size rfl rfl (by exact rfl) HO.out hszr (by omega) ?_; intro v2 w2 hO2 hg2 hr2)
        exact ⟨hnext.out _ _ (fun _ => trivial) (HBX.out.grown HH.out HO.out (by decide) hg2) hO2, by simp [intOf]; omega⟩
    · have hj' : j = n2 := by have := HN2.out; omega
      subst hj'
      have hg1 : ¬ (j : Int) < (j : Int) := by omega
      rw [← HN2.out, List.take_length] at ho
      obtain ⟨Ao, co, hoe⟩ := ho.slice
      obtain ⟨Lx, hLx⟩ : ∃ n, (x.T.filter fun n => decide (n ≠ id)).length = n := ⟨_, rfl⟩
      rw [hLx] at hoe
      subst hoe
      have hs := hbx.s
      dsimp only at hs
      rw [HNN.out] at hs
      obtain ⟨q0, q1, q2, q3, q4⟩ := hs.cells5
      have hf := hs.frozen 2 (by simp)
      have hre := bx_rel hbx HH.out HSZ.out ho
      have HRE := hide hre
      clear hre hs ho hbx hLx HROW H0 hwz
      go_upto_region 10 with fail
      obtain ⟨w5, hw5⟩ : ∃ w5, wr.setCell ⟨w.heap.size, 2, none⟩ (.slice Ao Lx co) = w5 := ⟨_, rfl⟩
      obtain ⟨hb5, hn5⟩ := HRE.out
      rw [hw5] at hb5 ⊢
      have hE := bx_end hb5.r hb5.h hn5 (Kept.of_below hb5.k.below _) (Keep.below_of HB0.out hb5.k (by simp)) HSZ.out
      have hs5 := hb5.s
      dsimp only at hs5
      rw [HNN.out] at hs5
      obtain ⟨q0, q1, q2, q3, q4⟩ := hs5.cells5
      obtain ⟨f0, f1, f2, f3, f4⟩ := hb5.r.froz5
      obtain ⟨r0, r1, r2, r3, r4⟩ := hb5.r.cells5
      simp only [HNN.out, set5] at hE
      have H9 := hide hE
      have HN5 := hide hn5
      clear hE hb5 hn5 hs5 hf hw5 HRE
      go_wp2_with fail
      obtain ⟨hR9, hM9, hK9, hB9⟩ := H9.out
      obtain ⟨w9, hw9⟩ : ∃ w9, (((((w5.setCell { block := w.heap.size + 1, off := 0 } (Value.slice A0 n0 c0)).setCell { block := w.heap.size + 1, off := 1 } (Value.slice A1 n1 c1)).setCell { block := w.heap.size + 1, off := 2 } (Value.slice Ao Lx co)).setCell { block := w.heap.size + 1, off := 3 } (Value.int IntKind.i64 nn)).setCell { block := w.heap.size + 1, off := 4 } (Value.slice A3 n3 c3)) = w9 := ⟨_, rfl⟩
      rw [hw9] at hR9 hM9 hK9 hB9 ⊢
      obtain ⟨e0, e1, e2, e3, e4⟩ := hR9.cells5
      refine bodyPost_ret (v := .agg #[.slice A0 n0 c0, .slice A1 n1 c1, .slice Ao Lx co, .int .i64 nn, .slice A3 n3 c3]) ?_ rfl ?_
      · simp [results, Tryd.results27, go_sem, e0, e1, e2, e3, e4]
      · exact ⟨⟨.slice A0 n0 c0, .slice A1 n1 c1, .slice Ao Lx co, .slice A3 n3 c3⟩, by show _ = Ending.returned (Vs.val _ x.n); rw [HNN.out], by have := hM9; rw [← HNN.out] at this; exact this, HN5.out, hK9, hB9⟩
def Rx.over (x : Rx) (id : Int) (y : RX) : Rx := { x with O := x.O.filter (fun y => decide (y.f0 ≠ id)), D := x.D ++ [⟨y.f0, y.f1, y.f2, y.f3, y.f4, true⟩] }
theorem over_mem {b : Nat} {w : World} {v : Vs} {x : Rx} {y : RX} {id nn : Int} (h4 : y.f4 = true) (hn : x.n = nn) (h : Rmem b w v { O := x.O.filter (fun y => decide (y.f0 ≠ id)), D := x.D ++ [⟨y.f0, y.f1, y.f2, y.f3, true, true⟩], T := x.T, n := nn, E := x.E }) : Rmem b w v (x.over id y) := by subst hn; unfold Rx.over; rw [h4]; exact h
theorem ans_done {w0 w : World} {v : Vs} {x : Rx} (hB : Below w0.heap.size w0 w) (h : Rmem w0.heap.size w v x) (hl : x.O.length < 1000) (hD : x.D.length < 1000) (id code : Int) (j : Nat) (hj : j < x.O.length) (hp : place id 0 x.O = (j : Int)) (y : RX) (hy : x.O[j] = y) (hy4 : y.f4 = true) :
    Calls Tryd.prog 27 #[v.val x.n, .int .i64 7, .int .i64 id, .int .i64 code] w (RPost w0 w v (x.over id y)) := by
  obtain ⟨g, n0, c0, A1, n1, c1, A2, n2, c2, A3, n3, c3, hv, hn0⟩ := h.form1 (by omega)
  have hbx := Bx.lay h
  have HF := hide (fun (w' : World) (hb : Bx w0 w w' v x) => mFind hb.h hl id)
  have HROW := hide (fun (w' : World) (hb : Bx w0 w w' v x) => hy ▸ rowR_of (base := w0.heap.size) (g := g) (n := n0) (c := c0) (by have := hb.h.o; rw [hv] at this; exact this) hj)
  have HH := hide h
  have HD1 := hide (h.dlen hD hv)
  subst hv
  have hl0 : (j : Int) < (n0 : Int) := by omega
  have HN0 := hide hn0
  simp only [hp] at HF
  have bp : decide ((j : Int) < 0) = false := by simp
  have HB := hide hB
  obtain ⟨nn, hnn⟩ : ∃ n, x.n = n := ⟨_, rfl⟩
  have HNN := hide hnn
  rw [hnn] at hbx ⊢
  simp only [Vs.val] at hbx HF ⊢
  obtain ⟨wz, hwz⟩ : ∃ wz, (w.alloc (.cells #[.slice (some ⟨g, 0, none⟩) n0 c0, .slice A1 n1 c1, .slice A2 n2 c2, .int .i64 nn, .slice A3 n3 c3] SbT)).alloc (.cells #[.slice none 0 0, .slice none 0 0, .slice none 0 0, .int .i64 0, .slice none 0 0] SbT) = wz := ⟨_, rfl⟩
  rw [hwz] at hbx
  have hs := hbx.s
  dsimp only at hs
  rw [hnn] at hs
  obtain ⟨q0, q1, q2, q3, q4⟩ := hs.cells5
  have HBX := hide hbx
  have HW := hide hwz
  clear h hB hbx hnn hs hp hn0 hy
  go_enter Tryd.func27, Tryd.ntmps27
  go_wp2_with fail
  refine (HF.out _ HBX.out).mono ?_
  rintro e wm ⟨rfl, hkm⟩
  have hbm := HBX.out.keep hkm
  obtain ⟨z0, z1, z2, z3, z4, z5⟩ := HROW.out _ hbm
  have hs := hbm.s
  dsimp only at hs
  rw [HNN.out] at hs
  obtain ⟨q0, q1, q2, q3, q4⟩ := hs.cells5
  rw [hy4] at z4
  have HBM := hide hbm
  have hX := Blk.new wm #[.int .i64 y.f0, .string y.f1, .string y.f2, .int .i64 y.f3, .bool y.f4, .bool y.f5] RXT
  have HX := hide hX
  clear hbm hs hkm HF hwz HROW HBX q0 q1 q2 q3 q4 hX
  have hs := HBM.out.s
  dsimp only at hs
  rw [HNN.out] at hs
  obtain ⟨q0, q1, q2, q3, q4⟩ := hs.cells5
  clear hs
  go_upto_region 15 with fail
  obtain ⟨w3, hw3⟩ : ∃ w3, wm.alloc (.cells #[.int .i64 y.f0, .string y.f1, .string y.f2, .int .i64 y.f3, .bool true, .bool y.f5] RXT) = w3 := ⟨_, rfl⟩
  have hX3 := HX.out
  have hb3 := HBM.out.keep ((Keep.refl [] wm).alloc (.cells #[.int .i64 y.f0, .string y.f1, .string y.f2, .int .i64 y.f3, .bool true, .bool y.f5] RXT))
  rw [hy4] at hX3; rw [hw3] at hX3 hb3 ⊢
  have hs := hb3.s
  dsimp only at hs
  rw [HNN.out] at hs
  obtain ⟨q0, q1, q2, q3, q4⟩ := hs.cells5
  obtain ⟨x0, x1, x2, x3, x4, x5⟩ := hX3.cells6
  obtain ⟨z0', z1', z2', z3', z4', z5'⟩ := hX3.froz6
  have HB3 := hide hb3
  have HX3 := hide hX3
  have HK3 := hide (show Keep [] wm w3 from hw3 ▸ (Keep.refl [] wm).alloc _)
  clear hw3 hs hX3 hb3 HX z0 z1 z2 z3 z4 z5
  go_upto_region 22 with fail
  obtain ⟨w5, hw5⟩ : ∃ w5, w3.setCell ⟨wm.heap.size, 5, none⟩ (.bool true) = w5 := ⟨_, rfl⟩
  have hX5 := HX3.out.set 5 (.bool true)
  have hk5 := HK3.out.setCell (p := ⟨wm.heap.size, 5, none⟩) (fun h => absurd h (Nat.lt_irrefl _)) (.bool true)
  rw [hw5] at hX5 hk5 ⊢
  have hb5 := HBM.out.keep hk5
  have hs := hb5.s
  dsimp only at hs
  rw [HNN.out] at hs
  obtain ⟨q0, q1, q2, q3, q4⟩ := hs.cells5
  simp at hX5
  obtain ⟨x0, x1, x2, x3, x4, x5⟩ := hX5.cells6
  obtain ⟨z0', z1', z2', z3', z4', z5'⟩ := hX5.froz6
  have HB5 := hide hb5
  have HX5 := hide hX5
  have HK5 := hide hk5
  clear hw5 hs hX5 hb5 hk5
  have HSZ := hide HB.out.size
  have hs5 := HB5.out.s
  dsimp only at hs5
  rw [HNN.out] at hs5
  have p1 : ∀ o, (w5.alloc o).cell? ⟨w.heap.size, 1, none⟩ = some (.slice A1 n1 c1) := fun o => (hs5.alloc o).cell 1
  have p2 : ∀ o o', ((w5.alloc o).alloc o').cell? ⟨w.heap.size, 1, none⟩ = some (.slice A1 n1 c1) := fun o o' => ((hs5.alloc o).alloc o').cell 1
  have o0 : ∀ o, (w5.alloc o).cell? ⟨wm.heap.size, 0, none⟩ = some (.int .i64 y.f0) := fun o => (HX5.out.alloc o).cell 0
  have o1 : ∀ o, (w5.alloc o).cell? ⟨wm.heap.size, 1, none⟩ = some (.string y.f1) := fun o => (HX5.out.alloc o).cell 1
  have o2 : ∀ o, (w5.alloc o).cell? ⟨wm.heap.size, 2, none⟩ = some (.string y.f2) := fun o => (HX5.out.alloc o).cell 2
  have o3 : ∀ o, (w5.alloc o).cell? ⟨wm.heap.size, 3, none⟩ = some (.int .i64 y.f3) := fun o => (HX5.out.alloc o).cell 3
  have o4 : ∀ o, (w5.alloc o).cell? ⟨wm.heap.size, 4, none⟩ = some (.bool true) := fun o => (HX5.out.alloc o).cell 4
  have o5 : ∀ o, (w5.alloc o).cell? ⟨wm.heap.size, 5, none⟩ = some (.bool true) := fun o => (HX5.out.alloc o).cell 5
  have hl2 : n1 < 1000 := HD1.out
  have HDL := hide hD
  have HDC := hide (fun (W' : World) (hk : Keep [] w5 W') => rowC_of (HB5.out.keep hk).h.d)
  have hk7 : ∀ {w7 : World}, Bx w0 w w5 ⟨.slice (some ⟨g, 0, none⟩) n0 c0, .slice A1 n1 c1, .slice A2 n2 c2, .slice A3 n3 c3⟩ x → Keep [w5.heap.size] (w5.alloc (.cells #[] RXT)).drew w7 → Keep [] w5 w7 := fun _ hK => ((Keep.refl [] w5).alloc _).drew.trans hK (by simp) (fun x hx hlt => by simp at hx; omega)
  have hszw := HB5.out.k.size
  go_region_law (first
    | (refine Own.append_rowsC_step kRX fltR (W := (w5.alloc (.cells #[] RXT)).drew) w.heap.size (by simp [Region.wanted]) (.tmp 74) (.tmp 76) 43 RXT _ _ rfl Tryd.underlying43 infoR rfl (by decide) (by decide) (.slice (some ⟨w5.heap.size, 0, none⟩) 0 0) [] x.D A1 n1 c1 (by simp [Act.eval]) (by simp [Act.eval]) ?aO ?aC ?aB ?aL ?_; (case aO => exact (Own.fresh (w := w5) hszw).keep (Keep.refl [] _).drew (by simp)); (case aC => exact HDC.out _ ((Keep.refl [] w5).alloc _).drew); (case aB => simp; omega); (case aL => simp; omega); intro v7 w7 hO7 hg7 hr7; obtain ⟨B7, d7, rfl⟩ := hO7.slice; rw [List.nil_append] at hO7 hr7 ⊢; have hK7 : Keep [w5.heap.size] (w5.alloc (.cells #[] RXT)).drew w7 := Keep.of_grown hg7 (fun k e _ => by simp [Value.ownBlock] at e; simp [e]); have hX7 := (HX5.out.alloc (.cells #[] RXT)).drew.keep hK7 (by have := HX5.out.lt; simp; omega); obtain ⟨x0, x1, x2, x3, x4, x5⟩ := hX7.cells6; have hB7 := HB5.out.keep (hk7 HB5.out hK7); have HB7 := hide hB7; have HO7 := hide hO7; have HR7 := hide hr7; clear hX7 hB7 hO7 hg7 hr7 hK7)
    | (refine Own.append_step2 kRX fltR (W := w7) w.heap.size (by simp [Region.wanted]) (.tmp 77) (.tmp 79) 43 RXT _ _ rfl Tryd.underlying43 infoR rfl (by decide) (by decide) (.slice B7 x.D.length d7) x.D ⟨y.f0, y.f1, y.f2, y.f3, true, true⟩ _ (by simp [Act.eval]) w7.heap.size (by simp) (by simp [Act.eval]) (k87_mkM _ _ _ _) HO7.out ?bB ?bL ?_; (case bB => exact HB7.out.k.size); (case bL => have := HDL.out; omega); intro v8 w8 hO8 hg8 hr8; obtain ⟨B8, d8, hv8⟩ := hO8.slice; obtain ⟨m8, hm8⟩ : ∃ m, (x.D ++ [(⟨y.f0, y.f1, y.f2, y.f3, true, true⟩ : RX)]).length = m := ⟨_, rfl⟩; rw [hm8] at hv8; subst hv8; clear hm8; have hB8 := HB7.out.grown HH.out HO7.out (by decide) hg8; have hs8 := hB8.s; dsimp only at hs8; rw [HNN.out] at hs8; have s81 := hs8.cell 1; have f81 := hs8.frozen 1 (by simp); have HB8 := hide hB8; have HO8 := hide hO8; clear hB8 hO8 hg8 hr8 hs8)
    | (refine Own.append_rowsC_step kRX fltR (W := ((w5.alloc (.cells #[] RXT)).alloc (.cells #[.int .i64 y.f0, .string y.f1, .string y.f2, .int .i64 y.f3, .bool true, .bool true] RXT)).drew) w.heap.size (by simp [Region.wanted]) (.tmp 74) (.tmp 76) 43 RXT _ _ rfl Tryd.underlying43 infoR rfl (by decide) (by decide) (.slice (some ⟨w5.heap.size, 0, none⟩) 0 0) [] x.D A1 n1 c1 (by simp [Act.eval]) (by simp [Act.eval]) ?aO ?aC ?aB ?aL ?_; (case aO => exact (Own.fresh (w := w5) hszw).keep (((Keep.refl [] _).alloc _).drew) (by simp)); (case aC => exact HDC.out _ (((Keep.refl [] w5).alloc _).alloc _).drew); (case aB => simp; omega); (case aL => simp; omega); intro v7 w7 hO7 hg7 hr7; obtain ⟨B7, d7, rfl⟩ := hO7.slice; rw [List.nil_append] at hO7 hr7 ⊢; have hK7 : Keep [w5.heap.size] ((w5.alloc (.cells #[] RXT)).alloc (.cells #[.int .i64 y.f0, .string y.f1, .string y.f2, .int .i64 y.f3, .bool true, .bool true] RXT)).drew w7 := Keep.of_grown hg7 (fun k e _ => by simp [Value.ownBlock] at e; simp [e]); have hC7 : kRX.C w7 (some ⟨w5.heap.size + 1, 0, none⟩) 1 [⟨y.f0, y.f1, y.f2, y.f3, true, true⟩] := blkC (y := ⟨y.f0, y.f1, y.f2, y.f3, true, true⟩) (Blk.keep (Blk.new' (w := w5.alloc (.cells #[] RXT)) _ _ (by simp)).drew hK7 (by simp)); have hB7 := HB5.out.keep (Keep.trans (S := []) (((Keep.refl [] w5).alloc _).alloc _).drew hK7 (by simp) (fun x hx hlt => by simp at hx; omega)); have HB7 := hide hB7; have HO7 := hide hO7; have HR7 := hide hr7; have HC7 := hide hC7; clear hB7 hO7 hg7 hr7 hK7 hC7)
    | (refine Own.append_rowsC_step kRX fltR (W := ((w5.alloc (.cells #[.int .i64 y.f0, .string y.f1, .string y.f2, .int .i64 y.f3, .bool true, .bool true] RXT)).alloc (.cells #[] RXT)).drew) w.heap.size (by simp [Region.wanted]) (.tmp 74) (.tmp 76) 43 RXT _ _ rfl Tryd.underlying43 infoR rfl (by decide) (by decide) (.slice (some ⟨w5.heap.size + 1, 0, none⟩) 0 0) [] x.D A1 n1 c1 (by simp [Act.eval]) (by simp [Act.eval]) ?aO ?aC ?aB ?aL ?_; (case aO => exact (by have h9 := Own.fresh (d := kRX) (e := RXT) (w := w5.alloc (.cells #[.int .i64 y.f0, .string y.f1, .string y.f2, .int .i64 y.f3, .bool true, .bool true] RXT)) (base := w.heap.size) (by simp; omega); rw [show (w5.alloc (.cells #[.int .i64 y.f0, .string y.f1, .string y.f2, .int .i64 y.f3, .bool true, .bool true] RXT)).heap.size = w5.heap.size + 1 by simp] at h9; exact h9.keep ((Keep.refl [] _).drew) (by simp))); (case aC => exact HDC.out _ (((Keep.refl [] w5).alloc _).alloc _).drew); (case aB => simp; omega); (case aL => simp; omega); intro v7 w7 hO7 hg7 hr7; obtain ⟨B7, d7, rfl⟩ := hO7.slice; rw [List.nil_append] at hO7 hr7 ⊢; have hK7 : Keep [w5.heap.size + 1] ((w5.alloc (.cells #[.int .i64 y.f0, .string y.f1, .string y.f2, .int .i64 y.f3, .bool true, .bool true] RXT)).alloc (.cells #[] RXT)).drew w7 := Keep.of_grown hg7 (fun k e _ => by simp [Value.ownBlock] at e; simp [e]); have hC7 : kRX.C w7 (some ⟨w5.heap.size, 0, none⟩) 1 [⟨y.f0, y.f1, y.f2, y.f3, true, true⟩] := blkC (y := ⟨y.f0, y.f1, y.f2, y.f3, true, true⟩) (Blk.keep ((Blk.new w5 _ _).alloc (.cells #[] RXT)).drew hK7 (by simp)); have hB7 := HB5.out.keep (Keep.trans (S := []) (((Keep.refl [] w5).alloc _).alloc _).drew hK7 (by simp) (fun x hx hlt => by simp at hx; omega)); have HB7 := hide hB7; have HO7 := hide hO7; have HR7 := hide hr7; have HC7 := hide hC7; clear hB7 hO7 hg7 hr7 hK7 hC7)
    | (refine Own.append_rowsC_step kRX fltR (W := w7) w.heap.size (by simp [Region.wanted]) (.tmp 77) (.tmp 79) 43 RXT _ _ rfl Tryd.underlying43 infoR rfl (by decide) (by decide) (.slice B7 x.D.length d7) x.D [⟨y.f0, y.f1, y.f2, y.f3, true, true⟩] (some ⟨w5.heap.size + 1, 0, none⟩) 1 1 (by simp [Act.eval]) (by simp [Act.eval]) HO7.out HC7.out ?cB ?cL ?_; (case cB => exact HB7.out.k.size); (case cL => have := HDL.out; omega); intro v8 w8 hO8 hg8 hr8; obtain ⟨B8, d8, hv8⟩ := hO8.slice; obtain ⟨m8, hm8⟩ : ∃ m, (x.D ++ [(⟨y.f0, y.f1, y.f2, y.f3, true, true⟩ : RX)]).length = m := ⟨_, rfl⟩; rw [hm8] at hv8; subst hv8; clear hm8; have hB8 := HB7.out.grown HH.out HO7.out (by decide) hg8; have hs8 := hB8.s; dsimp only at hs8; rw [HNN.out] at hs8; have s81 := hs8.cell 1; have f81 := hs8.frozen 1 (by simp); have HB8 := hide hB8; have HO8 := hide hO8; clear hB8 hO8 hg8 hr8 hs8)
    | (refine Own.append_rowsC_step kRX fltR (W := w7) w.heap.size (by simp [Region.wanted]) (.tmp 77) (.tmp 79) 43 RXT _ _ rfl Tryd.underlying43 infoR rfl (by decide) (by decide) (.slice B7 x.D.length d7) x.D [⟨y.f0, y.f1, y.f2, y.f3, true, true⟩] (some ⟨w5.heap.size, 0, none⟩) 1 1 (by simp [Act.eval]) (by simp [Act.eval]) HO7.out HC7.out ?cB ?cL ?_; (case cB => exact HB7.out.k.size); (case cL => have := HDL.out; omega); intro v8 w8 hO8 hg8 hr8; obtain ⟨B8, d8, hv8⟩ := hO8.slice; obtain ⟨m8, hm8⟩ : ∃ m, (x.D ++ [(⟨y.f0, y.f1, y.f2, y.f3, true, true⟩ : RX)]).length = m := ⟨_, rfl⟩; rw [hm8] at hv8; subst hv8; clear hm8; have hB8 := HB7.out.grown HH.out HO7.out (by decide) hg8; have hs8 := hB8.s; dsimp only at hs8; rw [HNN.out] at hs8; have s81 := hs8.cell 1; have f81 := hs8.frozen 1 (by simp); have HB8 := hide hB8; have HO8 := hide hO8; clear hB8 hO8 hg8 hr8 hs8)
    | (trace_state; fail)
    | fail)
  all_goals
    have hdn := bx_done HB8.out HH.out HSZ.out HO8.out
    have HDN := hide hdn
    clear hdn HB8 HO8 HB7 HO7 HR7
    go_upto_region 23 with fail
    obtain ⟨hb9, hn9⟩ := HDN.out
    obtain ⟨w9, hw9⟩ : ∃ w9, w8.setCell ⟨w.heap.size, 1, none⟩ (.slice B8 m8 d8) = w9 := ⟨_, rfl⟩
    rw [hw9] at hb9 ⊢
    have hs9 := hb9.s
    dsimp only at hs9
    rw [HNN.out] at hs9
    obtain ⟨q0, q1, q2, q3, q4⟩ := hs9.cells5
    have hcall := mDrop (keep_below HB.out hb9.k) hb9.h hl id
    simp only [HNN.out, Vs.val] at hcall
    have HC := hide hcall
    have HB9 := hide hb9
    have HN9 := hide hn9
    clear hcall hb9 hn9 hs9 hw9 HDN s81 f81 p1 p2 o0 o1 o2 o3 o4 o5
    go_wp2_with fail
    refine HC.out.mono ?_
    rintro e w4 ⟨v4, rfl, hm4, hn4, hk4, hBl4⟩
    obtain ⟨hr4, hn5, hk5⟩ := bx_call HH.out HB9.out HN9.out hm4 hn4 hk4
    obtain ⟨hR9, hM9, hK9, hB9⟩ := bx_end hr4 hm4 hn5 hk5 hBl4 HB.out.size
    obtain ⟨B0, m0, d0, B1, m1, d1, B2, m2, d2, B3, m3, d3, rfl⟩ := hm4.form
    obtain ⟨f0, f1, f2, f3, f4⟩ := hr4.froz5
    obtain ⟨r0, r1, r2, r3, r4⟩ := hr4.cells5
    simp only [HNN.out, set5] at hR9 hM9 hK9 hB9
    have H9 := hide (And.intro hR9 (And.intro hM9 (And.intro hK9 hB9)))
    have HN5 := hide hn5
    simp only [Vs.val, HNN.out]
    clear hr4 hn5 hk5 hR9 hM9 hK9 hB9 hBl4 hm4 hn4 hk4 HC q0 q1 q2 q3 q4
    go_wp2_with fail
    obtain ⟨hR9, hM9, hK9, hB9⟩ := H9.out
    obtain ⟨w9', hw9'⟩ : ∃ w9', (((((w4.setCell { block := w.heap.size + 1, off := 0 } (Value.slice B0 m0 d0)).setCell { block := w.heap.size + 1, off := 1 } (Value.slice B1 m1 d1)).setCell { block := w.heap.size + 1, off := 2 } (Value.slice B2 m2 d2)).setCell { block := w.heap.size + 1, off := 3 } (Value.int IntKind.i64 nn)).setCell { block := w.heap.size + 1, off := 4 } (Value.slice B3 m3 d3)) = w9' := ⟨_, rfl⟩
    rw [hw9'] at hR9 hM9 hK9 hB9 ⊢
    obtain ⟨e0, e1, e2, e3, e4⟩ := hR9.cells5
    refine bodyPost_ret (v := .agg #[.slice B0 m0 d0, .slice B1 m1 d1, .slice B2 m2 d2, .int .i64 nn, .slice B3 m3 d3]) ?_ rfl ?_
    · simp [results, Tryd.results27, go_sem, e0, e1, e2, e3, e4]
    · exact ⟨⟨.slice B0 m0 d0, .slice B1 m1 d1, .slice B2 m2 d2, .slice B3 m3 d3⟩, by show _ = Ending.returned (Vs.val _ x.n); rw [HNN.out], over_mem hy4 HNN.out hM9, HN5.out, hK9, hB9⟩
end R25
end Go.Proofs.YtjhhnidfmoejdaaDoor
