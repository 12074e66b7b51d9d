import Derived.Test.YtegnmdnflmlioaaWh
import Derived.Test.YtegnmdnflmlioaaStill
namespace Go.Proofs.Ytegnmdnflmlioaa
open Go.RowKit Go.Shelf Go.Proofs.Ytegnmdnflmlioaa.PWillPlays Go.Proofs.YtegnmdnflmlioaaW.PrintWords Go.Proofs.YtegnmdnflmlioaaW.PrintLast
set_option maxRecDepth 100000
set_option linter.unusedVariables false
set_option maxHeartbeats 1000000
abbrev MsT : Nat := 39
abbrev kMs : Kd SM := k39
section
variable {α : Type} {P : Program} {ops : Array Oper} {rest : List Oper} {o : Oper} {a : Act} {Q : Exit → Act → World → Prop}
theorem Own.append_nest (d : Kd α) {W : World} (base : Nat) (hgd : o.guard = none) (s x : Operand) (t e : TypeId) (z : Value) (bytes : Nat)
    (ho : o.op = .call { callee := .builtin .append, args := #[s, x], argTypes := #[t, t] })
    (ht : P.underlying t = some (.slice e)) (hinfo : (P.info? e).map (fun i => (i.zero, i.size, i.bytes)) = some (some z, d.sz, bytes)) (hz : z.cells.size = d.sz) (hs0 : 0 < d.sz) (hb0 : 0 < bytes)
    (v : Value) (xs : List α) (p : α) (cs : List Value) (hs : a.eval s = v) (N : Nat) (hN : N = W.heap.size) (hx : a.eval x = .slice (some ⟨N, 0, none⟩) 1 1) (hp : d.M W base (fun k => some k ≠ v.ownBlock) p cs)
    (HO : Own d e base W v xs) (hbase : base ≤ W.heap.size) (hl : (xs.length + 1) * bytes ≤ 140737488355328)
    (h : ∀ v1 w1, Own d e base w1 v1 (xs ++ [p]) → W.grownBy w1 v.ownBlock → (∀ k, v.ownBlock = some k → base ≤ k) → wpList P ops Q rest (a.put o.dst v1) w1) :
    wpList P ops Q (o :: rest) a (W.alloc (.cells cs.toArray e)) :=
  Kd.R_append d (w0 := W) base hgd s x t e z bytes ho ht hinfo hz hs0 hb0 v xs p cs (fun _ => True) (fun k => some k ≠ v.ownBlock) hs (hN ▸ hx) hp (fun _ hk => ⟨trivial, hk⟩) (fun _ _ => trivial) HO (Below.refl _ _) hbase hl
    fun v1 w1 h1 _ h3 _ => h v1 w1 h1 h3 (Kd.R_base HO)
end
theorem Own.apart {α β : Type} {d : Kd α} {d' : Kd β} {e e' base base' : Nat} {w : World} {v v' : Value} {xs : List α} {ys : List β} (h : Own d e base w v xs) (h' : Own d' e' base' w v' ys) (hne : e ≠ e') (P : Nat → Prop) (hP : ∀ k, some k ≠ v'.ownBlock → P k) (hE : d.E = []) :
    d.R e w base P v xs := by
  refine Kd.R_mono (Kd.R_bound h) fun k hk => hP k fun e1 => ?_
  obtain ⟨_, _, _, q, hq, cells, hc⟩ := hk
  rw [hE] at hq
  simp at hq
  subst hq
  obtain ⟨_, _, ho, _⟩ := h'
  obtain ⟨cells', hc'⟩ := own_typed ho k e1.symm
  rw [hc] at hc'
  cases hc'
  exact hne rfl
section
variable {α β : Type} {d : Kd α} {d' : Kd β} {e e' base base' : Nat} {w w' : World} {v v' : Value} {xs : List α} {ys : List β}
theorem Own.typ_of (h' : Own d' e' base' w v' ys) {k : Nat} (hk : v'.ownBlock = some k) : ∃ cells, w.heap[k]? = some (.cells cells e' (0, 0)) := by
  obtain ⟨_, _, ho, _⟩ := h'
  exact own_typed ho k hk
theorem Own.kept_by (h : Own d e base w v xs) (h' : Own d' e' base' w v' ys) (hne : e' ∉ e :: d.E) (hg : w.grownBy w' v'.ownBlock) : Own d e base w' v xs := by
  refine h.keep (S := v'.ownBlock.toList) (Keep.of_grown hg (fun k e _ => by simp [e])) fun k hk => ?_
  rintro ⟨q, hq, cells, hc⟩
  obtain ⟨cells', hc'⟩ := h'.typ_of (k := k) (by simpa using hk)
  rw [hc] at hc'
  cases hc'
  exact hne hq
theorem Blk.kept_by {b : Nat} {cs : Array Value} {T : TypeId} (h : Blk w b cs T) (h' : Own d' e' base' w v' ys) (hne : T ≠ e') (hg : w.grownBy w' v'.ownBlock) : Blk w' b cs T :=
  h.of_block (hg.block b h.lt (fun e1 => by
    obtain ⟨cells', hc'⟩ := h'.typ_of (k := b) e1.symm
    obtain ⟨lo, hi, hb, _⟩ := h
    rw [hb] at hc'; cases hc'; exact hne rfl))
theorem MapAt.kept_by {κ ν : Type} {kf : κ → Value} {vf : ν → Value} {l : List (κ × ν)} {b : Nat} (h : MapAt w b kf vf l) (h' : Own d' e' base' w v' ys) (hg : w.grownBy w' v'.ownBlock) : MapAt w' b kf vf l :=
  h.of_block (hg.block b h.lt (fun e1 => by
    obtain ⟨cells', hc'⟩ := h'.typ_of (k := b) e1.symm
    obtain ⟨es, cl, hm, _⟩ := h
    rw [hm] at hc'; cases hc'))
theorem Keep.grown_at {S : List Nat} {w0 : World} (h : Keep S w0 w) (hg : w.grownBy w' v'.ownBlock) (hr : ∀ k, v'.ownBlock = some k → w0.heap.size ≤ k) : Keep S w0 w' :=
  h.trans (S1 := S) (S2 := v'.ownBlock.toList) (Keep.of_grown hg (fun k e _ => by simp [e])) (fun _ h _ => h) (fun x hx hlt => by have := hr x (by simpa using hx); omega)
end
def msgAt (hs : List (BA × Hd)) (now : Int) (e : En) : SM := { ((AL.get hs e.1).getD Hd.zero).m with f1 := now }
def delsH (hs : List (BA × Hd)) (ds : List En) : List (BA × Hd) := ds.foldl (fun m e => AL.del m e.1) hs
theorem delsH_snoc (hs : List (BA × Hd)) (ds : List En) (e : En) : delsH hs (ds ++ [e]) = AL.del (delsH hs ds) e.1 := by simp [delsH]
theorem delsH_nodup {hs : List (BA × Hd)} (h : (hs.map (·.1)).Nodup) : ∀ ds : List En, ((delsH hs ds).map (·.1)).Nodup := by
  intro ds
  induction ds generalizing hs with
  | nil => exact h
  | cons d t ih => exact ih (AL.nodup_del h d.1)
theorem delsH_get {hs : List (BA × Hd)} (h : (hs.map (·.1)).Nodup) : ∀ (ds : List En) (k : BA), AL.get (delsH hs ds) k = if (∃ e ∈ ds, e.1 = k) then none else AL.get hs k := by
  intro ds
  induction ds generalizing hs with
  | nil => intro k; simp [delsH]
  | cons d t ih =>
    intro k
    show AL.get (delsH (AL.del hs d.1) t) k = _
    rw [ih (AL.nodup_del h d.1), AL.get_del h]
    by_cases h1 : ∃ e ∈ t, e.1 = k
    · obtain ⟨e, he, hk⟩ := h1
      rw [if_pos ⟨e, he, hk⟩, if_pos ⟨e, by simp [he], hk⟩]
    · rw [if_neg h1]
      by_cases h2 : k = d.1
      · rw [if_pos h2, if_pos ⟨d, by simp, h2.symm⟩]
      · rw [if_neg h2, if_neg (by
          rintro ⟨e, he, hk⟩
          rcases List.mem_cons.1 he with rfl | he
          · exact h2 hk.symm
          · exact h1 ⟨e, he, hk⟩)]
theorem delsH_mem {hs : List (BA × Hd)} : ∀ {ds : List En} {p : BA × Hd}, p ∈ delsH hs ds → p ∈ hs := by
  intro ds
  induction ds generalizing hs with
  | nil => intro p h; exact h
  | cons d t ih => intro p h; exact mem_del (ih (hs := AL.del hs d.1) h)
theorem delsH_len {hs : List (BA × Hd)} : ∀ (ds : List En), (delsH hs ds).length ≤ hs.length := by
  intro ds
  induction ds generalizing hs with
  | nil => exact Nat.le_refl _
  | cons d t ih =>
    refine Nat.le_trans (ih (hs := AL.del hs d.1)) ?_
    rw [AL.length_del]; split <;> omega
theorem infoMs : (Try.prog.info? MsT).map (fun i => (i.zero, i.size, i.bytes)) = some (some (.agg #[.string ByteArray.empty, .int .i64 0, .int .u8 0, .bool false, .slice none 0 0, .string ByteArray.empty, .string ByteArray.empty]), 7, 88) := by kernel_rfl
theorem fieldHeld (a : BA) (i1 i2 : Int) (b3 : Bool) (v4 : Value) (c d : BA) (i7 : Int) (w : World) : (Instr.field 73 (.agg #[.string a, .int .i64 i1, .int .u8 i2, .bool b3, v4, .string c, .string d, .int .u32 i7]) 0).run Try.prog w = .ok (.agg #[.string a, .int .i64 i1, .int .u8 i2, .bool b3, v4, .string c, .string d]) w := by kernel_rfl
def dueRel (W w1 : World) (n b tn tb : Nat) (hs : List (BA × Hd)) (r : List En) (K : Nat) (now : Int) (ds : List En) (v : Value) (o i : Value) (wr : World) : Prop :=
  ∃ j : Nat, i = .int .i64 j ∧ j ≤ ds.length ∧ Own kMs MsT w1.heap.size wr o ((ds.take j).map (msgAt hs now)) ∧ Own kE EntT 0 wr v ds ∧
    Blk wr n #[.map (some b), ptrTo tn] 69 ∧ MapAt wr b Value.string heldV (delsH hs (ds.take j)) ∧ (∀ p ∈ hs, Own kPr PrT W.heap.size wr p.2.pv p.2.m.f4) ∧ Keep [b] w1 wr
theorem wDueK {W w : World} {n b tn tb : Nat} {hs : List (BA × Hd)} {r : List En} {K : Nat} (h : Ws W w n b tn tb hs r K) (now : Int) (hK : K < 100000) :
    Calls Try.prog 10 #[ptrTo n, .int .i64 now] w (Px fun (v : Value) e w' => e = .returned v ∧ Own kMs MsT w.heap.size w' v ((r.filter fun p => decide (p.2 ≤ now)).map (msgAt hs now)) ∧ Ws W w' n b tn tb (delsH hs (r.filter fun p => decide (p.2 ≤ now))) (r.filter fun p => decide (now < p.2)) K ∧ Keep [b, tb] w w') := by
  have c1 : w.cell? ⟨n, 1, none⟩ = some (ptrTo tn) := h.box.cell 1
  have HH := hide h
  have HT := hide (tDue h.tim hK now)
  have hn := h.map.nodup
  have hrk : (r.map (·.1)).Nodup := by
    obtain ⟨l, h1, h2, h3, h4, _⟩ := h.tim.ex
    exact (h4.1.map (·.1)).nodup_iff.2 h1.2.nodup
  have hrl := h.tim.len
  clear h
  have hfl := List.length_filter_le (fun p : En => decide (p.2 ≤ now)) r
  have hds0 : (((r.filter fun p => decide (p.2 ≤ now))).map (·.1)).Nodup := hrk.sublist (List.filter_sublist.map _)
  obtain ⟨ds, hds⟩ : ∃ ds, (r.filter fun p => decide (p.2 ≤ now)) = ds := ⟨_, rfl⟩
  rw [hds] at HT hfl hds0 ⊢
  have HDS := hide hds
  have HN := hide hn
  have HND := hide hds0
  clear hds hn hrk hds0
  go_enter Try.func10, Try.ntmps10
  go_wp2_with fail
  refine HT.out.mono ?_
  rintro e w1 ⟨v, rfl, hO, hM, hk1⟩
  obtain ⟨A, cc, rfl⟩ := hO.slice
  have h1 := HH.out.offt hk1 hM (Nat.le_refl K) (fun p hp => HH.out.inn p (List.mem_filter.1 hp).1)
  have HM := hide hM
  have hz1 := hk1.size
  have HK1 := hide hk1
  clear hM hk1 HT
  go_wp2_with fail
  go_loopw [5, 16] (fun o i wr => dueRel W w1 n b tn tb hs r K now ds (.slice A ds.length cc) o i wr) (fun _ i _ => ds.length - (intOf i).toNat)
  case atStart => exact ⟨0, rfl, by omega, Own.nil _ _ _ _, hO.lower (by omega), h1.box, h1.map, h1.own, Keep.refl _ _⟩
  case round =>
    obtain ⟨j, rfl, hj, hOo, hOd, hB, hMp, hPs, hKr⟩ := hrel
    have hne := hMp.ne_blk hB
    have hszr := hKr.size
    by_cases hlt : j < ds.length
    · obtain ⟨g, cap, hv, hgb, hg, x0, x1⟩ := own_ent_at hOd hlt
      obtain ⟨rfl, rfl⟩ : A = some ⟨g, 0, none⟩ ∧ cc = cap := by injection hv with h1 _ h3; exact ⟨h1, h3⟩
      clear hv
      have htk : ds.take (j + 1) = ds.take j ++ [ds[j]] := by rw [List.take_succ_eq_append_getElem hlt]
      have hgj : AL.get (delsH hs (ds.take j)) ds[j].1 = AL.get hs ds[j].1 := by
        rw [delsH_get HN.out, if_neg]
        rintro ⟨e, he, hk⟩
        obtain ⟨i, hi, hie⟩ := List.getElem_of_mem he
        have hi' : i < j := by simp at hi; omega
        have e1 : (ds.map (·.1))[i]'(by simp; omega) = (ds.map (·.1))[j]'(by simpa using hlt) := by
          simp only [List.getElem_map]
          rw [List.getElem_take] at hie
          rw [hie, hk]
        exact List.pairwise_iff_getElem.1 HND.out i j (by simp; omega) (by simpa using hlt) hi' e1
      have hin : (AL.get hs ds[j].1).isSome = true := by
        have h6 : ∀ x, x ∈ ds → x ∈ r := fun x hx => by rw [← HDS.out] at hx; exact (List.mem_filter.1 hx).1
        exact HH.out.inn ds[j] (h6 _ (List.getElem_mem hlt))
      have hma : msgAt hs now ds[j] = { ((AL.get hs ds[j].1).getD Hd.zero).m with f1 := now } := rfl
      obtain ⟨x, hx⟩ : ∃ x, (AL.get hs ds[j].1).getD Hd.zero = x := ⟨_, rfl⟩
      have hxm : (ds[j].1, x) ∈ hs := by
        cases hg : AL.get hs ds[j].1 with
        | none => rw [hg] at hin; cases hin
        | some y => rw [hg] at hx; cases hx; exact get_mem2 hg
      have hPx := hPs _ hxm
      have hplx := HH.out.plen _ hxm
      rw [hx] at hma
      have hgx : (AL.get (delsH hs (ds.take j)) ds[j].1).getD Hd.zero = x := by rw [hgj]; exact hx
      obtain ⟨⟨m0, m1, m2, m3, m4, m5, m6⟩, xp, xd⟩ := x
      simp only at hPx hplx hma
      obtain ⟨xA, xc, rfl⟩ := hPx.slice
      obtain ⟨⟨k, at0⟩, hxk⟩ : ∃ x, ds[j] = x := ⟨_, rfl⟩
      rw [hxk] at x0 x1 htk hgx hma
      simp only at x0 x1 hgx
      have hka := (Keep.refl [] wr).alloc (.cells #[.string k, .int .i64 at0] EntT)
      have hXk := (Blk.new wr #[.string k, .int .i64 at0] EntT).drew
      have hlt3 : (j : Int) < (ds.length : Int) := by omega
      have HO := hide hOo
      have HD := hide hOd
      have HT := hide htk
      have HA := hide hma
      have HP := hide hPs
      have HPX := hide hPx
      have hB0 := hide hB
      have HMp0 := hide hMp
      have HB := hide (hB.keep hka (by simp))
      have HMp := hide (hMp.keep hka (by simp))
      have HLT := hide hlt
      have hXk := Blk.new wr #[.string k, .int .i64 at0] EntT
      obtain ⟨wA, hwA⟩ : ∃ wA, wr.alloc (.cells #[.string k, .int .i64 at0] EntT) = wA := ⟨_, rfl⟩
      have hsA : wA.heap.size = wr.heap.size + 1 := by rw [← hwA]; simp
      rw [hwA] at hka hXk HB HMp
      have HSA := hide hsA
      have HXK := hide hXk
      have HKA := hide hka
      have HS := hide (fun (w' : World) (hk : Keep [] wA w') => show w'.cell? ⟨n, 0, none⟩ = some (.map (some b)) ∧ w'.cell? ⟨wr.heap.size, 0, none⟩ = some (.string k) ∧ (Instr.lookup 65 (.map (some b)) (.string k) false).run Try.prog w' = .ok (.agg #[.string m0, .int .i64 m1, .int .u8 m2, .bool m3, .slice xA m4.length xc, .string m5, .string m6, .int .u32 xd]) w' from by
        refine ⟨(HB.out.keep hk (by simp)).cell 0, (HXK.out.keep hk (by simp)).cell 0, ?_⟩
        have look := run_lookup_map lawStr Try.underlying65 (HMp.out.keep hk (by simp)) (zeroHeld _) k false
        rw [show optV heldV (heldV Hd.zero) (AL.get (delsH hs (ds.take j)) k) = heldV ((AL.get (delsH hs (ds.take j)) k).getD Hd.zero) from by cases AL.get (delsH hs (ds.take j)) k <;> rfl, hgx] at look
        simpa only [heldV, Bool.false_eq_true, if_false] using look)
      have hfd := fieldHeld m0 m1 m2 m3 (.slice xA m4.length xc) m5 m6 xd
      clear hOo hOd htk hma hPs hPx hB hMp hgj hin hx hxm hxk hgx hlt hka hXk hsA
      go_wp2_with fail
      clear hwA
      go_region_held3 (fun w' => w'.cell? ⟨n, 0, none⟩ = some (.map (some b)) ∧ w'.cell? ⟨wr.heap.size, 0, none⟩ = some (.string k) ∧ (Instr.lookup 65 (.map (some b)) (.string k) false).run Try.prog w' = .ok (.agg #[.string m0, .int .i64 m1, .int .u8 m2, .bool m3, .slice xA m4.length xc, .string m5, .string m6, .int .u32 xd]) w')
        (exact HS.out _ (by first | exact Keep.refl _ _ | exact (Keep.refl _ _).drew | exact ((Keep.refl _ _).drew).alloc _ | exact (((Keep.refl _ _).drew).alloc _).setCell (by simp) _)) (fail)
      all_goals
        go_wp2_with fail
        have hkm := (((Keep.refl [] wA).alloc (.cells #[.string m0, .int .i64 m1, .int .u8 m2, .bool m3, .slice xA m4.length xc, .string m5, .string m6] MsT)).drew)
        have hXm := (Blk.new wA #[.string m0, .int .i64 m1, .int .u8 m2, .bool m3, .slice xA m4.length xc, .string m5, .string m6] MsT).drew
        have HKM := hide hkm
        refine (clonePr (HPX.out.keep (HKA.out.then hkm) (by simp)) (by omega)).mono ?_
        rintro e w3 ⟨v2, rfl, hOv, hk3⟩
        obtain ⟨A2, c2, rfl⟩ := hOv.slice
        have hX3 := hXm.keep hk3 (by simp)
        have hsz3 := hk3.size
        have hszm : ((wA.alloc (.cells #[.string m0, .int .i64 m1, .int .u8 m2, .bool m3, .slice xA m4.length xc, .string m5, .string m6] MsT)).drew).heap.size = wr.heap.size + 2 := by simp [HSA.out]
        rw [hszm] at hsz3
        have hkr3 : Keep [] wr w3 := (HKA.out.then HKM.out).then hk3
        have g0 := hX3.cell 0
        have g1 := hX3.cell 1
        have g2 := hX3.cell 2
        have g3 := hX3.cell 3
        have g4 := hX3.cell 4
        have g5 := hX3.cell 5
        have g6 := hX3.cell 6
        have f1 := hX3.frozen 1 (by simp)
        have f4 := hX3.frozen 4 (by simp)
        simp at g0 g1 g2 g3 g4 g5 g6
        have HX3 := hide hX3
        have HK3 := hide hk3
        have HKR3 := hide hkr3
        have HOV := hide hOv
        have HSZ := hide (And.intro hsz3 hszm)
        clear hkm hXm hX3 hk3 hkr3 hOv hsz3 hszm
        go_wp2_with fail
        refine still_tail 6 (by kernel_rfl) (by kernel_rfl) fun w5 hw5 => ?_
        have hX5 := ((HX3.out.set 1 (.int .i64 now)).set 4 (.slice A2 m4.length c2)).drew
        rw [hw5] at hX5
        have hk35 : Keep [wA.heap.size] w3 w5 := by
          rw [← hw5]
          exact (((Keep.refl [wA.heap.size] w3).setCell (by simp) _).setCell (by simp) _).drew
        have hlA : wr.heap.size < wA.heap.size := by rw [HSA.out]; omega
        have hkr5 : Keep [] wr w5 := HKR3.out.trans hk35 (by simp) (fun x hx hlt => by simp at hx; omega)
        have hB5 := hB0.out.keep hkr5 (by simp)
        have hM5 := HMp0.out.keep hkr5 (by simp)
        have hbl := HMp0.out.lt
        have hXk5 : Blk w5 wr.heap.size #[.string k, .int .i64 at0] EntT := ((HXK.out.keep HKM.out (by simp)).keep HK3.out (by simp)).keep hk35 (by simp; omega)
        have hOv5 := HOV.out.keep hk35 (by simp; exact not_of_blk HX3.out (by decide))
        have hO5 := HO.out.keep hkr5 (by simp)
        have hD5 := HD.out.keep hkr5 (by simp)
        have hP5 : ∀ p ∈ hs, Own kPr PrT W.heap.size w5 p.2.pv p.2.m.f4 := fun p hp => (HP.out p hp).keep hkr5 (by simp)
        have q0 := hB5.cell 0
        have q1 := hXk5.cell 0
        simp at q0 q1
        have HX5 := hide hX5
        have HKR5 := hide hkr5
        have HB5 := hide hB5
        have HM5 := hide hM5
        have HOV5 := hide hOv5
        have HO5 := hide hO5
        have HD5 := hide hD5
        have HP5 := hide hP5
        have HLA := hide hlA
        have F6 := hide (fun (w6 : World) (hK6 : Keep [b] w5 w6) => show w6.cell? ⟨wA.heap.size, 0, none⟩ = some (.string m0) ∧ w6.cell? ⟨wA.heap.size, 1, none⟩ = some (.int .i64 now) ∧ w6.cell? ⟨wA.heap.size, 2, none⟩ = some (.int .u8 m2) ∧ w6.cell? ⟨wA.heap.size, 3, none⟩ = some (.bool m3) ∧ w6.cell? ⟨wA.heap.size, 4, none⟩ = some (.slice A2 m4.length c2) ∧ w6.cell? ⟨wA.heap.size, 5, none⟩ = some (.string m5) ∧ w6.cell? ⟨wA.heap.size, 6, none⟩ = some (.string m6) ∧ Own kMs MsT w1.heap.size w6 u5 ((ds.take j).map (msgAt hs now)) ∧ kPr.R PrT w6 w1.heap.size (fun k => some k ≠ u5.ownBlock) (.slice A2 m4.length c2) m4 from by
          have hX6 := hX5.keep hK6 (by simp; omega)
          have hO6 := hO5.keep hK6 (by simp; exact not_of_map hM5 _)
          have hOv6 := (hOv5.keep hK6 (by simp; exact not_of_map hM5 _)).lower (base' := w1.heap.size) (by have := HSZ.out.1; have := HSZ.out.2; omega)
          exact ⟨hX6.cell 0, hX6.cell 1, hX6.cell 2, hX6.cell 3, hX6.cell 4, hX6.cell 5, hX6.cell 6, hO6, Own.apart hOv6 hO6 (by decide) _ (fun k h => h) rfl⟩)
        have hsz5 := hkr5.size
        have HW5 := hide (show wA.heap.size < w5.heap.size from hX5.lt)
        have HSZ3 := hide hsz5
        clear g0 g1 g2 g3 g4 g5 g6 f1 f4 hw5 hk35 hX5 hkr5 hB5 hM5 hXk5 hOv5 hO5 hD5 hP5 hlA hsz5
        simp only [List.take_succ_cons, List.take_zero, List.drop_succ_cons, List.drop_zero]
        repeat still_step
        refine wpStill_nil ?_
        go_wp2_with (first
          | (refine wpList_delete_map rfl _ _ 65 9 rfl 73 lawStr Try.underlying65 b (delsH hs (ds.take j)) rfl HM5.out k rfl ?_; intro w6 hM6 hK6 hz6; obtain ⟨g0, g1, g2, g3, g4, g5, g6, hO6, hR6⟩ := F6.out w6 hK6; have HM6 := hide hM6; have HK6 := hide hK6; have HZ6 := hide hz6; have HO6 := hide hO6; have HR6 := hide hR6; clear hM6 hK6 hz6 hO6 hR6 q0 q1)
          | (at_builtin; refine Own.append_nest kMs (W := w6) w1.heap.size rfl (.tmp 40) (.tmp 42) 35 MsT _ _ rfl Try.underlying35 infoMs rfl (by decide) (by decide) _ ((ds.take j).map (msgAt hs now)) ⟨m0, now, m2, m3, m4, m5, m6⟩ _ rfl _ (by simp) rfl (k39_mkM _ _ _ _ HR6.out) HO6.out (by have := HZ6.out; have := HSZ3.out; omega) (by simp; omega) ?_; intro v1 w7 hO7 hg7 hr7))
        have hbW := HMp0.out.lt
        have h5 : ((ds.take j).map (msgAt hs now)) ++ [(⟨m0, now, m2, m3, m4, m5, m6⟩ : SM)] = (ds.take (j + 1)).map (msgAt hs now) := by
          rw [HT.out, List.map_append, List.map_cons, List.map_nil, HA.out]
        rw [h5] at hO7
        have h6 : AL.del (delsH hs (ds.take j)) k = delsH hs (ds.take (j + 1)) := by rw [HT.out, delsH_snoc]
        have hM6 := HM6.out
        rw [h6] at hM6
        have hKw6 : Keep [b] w1 w6 := (hKr.then (HKR5.out.mono (by simp))).then HK6.out
        have hnm := not_of_map HM5.out
        have hD6 := HD5.out.keep HK6.out (by simp; exact hnm _)
        have hB6 := HB5.out.keep HK6.out (by simpa using hne)
        have hD7 := hD6.kept_by HO6.out (by decide) hg7
        have hB7 := hB6.kept_by HO6.out (by decide) hg7
        have hM7 := hM6.kept_by HO6.out hg7
        have hP7 : ∀ p ∈ hs, Own kPr PrT W.heap.size w7 p.2.pv p.2.m.f4 := fun p hp => ((HP5.out p hp).keep HK6.out (by simp; exact hnm _)).kept_by HO6.out (by decide) hg7
        have hK7 := hKw6.grown_at hg7 hr7
        have hjl := HLT.out
        exact ⟨⟨j + 1, by simp, by omega, hO7, hD7, hB7, hM7, hP7, hK7⟩, by simp [intOf] <;> omega⟩
    · obtain rfl : j = ds.length := by omega
      rw [List.take_length] at hOo hMp
      have hl1 := hOo.slice
      go_wp2_with fail
      go_ret
      have hT : Mt W wr tn tb _ K := HM.out.off hKr (by intro x hx _; simp at hx; rw [hx]; exact ⟨h1.ntn, h1.ne⟩)
      refine ⟨_, rfl, hOo.lower hz1, ?_, ((HK1.out.mono (by simp)).trans hKr (fun _ h _ => h) (by simp))⟩
      refine ⟨hB, hMp, hT, h1.bn, h1.bb, h1.ne, fun p hp => hPs p (delsH_mem hp), fun p hp => h1.dl p (delsH_mem hp), fun p hp => ?_, Nat.le_trans (delsH_len ds) h1.len, fun p hp => h1.plen p (delsH_mem hp)⟩
      rw [delsH_get HN.out, if_neg]
      · exact h1.inn p hp
      · rintro ⟨e, he, hk⟩
        rw [← HDS.out] at he
        obtain ⟨l, e1, e2, e3, e4, _⟩ := HH.out.tim.ex
        have hnd : (r.map (·.1)).Nodup := (e4.1.map (·.1)).nodup_iff.2 e1.2.nodup
        obtain ⟨he1, he2⟩ := List.mem_filter.1 he
        obtain ⟨hp1, hp2⟩ := List.mem_filter.1 hp
        have a1 := get_mem hnd he1
        have a2 := get_mem hnd hp1
        rw [hk, a2] at a1
        simp at he2 hp2
        have : p.2 = e.2 := by injection a1
        omega
theorem wDue {W w : World} {n b tn tb : Nat} {hs : List (BA × Hd)} {r : List En} {K : Nat} (h : Ws W w n b tn tb hs r K) (now : Int) (hK : K < 100000) :
    Calls Try.prog 10 #[ptrTo n, .int .i64 now] w (Px fun (v : Value) e w' => e = .returned v ∧ Own kMs MsT w.heap.size w' v ((r.filter fun p => decide (p.2 ≤ now)).map (msgAt hs now)) ∧ Ws W w' n b tn tb (delsH hs (r.filter fun p => decide (p.2 ≤ now))) (r.filter fun p => decide (now < p.2)) K ∧ KM W w w') :=
  (wDueK h now hK).mono fun e w' ⟨v, h1, h2, h3, h4⟩ => ⟨v, h1, h2, h3, h.km h4 (by simp)⟩
end Go.Proofs.Ytegnmdnflmlioaa
