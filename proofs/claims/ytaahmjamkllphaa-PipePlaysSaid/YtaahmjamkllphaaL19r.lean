/- The walks of the document's functions for layer 19. -/
import Derived.Test.YtaahmjamkllphaaR19
import Derived.Outline
import Derived.Deep.DeepFit
import Derived.Deep.RegionHeld3
namespace Go.Proofs.Ytaahmjamkllphaa
open Go.RowKit Go.Proofs.Ytaahmjamkllphaa.PHang Go.Proofs.YtaahmjamkllphaaW.PrintWords
set_option maxRecDepth 10000
set_option linter.unusedVariables false
set_option maxHeartbeats 2000000

abbrev ConnT : Nat := 52
abbrev kC : Kd R19.One := k52

theorem own_conn {base : Nat} {w : World} {v : Value} {l : List R19.One} (h : Own kC ConnT base w v l) {j : Nat} (hj : j < l.length) (c : R19.One) (hc : l[j] = c) :
    ∃ g cap, v = .slice (some ⟨g, 0, none⟩) l.length cap ∧ g < w.heap.size ∧ w.cell? ⟨g, j * 6, none⟩ = some (.int .i64 c.f0) ∧ w.cell? ⟨g, j * 6 + 1, none⟩ = some (.string c.f1) ∧ w.cell? ⟨g, j * 6 + 2, none⟩ = some (.int .i64 c.f2) ∧ w.cell? ⟨g, j * 6 + 3, none⟩ = some (.bool c.f3) ∧ w.cell? ⟨g, j * 6 + 4, none⟩ = some (.string c.f4) ∧ w.cell? ⟨g, j * 6 + 5, none⟩ = some (.bool c.f5) := by
  subst hc
  obtain ⟨g, cap, hv, _, hg⟩ := h.form (by omega)
  obtain ⟨A, c, hv', _, hC⟩ := h.reads
  rw [hv] at hv'
  cases hv'
  obtain ⟨ad, e, h0, h1, h2, h3, h4, h5⟩ := at_T52 hC (j : Int) (by omega) (by omega)
  cases e
  rw [R19.rd_at l j hj, show (j : Int).toNat = j by omega, add_plain] at h0 h1 h2 h3 h4 h5
  exact ⟨g, _, hv, hg, h0, h1, h2, h3, h4, h5⟩

theorem rd_some {l : List R19.One} {j : Nat} (hj : j < l.length) {c : R19.One} (h : rd_T52 l (j : Int) = c) : l[j] = c := by rw [← R19.rd_at l j hj]; exact h

theorem rHang_any  (v : Value) (l : List R19.One) (base : Nat) (id : Int) (w : World) (hO : Own kC ConnT base w v l) (hl : l.length < 1000) (hb : base ≤ w.heap.size) :
    Calls Try.prog 32 #[v, .int .i64 id] w (Px fun (v' : Value) e w' => e = .returned (.tuple #[v', .int .i64 (R19.pHang l id).2]) ∧ Own kC ConnT base w' v' (R19.pHang l id).1 ∧ Keep [] w w') := by
  obtain ⟨A, c0, rfl, hlc, hC⟩ := hO.reads
  cases hk : R19.lk l id with
  | none =>
    have hr : R19.pHang l id = (l, 7) := by unfold R19.pHang; rw [hk]
    rw [hr]
    have HF := hide (R19.may_none l id (by omega) (l.length + 1) (by omega) hk)
    clear hk hr
    go_enter Try.func32, Try.ntmps32
    go_wp2_with fail
    refine (switchboardref19_may.calls (l.length + 1) A c0 l id 0 7 _ hC hlc HF.out).mono ?_
    rintro e w1 ⟨rfl, hb1⟩
    go_wp2_with fail
    go_ret2
    exact ⟨_, rfl, hO.below hb1, Keep.of_below hb1⟩
  | some c =>
    obtain ⟨j, hm, hj, hrd, hid, hset⟩ := R19.may_some l id (by omega) (l.length + 1) (by omega) c hk
    have hcj := rd_some hj hrd
    cases hh : c.f5 with
    | true =>
      rw [hh] at hm
      have hr : R19.pHang l id = (l, 13) := by unfold R19.pHang; rw [hk]; simp [hh]
      rw [hr]
      have HF := hide (show switchboardref19_may.f (l.length + 1) l id = some ((j : Int), 13) from hm)
      clear hk hr hm hh hrd hid hset
      go_enter Try.func32, Try.ntmps32
      go_wp2_with fail
      refine (switchboardref19_may.calls (l.length + 1) A c0 l id j 13 _ hC hlc HF.out).mono ?_
      rintro e w1 ⟨rfl, hb1⟩
      go_wp2_with fail
      go_ret2
      exact ⟨_, rfl, hO.below hb1, Keep.of_below hb1⟩
    | false =>
      rw [hh] at hm
      have HF := hide (show switchboardref19_may.f (l.length + 1) l id = some ((j : Int), 0) from hm)
      obtain ⟨c0_, c1_, c2_, c3_, c4_, c5_⟩ := c
      simp only at hh hid
      subst hh
      have hjl : (j : Int) < (l.length : Int) := by omega
      have HSET := hide hset
      have HRS := fun (a1 : ByteArray) (a2 : Int) (a3 : Bool) (a4 : ByteArray) (a5 : Bool) => hide (show switchboardref19_set.f l (j : Int) c0_ a1 a2 a3 a4 a5 = some (R19.rep l id ⟨c0_, a1, a2, a3, a4, a5⟩) by rw [R19.set_f l j (by omega) hj, HSET.out])
      clear hm hset hrd hid
      have hr : R19.pHang l id = (R19.rep l id ⟨c0_, c1_, c2_, c3_, c4_, true⟩, 0) := by unfold R19.pHang; rw [hk]; rfl
      rw [hr]
      have HE := HRS c1_ c2_ c3_ c4_ true
      clear HRS hk hr
      go_enter Try.func32, Try.ntmps32
      go_wp2_with fail
      refine (switchboardref19_may.calls (l.length + 1) A c0 l id j 0 _ hC hlc HF.out).mono ?_
      rintro e w1 ⟨rfl, hb1⟩
      have hO1 := hO.below hb1
      have hC1 := Kd.C_below hC hb1
      obtain ⟨g, cap, hv, hg, d0, d1, d2, d3, d4, d5⟩ := own_conn hO1 hj _ hcj
      have hA : A = some ⟨g, 0, none⟩ := by injection hv
      subst hA
      clear hv hcj
      simp only at d0 d1 d2 d3 d4 d5
      go_wp2_with fail
      go_fit (switchboardref19_set.calls (some ⟨g, 0, none⟩) c0 l j c0_ c1_ c2_ c3_ c4_ true _ _ (Kd.C_alloc hC1 _) hlc HE.out)
      rintro e w2 ⟨v0, rfl, hR, hB2⟩
      go_wp2_with fail
      go_ret2
      exact ⟨v0, rfl, Own.of (Kd.R_lower hR (by have := hb1.size; simp; omega)), (Keep.of_below hb1).then (((Keep.refl [] w1).alloc _).then (Keep.of_below hB2))⟩

theorem rSay_any (s : ByteArray) (v : Value) (l : List R19.One) (base : Nat) (id : Int) (w : World) (hO : Own kC ConnT base w v l) (hl : l.length < 1000) (hb : base ≤ w.heap.size) (hs : ∀ c ∈ l, c.f4.size + s.size < 1000000000) :
    Calls Try.prog 31 #[v, .int .i64 id, .string s] w (Px fun (v' : Value) e w' => e = .returned (.tuple #[v', .int .i64 (R19.pSay l id s).2]) ∧ Own kC ConnT base w' v' (R19.pSay l id s).1 ∧ Keep [] w w') := by
  obtain ⟨A, c0, rfl, hlc, hC⟩ := hO.reads
  cases hk : R19.lk l id with
  | none =>
    have hr : R19.pSay l id s = (l, 7) := by unfold R19.pSay; rw [hk]
    rw [hr]
    have HF := hide (R19.may_none l id (by omega) (l.length + 1) (by omega) hk)
    clear hk hr
    go_enter Try.func31, Try.ntmps31
    go_wp2_with fail
    refine (switchboardref19_may.calls (l.length + 1) A c0 l id 0 7 _ hC hlc HF.out).mono ?_
    rintro e w1 ⟨rfl, hb1⟩
    go_wp2_with fail
    go_ret2
    exact ⟨_, rfl, hO.below hb1, Keep.of_below hb1⟩
  | some c =>
    obtain ⟨j, hm, hj, hrd, hid, hset⟩ := R19.may_some l id (by omega) (l.length + 1) (by omega) c hk
    have hcj := rd_some hj hrd
    cases hh : c.f5 with
    | true =>
      rw [hh] at hm
      have hr : R19.pSay l id s = (l, 13) := by unfold R19.pSay; rw [hk]; simp [hh]
      rw [hr]
      have HF := hide (show switchboardref19_may.f (l.length + 1) l id = some ((j : Int), 13) from hm)
      clear hk hr hm hh hrd hid hset
      go_enter Try.func31, Try.ntmps31
      go_wp2_with fail
      refine (switchboardref19_may.calls (l.length + 1) A c0 l id j 13 _ hC hlc HF.out).mono ?_
      rintro e w1 ⟨rfl, hb1⟩
      go_wp2_with fail
      go_ret2
      exact ⟨_, rfl, hO.below hb1, Keep.of_below hb1⟩
    | false =>
      rw [hh] at hm
      have HF := hide (show switchboardref19_may.f (l.length + 1) l id = some ((j : Int), 0) from hm)
      obtain ⟨c0_, c1_, c2_, c3_, c4_, c5_⟩ := c
      simp only at hh hid
      subst hh
      have hjl : (j : Int) < (l.length : Int) := by omega
      have HSET := hide hset
      have HRS := fun (a1 : ByteArray) (a2 : Int) (a3 : Bool) (a4 : ByteArray) (a5 : Bool) => hide (show switchboardref19_set.f l (j : Int) c0_ a1 a2 a3 a4 a5 = some (R19.rep l id ⟨c0_, a1, a2, a3, a4, a5⟩) by rw [R19.set_f l j (by omega) hj, HSET.out])
      clear hm hset hrd hid
      have hr : R19.pSay l id s = (R19.rep l id ⟨c0_, c1_, c2_, c3_, c4_ ++ s, false⟩, 0) := by unfold R19.pSay; rw [hk]; rfl
      rw [hr]
      have HE := HRS c1_ c2_ c3_ (c4_ ++ s) false
      have hs2 : ¬ 9223372036854775807 < c4_.size + s.size := by have := hs _ (R19.lk_mem hk).1; simp only at this; omega
      clear HRS hk hr hs
      go_enter Try.func31, Try.ntmps31
      go_wp2_with fail
      refine (switchboardref19_may.calls (l.length + 1) A c0 l id j 0 _ hC hlc HF.out).mono ?_
      rintro e w1 ⟨rfl, hb1⟩
      have hO1 := hO.below hb1
      have hC1 := Kd.C_below hC hb1
      obtain ⟨g, cap, hv, hg, d0, d1, d2, d3, d4, d5⟩ := own_conn hO1 hj _ hcj
      have hA : A = some ⟨g, 0, none⟩ := by injection hv
      subst hA
      clear hv hcj
      simp only at d0 d1 d2 d3 d4 d5
      go_wp2_with fail
      go_fit (switchboardref19_set.calls (some ⟨g, 0, none⟩) c0 l j c0_ c1_ c2_ c3_ (c4_ ++ s) false _ _ (Kd.C_alloc hC1 _) hlc HE.out)
      rintro e w2 ⟨v0, rfl, hR, hB2⟩
      go_wp2_with fail
      go_ret2
      exact ⟨v0, rfl, Own.of (Kd.R_lower hR (by have := hb1.size; simp; omega)), (Keep.of_below hb1).then (((Keep.refl [] w1).alloc _).then (Keep.of_below hB2))⟩

theorem rWrite_any (s : ByteArray) (v : Value) (l : List R19.One) (base : Nat) (id : Int) (w : World) (hO : Own kC ConnT base w v l) (hl : l.length < 1000) (hb : base ≤ w.heap.size) (hs : ∀ c ∈ l, c.f1.size + s.size < 1000000000) :
    Calls Try.prog 28 #[v, .int .i64 id, .string s] w (Px fun (v' : Value) e w' => e = .returned (.tuple #[v', .int .i64 (R19.pWrite l id s).2]) ∧ Own kC ConnT base w' v' (R19.pWrite l id s).1 ∧ Keep [] w w') := by
  obtain ⟨A, c0, rfl, hlc, hC⟩ := hO.reads
  cases hk : R19.lk l id with
  | none =>
    have hr : R19.pWrite l id s = (l, 7) := by unfold R19.pWrite; rw [hk]
    rw [hr]
    have HF := hide (R19.may_none l id (by omega) (l.length + 1) (by omega) hk)
    clear hk hr
    go_enter Try.func28, Try.ntmps28
    go_wp2_with fail
    refine (switchboardref19_may.calls (l.length + 1) A c0 l id 0 7 _ hC hlc HF.out).mono ?_
    rintro e w1 ⟨rfl, hb1⟩
    go_wp2_with fail
    go_ret2
    exact ⟨_, rfl, hO.below hb1, Keep.of_below hb1⟩
  | some c =>
    obtain ⟨j, hm, hj, hrd, hid, hset⟩ := R19.may_some l id (by omega) (l.length + 1) (by omega) c hk
    have hcj := rd_some hj hrd
    cases hh : c.f5 with
    | true =>
      rw [hh] at hm
      have hr : R19.pWrite l id s = (l, 13) := by unfold R19.pWrite; rw [hk]; simp [hh]
      rw [hr]
      have HF := hide (show switchboardref19_may.f (l.length + 1) l id = some ((j : Int), 13) from hm)
      clear hk hr hm hh hrd hid hset
      go_enter Try.func28, Try.ntmps28
      go_wp2_with fail
      refine (switchboardref19_may.calls (l.length + 1) A c0 l id j 13 _ hC hlc HF.out).mono ?_
      rintro e w1 ⟨rfl, hb1⟩
      go_wp2_with fail
      go_ret2
      exact ⟨_, rfl, hO.below hb1, Keep.of_below hb1⟩
    | false =>
      rw [hh] at hm
      have HF := hide (show switchboardref19_may.f (l.length + 1) l id = some ((j : Int), 0) from hm)
      obtain ⟨c0_, c1_, c2_, c3_, c4_, c5_⟩ := c
      simp only at hh hid
      subst hh
      have hjl : (j : Int) < (l.length : Int) := by omega
      have HSET := hide hset
      have HRS := fun (a1 : ByteArray) (a2 : Int) (a3 : Bool) (a4 : ByteArray) (a5 : Bool) => hide (show switchboardref19_set.f l (j : Int) c0_ a1 a2 a3 a4 a5 = some (R19.rep l id ⟨c0_, a1, a2, a3, a4, a5⟩) by rw [R19.set_f l j (by omega) hj, HSET.out])
      clear hm hset hrd hid
      cases c3_ with
      | true =>
        have hr : R19.pWrite l id s = (l, 13) := by unfold R19.pWrite; rw [hk]; rfl
        rw [hr]
        clear HRS hk hr hs
        go_enter Try.func28, Try.ntmps28
        go_wp2_with fail
        refine (switchboardref19_may.calls (l.length + 1) A c0 l id j 0 _ hC hlc HF.out).mono ?_
        rintro e w1 ⟨rfl, hb1⟩
        have hO1 := hO.below hb1
        have hC1 := Kd.C_below hC hb1
        obtain ⟨g, cap, hv, hg, d0, d1, d2, d3, d4, d5⟩ := own_conn hO1 hj _ hcj
        have hA : A = some ⟨g, 0, none⟩ := by injection hv
        subst hA
        clear hv hcj
        simp only at d0 d1 d2 d3 d4 d5
        go_wp2_with fail
        go_ret2
        exact ⟨_, rfl, hO1.keep ((Keep.refl [] w1).alloc _) (by simp), (Keep.of_below hb1).then ((Keep.refl [] w1).alloc _)⟩
      | false =>
        have hr : R19.pWrite l id s = (R19.rep l id ⟨c0_, c1_ ++ s, c2_, false, c4_, false⟩, 0) := by unfold R19.pWrite; rw [hk]; rfl
        rw [hr]
        have HE := HRS (c1_ ++ s) c2_ false c4_ false
        have hs2 : ¬ 9223372036854775807 < c1_.size + s.size := by have := hs _ (R19.lk_mem hk).1; simp only at this; omega
        clear HRS hk hr hs
        go_enter Try.func28, Try.ntmps28
        go_wp2_with fail
        refine (switchboardref19_may.calls (l.length + 1) A c0 l id j 0 _ hC hlc HF.out).mono ?_
        rintro e w1 ⟨rfl, hb1⟩
        have hO1 := hO.below hb1
        have hC1 := Kd.C_below hC hb1
        obtain ⟨g, cap, hv, hg, d0, d1, d2, d3, d4, d5⟩ := own_conn hO1 hj _ hcj
        have hA : A = some ⟨g, 0, none⟩ := by injection hv
        subst hA
        clear hv hcj
        simp only at d0 d1 d2 d3 d4 d5
        go_wp2_with fail
        go_fit (switchboardref19_set.calls (some ⟨g, 0, none⟩) c0 l j c0_ (c1_ ++ s) c2_ false c4_ false _ _ (Kd.C_alloc hC1 _) hlc HE.out)
        rintro e w2 ⟨v0, rfl, hR, hB2⟩
        go_wp2_with fail
        go_ret2
        exact ⟨v0, rfl, Own.of (Kd.R_lower hR (by have := hb1.size; simp; omega)), (Keep.of_below hb1).then (((Keep.refl [] w1).alloc _).then (Keep.of_below hB2))⟩

theorem rCut_any (m : Int) (v : Value) (l : List R19.One) (base : Nat) (id : Int) (w : World) (hO : Own kC ConnT base w v l) (hl : l.length < 1000) (hb : base ≤ w.heap.size) (hs : ∀ c ∈ l, R19.Okc 1000000 c) :
    Calls Try.prog 30 #[v, .int .i64 id, .int .i64 m] w (Px fun (v' : Value) e w' => e = .returned (.tuple #[v', .int .i64 (R19.pCut l id m).2]) ∧ Own kC ConnT base w' v' (R19.pCut l id m).1 ∧ Keep [] w w') := by
  obtain ⟨A, c0, rfl, hlc, hC⟩ := hO.reads
  cases hk : R19.lk l id with
  | none =>
    have hr : R19.pCut l id m = (l, 7) := by unfold R19.pCut; rw [hk]
    rw [hr]
    have HF := hide (R19.may_none l id (by omega) (l.length + 1) (by omega) hk)
    clear hk hr
    go_enter Try.func30, Try.ntmps30
    go_wp2_with fail
    refine (switchboardref19_may.calls (l.length + 1) A c0 l id 0 7 _ hC hlc HF.out).mono ?_
    rintro e w1 ⟨rfl, hb1⟩
    go_wp2_with fail
    go_ret2
    exact ⟨_, rfl, hO.below hb1, Keep.of_below hb1⟩
  | some c =>
    obtain ⟨j, hm, hj, hrd, hid, hset⟩ := R19.may_some l id (by omega) (l.length + 1) (by omega) c hk
    have hcj := rd_some hj hrd
    cases hh : c.f5 with
    | true =>
      rw [hh] at hm
      have hr : R19.pCut l id m = (l, 13) := by unfold R19.pCut; rw [hk]; simp [hh]
      rw [hr]
      have HF := hide (show switchboardref19_may.f (l.length + 1) l id = some ((j : Int), 13) from hm)
      clear hk hr hm hh hrd hid hset
      go_enter Try.func30, Try.ntmps30
      go_wp2_with fail
      refine (switchboardref19_may.calls (l.length + 1) A c0 l id j 13 _ hC hlc HF.out).mono ?_
      rintro e w1 ⟨rfl, hb1⟩
      go_wp2_with fail
      go_ret2
      exact ⟨_, rfl, hO.below hb1, Keep.of_below hb1⟩
    | false =>
      rw [hh] at hm
      have HF := hide (show switchboardref19_may.f (l.length + 1) l id = some ((j : Int), 0) from hm)
      obtain ⟨c0_, c1_, c2_, c3_, c4_, c5_⟩ := c
      simp only at hh hid
      subst hh
      have hjl : (j : Int) < (l.length : Int) := by omega
      have HSET := hide hset
      have HRS := fun (a1 : ByteArray) (a2 : Int) (a3 : Bool) (a4 : ByteArray) (a5 : Bool) => hide (show switchboardref19_set.f l (j : Int) c0_ a1 a2 a3 a4 a5 = some (R19.rep l id ⟨c0_, a1, a2, a3, a4, a5⟩) by rw [R19.set_f l j (by omega) hj, HSET.out])
      clear hm hset hrd hid
      obtain ⟨o1, o2, o3, o4⟩ := hs _ (R19.lk_mem hk).1
      simp only at o1 o2 o3 o4
      obtain ⟨q, hq⟩ : ∃ q, min (max m 0) ((c1_.size : Int) - c2_) = q := ⟨_, rfl⟩
      have hq0 : 0 ≤ q := by omega
      have hq1 : q ≤ c1_.size - c2_ := by omega
      have s0 : 0 ≤ c2_ + q := by omega
      have s1 : c2_ + q ≤ c1_.size := by omega
      have s2 : 0 ≤ (c1_.size : Int) - c2_ := by omega
      have hr : R19.pCut l id m = (R19.rep l id ⟨c0_, c1_.extract 0 (c2_ + q).toNat, c2_, true, c4_, false⟩, 0) := by unfold R19.pCut R19.kk; rw [hk]; simp only [hq]; rfl
      rw [hr]
      have HE := HRS (c1_.extract 0 (c2_ + q).toNat) c2_ true c4_ false
      clear HRS hk hr hs
      go_enter Try.func30, Try.ntmps30
      go_wp2_with fail
      refine (switchboardref19_may.calls (l.length + 1) A c0 l id j 0 _ hC hlc HF.out).mono ?_
      rintro e w1 ⟨rfl, hb1⟩
      have hO1 := hO.below hb1
      have hC1 := Kd.C_below hC hb1
      obtain ⟨g, cap, hv, hg, d0, d1, d2, d3, d4, d5⟩ := own_conn hO1 hj _ hcj
      have hA : A = some ⟨g, 0, none⟩ := by injection hv
      subst hA
      clear hv hcj
      simp only at d0 d1 d2 d3 d4 d5
      go_wp2_with fail
      go_fit (switchboardref19_set.calls (some ⟨g, 0, none⟩) c0 l j c0_ (c1_.extract 0 (c2_ + q).toNat) c2_ true c4_ false _ _ (Kd.C_alloc hC1 _) hlc HE.out)
      rintro e w2 ⟨v0, rfl, hR, hB2⟩
      go_wp2_with fail
      go_ret2
      exact ⟨v0, rfl, Own.of (Kd.R_lower hR (by have := hb1.size; simp; omega)), (Keep.of_below hb1).then (((Keep.refl [] w1).alloc _).then (Keep.of_below hB2))⟩

theorem rRead_any (m : Int) (v : Value) (l : List R19.One) (base : Nat) (id : Int) (w : World) (hO : Own kC ConnT base w v l) (hl : l.length < 1000) (hb : base ≤ w.heap.size) (hs : ∀ c ∈ l, R19.Okc 1000000 c) :
    Calls Try.prog 29 #[v, .int .i64 id, .int .i64 m] w (Px fun (v' : Value) e w' => e = .returned (.tuple #[v', .string (R19.pRead l id m).2.1, .bool (R19.pRead l id m).2.2.1, .int .i64 (R19.pRead l id m).2.2.2]) ∧ Own kC ConnT base w' v' (R19.pRead l id m).1 ∧ Keep [] w w') := by
  obtain ⟨A, c0, rfl, hlc, hC⟩ := hO.reads
  cases hk : R19.lk l id with
  | none =>
    have hr : R19.pRead l id m = (l, ⟨#[]⟩, false, 7) := by unfold R19.pRead; rw [hk]
    rw [hr]
    have HF := hide (R19.may_none l id (by omega) (l.length + 1) (by omega) hk)
    clear hk hr
    go_enter Try.func29, Try.ntmps29
    go_wp2_with fail
    refine (switchboardref19_may.calls (l.length + 1) A c0 l id 0 7 _ hC hlc HF.out).mono ?_
    rintro e w1 ⟨rfl, hb1⟩
    go_wp2_with fail
    refine bodyPost_ret (v := .tuple #[.slice A l.length c0, .string ⟨#[]⟩, .bool false, .int .i64 7]) (by simp [results, Try.results29, go_sem]) rfl ?_
    exact ⟨_, rfl, hO.below hb1, Keep.of_below hb1⟩
  | some c =>
    obtain ⟨j, hm, hj, hrd, hid, hset⟩ := R19.may_some l id (by omega) (l.length + 1) (by omega) c hk
    have hcj := rd_some hj hrd
    cases hh : c.f5 with
    | true =>
      rw [hh] at hm
      have hr : R19.pRead l id m = (l, ⟨#[]⟩, false, 13) := by unfold R19.pRead; rw [hk]; simp [hh]
      rw [hr]
      have HF := hide (show switchboardref19_may.f (l.length + 1) l id = some ((j : Int), 13) from hm)
      clear hk hr hm hh hrd hid hset
      go_enter Try.func29, Try.ntmps29
      go_wp2_with fail
      refine (switchboardref19_may.calls (l.length + 1) A c0 l id j 13 _ hC hlc HF.out).mono ?_
      rintro e w1 ⟨rfl, hb1⟩
      go_wp2_with fail
      refine bodyPost_ret (v := .tuple #[.slice A l.length c0, .string ⟨#[]⟩, .bool false, .int .i64 13]) (by simp [results, Try.results29, go_sem]) rfl ?_
      exact ⟨_, rfl, hO.below hb1, Keep.of_below hb1⟩
    | false =>
      rw [hh] at hm
      have HF := hide (show switchboardref19_may.f (l.length + 1) l id = some ((j : Int), 0) from hm)
      obtain ⟨c0_, c1_, c2_, c3_, c4_, c5_⟩ := c
      simp only at hh hid
      subst hh
      have hjl : (j : Int) < (l.length : Int) := by omega
      have HSET := hide hset
      have HRS := fun (a1 : ByteArray) (a2 : Int) (a3 : Bool) (a4 : ByteArray) (a5 : Bool) => hide (show switchboardref19_set.f l (j : Int) c0_ a1 a2 a3 a4 a5 = some (R19.rep l id ⟨c0_, a1, a2, a3, a4, a5⟩) by rw [R19.set_f l j (by omega) hj, HSET.out])
      clear hm hset hrd hid
      obtain ⟨o1, o2, o3, o4⟩ := hs _ (R19.lk_mem hk).1
      simp only at o1 o2 o3 o4
      obtain ⟨q, hq⟩ : ∃ q, min (max m 0) ((c1_.size : Int) - c2_) = q := ⟨_, rfl⟩
      have hq0 : 0 ≤ q := by omega
      have hq1 : q ≤ c1_.size - c2_ := by omega
      have s0 : 0 ≤ c2_ + q := by omega
      have s1 : c2_ + q ≤ c1_.size := by omega
      have s2 : 0 ≤ (c1_.size : Int) - c2_ := by omega
      cases c3_ with
      | true =>
        have hr : R19.pRead l id m = (R19.rep l id ⟨c0_, c1_, c2_ + q, true, c4_, false⟩, c1_.extract c2_.toNat (c2_ + q).toNat, decide (c2_ + q = c1_.size), 0) := by unfold R19.pRead R19.kk; rw [hk]; simp only [hq]; rfl
        rw [hr]
        have HE := HRS c1_ (c2_ + q) true c4_ false
        clear HRS hk hr hs
        go_enter Try.func29, Try.ntmps29
        go_wp2_with fail
        refine (switchboardref19_may.calls (l.length + 1) A c0 l id j 0 _ hC hlc HF.out).mono ?_
        rintro e w1 ⟨rfl, hb1⟩
        have hO1 := hO.below hb1
        have hC1 := Kd.C_below hC hb1
        obtain ⟨g, cap, hv, hg, d0, d1, d2, d3, d4, d5⟩ := own_conn hO1 hj _ hcj
        have hA : A = some ⟨g, 0, none⟩ := by injection hv
        subst hA
        clear hv hcj
        simp only at d0 d1 d2 d3 d4 d5
        go_wp2_with fail
        have hX := Blk.new w1 #[.int .i64 c0_, .string c1_, .int .i64 (c2_ + q), .bool true, .string c4_, .bool false] ConnT
        have b0 := hX.cell 0
        have b1 := hX.cell 1
        have b2 := hX.cell 2
        have b3 := hX.cell 3
        have b4 := hX.cell 4
        have b5 := hX.cell 5
        simp at b0 b1 b2 b3 b4 b5
        have n1 : ((c2_ + q) == (c1_.size : Int)) = decide (c2_ + q = (c1_.size : Int)) := rfl
        have HC2 := fun n => hide (show kC.C ((w1.alloc (.cells #[.int .i64 c0_, .string c1_, .int .i64 (c2_ + q), .bool true, .string c4_, .bool false] ConnT)).drewN n) (some ⟨g, 0, none⟩) l.length l from Kd.C_drewN (Kd.C_alloc hC1 _) n)
        have KP := hide (fun (w2 : World) (hB : Below ((w1.alloc (.cells #[.int .i64 c0_, .string c1_, .int .i64 (c2_ + q), .bool true, .string c4_, .bool false] ConnT)).drewN 1).heap.size ((w1.alloc (.cells #[.int .i64 c0_, .string c1_, .int .i64 (c2_ + q), .bool true, .string c4_, .bool false] ConnT)).drewN 1) w2) => show w2.cell? ⟨w1.heap.size, 0, none⟩ = some (.int .i64 c0_) ∧ w2.cell? ⟨w1.heap.size, 1, none⟩ = some (.string c1_) ∧ w2.cell? ⟨w1.heap.size, 2, none⟩ = some (.int .i64 (c2_ + q)) ∧ w2.cell? ⟨w1.heap.size, 3, none⟩ = some (.bool true) ∧ w2.cell? ⟨w1.heap.size, 4, none⟩ = some (.string c4_) ∧ w2.cell? ⟨w1.heap.size, 5, none⟩ = some (.bool false) from by
          have h := fun i => hB.cell (p := ⟨w1.heap.size, i, none⟩) (by simp)
          exact ⟨(h 0).trans (hX.cell 0), (h 1).trans (hX.cell 1), (h 2).trans (hX.cell 2), (h 3).trans (hX.cell 3), (h 4).trans (hX.cell 4), (h 5).trans (hX.cell 5)⟩)
        (first | go_region_held3 (fun w' => w'.cell? ⟨w1.heap.size, 0, none⟩ = some (.int .i64 c0_) ∧ w'.cell? ⟨w1.heap.size, 1, none⟩ = some (.string c1_) ∧ w'.cell? ⟨w1.heap.size, 2, none⟩ = some (.int .i64 (c2_ + q)) ∧ w'.cell? ⟨w1.heap.size, 3, none⟩ = some (.bool true) ∧ w'.cell? ⟨w1.heap.size, 4, none⟩ = some (.string c4_) ∧ w'.cell? ⟨w1.heap.size, 5, none⟩ = some (.bool false)) (go_keep)
          ((go_at_call 37; refine (switchboardref19_set.calls (some ⟨g, 0, none⟩) c0 l j _ _ _ _ _ _ _ _ ((HC2 1).out) hlc HE.out).mono ?_; rintro e w2 ⟨v0, rfl, hR, hB2⟩; obtain ⟨k0, k1, k2, k3, k4, k5⟩ := KP.out _ hB2)) | fail)
        all_goals
          go_wp2_with fail
          refine bodyPost_ret (v := .tuple #[v0, .string (c1_.extract c2_.toNat (c2_ + q).toNat), .bool (decide (c2_ + q = c1_.size)), .int .i64 0]) (by simp [results, Try.results29, go_sem]) rfl ?_
          exact ⟨v0, rfl, Own.of (Kd.R_lower hR (by have := hb1.size; simp; omega)), (Keep.of_below hb1).then ((((Keep.refl [] w1).alloc _).drewN 1).then (Keep.of_below hB2))⟩
      | false =>
        have hr : R19.pRead l id m = (R19.rep l id ⟨c0_, c1_, c2_ + q, false, c4_, false⟩, c1_.extract c2_.toNat (c2_ + q).toNat, false, 0) := by unfold R19.pRead R19.kk; rw [hk]; simp only [hq]; rfl
        rw [hr]
        have HE := HRS c1_ (c2_ + q) false c4_ false
        clear HRS hk hr hs
        go_enter Try.func29, Try.ntmps29
        go_wp2_with fail
        refine (switchboardref19_may.calls (l.length + 1) A c0 l id j 0 _ hC hlc HF.out).mono ?_
        rintro e w1 ⟨rfl, hb1⟩
        have hO1 := hO.below hb1
        have hC1 := Kd.C_below hC hb1
        obtain ⟨g, cap, hv, hg, d0, d1, d2, d3, d4, d5⟩ := own_conn hO1 hj _ hcj
        have hA : A = some ⟨g, 0, none⟩ := by injection hv
        subst hA
        clear hv hcj
        simp only at d0 d1 d2 d3 d4 d5
        go_wp2_with fail
        have hX := Blk.new w1 #[.int .i64 c0_, .string c1_, .int .i64 (c2_ + q), .bool false, .string c4_, .bool false] ConnT
        have b0 := hX.cell 0
        have b1 := hX.cell 1
        have b2 := hX.cell 2
        have b3 := hX.cell 3
        have b4 := hX.cell 4
        have b5 := hX.cell 5
        simp at b0 b1 b2 b3 b4 b5
        have n1 : ((c2_ + q) == (c1_.size : Int)) = decide (c2_ + q = (c1_.size : Int)) := rfl
        have HC2 := fun n => hide (show kC.C ((w1.alloc (.cells #[.int .i64 c0_, .string c1_, .int .i64 (c2_ + q), .bool false, .string c4_, .bool false] ConnT)).drewN n) (some ⟨g, 0, none⟩) l.length l from Kd.C_drewN (Kd.C_alloc hC1 _) n)
        have KP := hide (fun (w2 : World) (hB : Below ((w1.alloc (.cells #[.int .i64 c0_, .string c1_, .int .i64 (c2_ + q), .bool false, .string c4_, .bool false] ConnT)).drewN 1).heap.size ((w1.alloc (.cells #[.int .i64 c0_, .string c1_, .int .i64 (c2_ + q), .bool false, .string c4_, .bool false] ConnT)).drewN 1) w2) => show w2.cell? ⟨w1.heap.size, 0, none⟩ = some (.int .i64 c0_) ∧ w2.cell? ⟨w1.heap.size, 1, none⟩ = some (.string c1_) ∧ w2.cell? ⟨w1.heap.size, 2, none⟩ = some (.int .i64 (c2_ + q)) ∧ w2.cell? ⟨w1.heap.size, 3, none⟩ = some (.bool false) ∧ w2.cell? ⟨w1.heap.size, 4, none⟩ = some (.string c4_) ∧ w2.cell? ⟨w1.heap.size, 5, none⟩ = some (.bool false) from by
          have h := fun i => hB.cell (p := ⟨w1.heap.size, i, none⟩) (by simp)
          exact ⟨(h 0).trans (hX.cell 0), (h 1).trans (hX.cell 1), (h 2).trans (hX.cell 2), (h 3).trans (hX.cell 3), (h 4).trans (hX.cell 4), (h 5).trans (hX.cell 5)⟩)
        (first | go_region_with ((go_at_call 37; refine (switchboardref19_set.calls (some ⟨g, 0, none⟩) c0 l j _ _ _ _ _ _ _ _ ((HC2 1).out) hlc HE.out).mono ?_; rintro e w2 ⟨v0, rfl, hR, hB2⟩; obtain ⟨k0, k1, k2, k3, k4, k5⟩ := KP.out _ hB2)) | fail)
        all_goals
          go_wp2_with fail
          refine bodyPost_ret (v := .tuple #[v0, .string (c1_.extract c2_.toNat (c2_ + q).toNat), .bool (false), .int .i64 0]) (by simp [results, Try.results29, go_sem]) rfl ?_
          exact ⟨v0, rfl, Own.of (Kd.R_lower hR (by have := hb1.size; simp; omega)), (Keep.of_below hb1).then ((((Keep.refl [] w1).alloc _).drewN 1).then (Keep.of_below hB2))⟩
end Go.Proofs.Ytaahmjamkllphaa
