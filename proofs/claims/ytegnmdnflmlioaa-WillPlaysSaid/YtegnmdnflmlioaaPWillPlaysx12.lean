import Derived.Test.YtegnmdnflmlioaaPWillPlaysx0
import Derived.Test.YtegnmdnflmlioaaPWillPlaysx1
import Derived.Test.YtegnmdnflmlioaaPWillPlaysx11
namespace Go.Proofs.Ytegnmdnflmlioaa.PWillPlays
open Go.RowKit Go.Proofs.YtegnmdnflmlioaaW.PrintWords Go.Proofs.YtegnmdnflmlioaaW.PrintLast Go.Proofs.YtegnmdnflmlioaaW.PrintMore
attribute [local go_sem] max2_int min2_int max_two min_two max_three min_three max_four min_four
set_option linter.unusedVariables false
set_option linter.unusedSimpArgs false
attribute [local go_sem high] eqA100
def switchboardref22_Due.l0 : Nat → List (S87) → Int → List (S83) → Int → Int → Option ((List (S87)) × (List (S83)))
  | 0, _, _, _, _, _ => none
  | k + 1, x0, x1, x6, x7, x8 => if x8 < x7 then ((switchboardref22_first.f k x0 x1).bind fun t329 => (if t329 < 0 then (some (x0, x6)) else (if 0 ≤ t329 then (if t329 < (x0.length : Int) then (if x6.length < 1599289640401 then ((some (([] : List (S87)) : List (S87))).bind fun y335 => (if t329 ≤ (x0.length : Int) then ((some (x0.take (t329 : Int).toNat : List (S87))).bind fun y338 => (if y335.length + y338.length < 1172812402961 then ((some (y335 ++ y338 : List (S87))).bind fun y343 => (if 0 ≤ (wrap64 (t329 + 1)) then (if (wrap64 (t329 + 1)) ≤ (x0.length : Int) then ((some (x0.drop ((wrap64 (t329 + 1)) : Int).toNat : List (S87))).bind fun y346 => (if y343.length + y346.length < 1172812402961 then (switchboardref22_Due.l0 k (y343 ++ y346) x1 (x6 ++ [(⟨(rd_T87 x0 t329).f1.f0, x1, (rd_T87 x0 t329).f1.f2, (rd_T87 x0 t329).f1.f3, (rd_T87 x0 t329).f1.f4, (rd_T87 x0 t329).f1.f5, (rd_T87 x0 t329).f1.f6⟩ : S83)]) x7 (wrap64 (x8 + 1))) else (none))) else (none)) else (none))) else (none))) else (none))) else (none)) else (none)) else (none)))) else (some (x0, x6))
def switchboardref22_Due.f (k : Nat) (l0 : List (S87)) (a1 : Int) : Option ((List (S87)) × (List (S83))) := switchboardref22_Due.l0 k l0 a1 (([] : List (S83))) (l0.length : Int) 0
theorem switchboardref22_Due.mono_l : ∀ k, (∀ y0 y1 y2 y3 y4, LeO (switchboardref22_Due.l0 k y0 y1 y2 y3 y4) (switchboardref22_Due.l0 (k + 1) y0 y1 y2 y3 y4))
  | 0 => fun _ _ _ _ _ r h => by simp [switchboardref22_Due.l0] at h
  | k + 1 => by
    have ih0 := switchboardref22_Due.mono_l k
    · intro y0 y1 y2 y3 y4
      unfold switchboardref22_Due.l0
      repeat' first
      | (with_reducible exact ih0 _ _ _ _ _)
      | (with_reducible exact switchboardref22_first.mono _ _ _)
      | (with_reducible exact LeO.refl _)
      | (with_reducible exact LeO.none _)
      | (with_reducible refine LeO.ite ?_ ?_)
      | (with_reducible refine LeO.bind ?_ (fun _ => ?_))
      | exact ih0 _ _ _ _ _
      | exact switchboardref22_first.mono _ _ _
      | exact LeO.none _
      | refine LeO.ite ?_ ?_
      | refine LeO.bind ?_ (fun _ => ?_)
theorem switchboardref22_Due.mono : ∀ a0 a1 k, LeO (switchboardref22_Due.f k a0 a1) (switchboardref22_Due.f (k + 1) a0 a1) := by
  intro a0 a1 k
  have ih0 := switchboardref22_Due.mono_l k
  unfold switchboardref22_Due.f
  repeat' first
      | (with_reducible exact ih0 _ _ _ _ _)
      | (with_reducible exact switchboardref22_first.mono _ _ _)
      | (with_reducible exact LeO.refl _)
      | (with_reducible exact LeO.none _)
      | (with_reducible refine LeO.ite ?_ ?_)
      | (with_reducible refine LeO.bind ?_ (fun _ => ?_))
      | exact ih0 _ _ _ _ _
      | exact switchboardref22_first.mono _ _ _
      | exact LeO.none _
      | refine LeO.ite ?_ ?_
      | refine LeO.bind ?_ (fun _ => ?_)
def switchboardref22_Due.T11 : Bool × List (List Nat × List Nat) := (true, [([], []), ([], []), ([], []), ([1, 2], [1, 2]), ([0, 3], [0, 3]), ([], []), ([], []), ([6], [6]), ([5, 7], [5, 7]), ([4, 8, 4], [4, 8]), ([9, 9, 0, 1, 2, 3, 4, 5, 6, 7, 8, 9], [1, 5, 9])])
def switchboardref22_Due.B11 : List Nat := [0, 0, 0, 6, 15, 0, 0, 64, 224, 511, 1023]
theorem switchboardref22_Due.tab11 : rtab .any (opsOf Try.f19 11) = switchboardref22_Due.T11 := by kernel_rfl
theorem switchboardref22_Due.bits11 : waitsOk switchboardref22_Due.T11.2 switchboardref22_Due.B11 = true := by kernel_rfl
set_option maxHeartbeats 8000000 in
set_option maxRecDepth 100000 in
theorem switchboardref22_Due.calls (k : Nat) (P0_ : Nat → Prop) (A0 : Option Addr) (c0 : Nat) (l0 : List (S87)) (a1 : Int) (r1 : List (S87)) (r2 : List (S83)) (w : World) (hs0 : Kd.V k87 87 w w.heap.size (fun k_ => P0_ k_) (.slice A0 l0.length c0) l0) (h : switchboardref22_Due.f k l0 a1 = some (r1, r2)) :
    Calls Try.prog 19 #[.slice A0 l0.length c0, .int .i64 a1] w fun e w' => ∃ v0_ v1_ : Value, e = .returned (.tuple #[v0_, v1_]) ∧ Kd.V k87 87 w' w.heap.size (fun k_ => (P0_ k_ ∨ w.heap.size ≤ k_) ∧ some k_ ≠ (v1_ : Value).ownBlock) v0_ r1 ∧ Kd.N k83 83 w' w.heap.size (fun k_ => (P0_ k_ ∨ w.heap.size ≤ k_)) v1_ r2 ∧ Below w.heap.size w w' := by
  have hu83 := Try.underlying83
  have HO0 := Aside0.mk (show Kd.V k87 87 w w.heap.size (fun k_ => (P0_ k_ ∨ w.heap.size ≤ k_)) (.slice A0 l0.length c0) l0 from Kd.V_mono hs0 (fun k_ hk => .inl hk))
  have HB := Aside0.mk (Below.refl w.heap.size w)
  have H : (switchboardref22_Due.l0 k l0 a1 (([] : List (S83))) (l0.length : Int) 0) = some (r1, r2) := h
  clear h
  obtain ⟨y326, hy326⟩ : ∃ y_ : List (S83), y_ = (([] : List (S83))) := ⟨_, rfl⟩
  replace H : (switchboardref22_Due.l0 k l0 a1 y326 (l0.length : Int) 0) = some (r1, r2) := by first | (rw [hy326]; with_reducible exact H) | (have H2_ := (Option.bind_some _ _).symm.trans H; rw [hy326]; with_reducible exact H2_) | (have H2_ := (Option.bind_some _ _).symm.trans H; with_reducible exact H2_) | with_reducible exact H | (rw [hy326]; exact H) | exact H
  have Ny326 := Aside0.mk hy326
  clear hy326
  have H' := Aside0.mk H
  clear H
  go_enter Try.func19, Try.ntmps19
  go_wp2_with (first | ((with_reducible refine gate_dst (N := 11) rfl ?_); refine Kd.N_lit k83 _ 83 ?hg (N' := 11) ?hd (xs := ([] : List (S83))) (inner := []) (ok := (fun k_ => (P0_ k_ ∨ w.heap.size ≤ k_))) (okp := (fun k_ => (P0_ k_ ∨ w.heap.size ≤ k_))) ?hr ?hp (fun _ hk => hk) ((show ∀ k_, w.heap.size ≤ k_ → (fun k_ => (P0_ k_ ∨ w.heap.size ≤ k_)) k_ from fun k_ hk => (.inr (Nat.le_trans (below_size (by repeat (first | (with_reducible first | exact HB.out | apply below_alloc | apply pw_below_drewN | apply below_drew1) | exact HB.out))) hk))) _ (Nat.le_refl _)) (Below.refl _ _) (Nat.le_refl _) (by simp) ?_; (case hd => rfl); (case hg => rfl); (case hr => first | (go_simp; done) | (go_simp; rfl)); (case hp => exact (Reps.none _ _)); intro v327 w3 ho4 hb hg_ hnew_; clear hg_ hnew_; (first | rw [← Ny326.out] at ho4 | (simp only [Int.reduceToNat] at ho4; rw [← Ny326.out] at ho4)); have n0_ := Aside0.mk (Kd.V_elder' (by (with_reducible repeat (first | apply Kd.V_alloc | apply Kd.V_drewN | apply Kd.V_drew)); exact HO0.out) (Kd.N_base ho4) hb); have n1_ := Aside0.mk (Kd.N_lower ho4 (below_size (by repeat (first | (with_reducible first | exact HB.out | apply below_alloc | apply pw_below_drewN | apply below_drew1) | exact HB.out)))); have n2_ := Aside0.mk (below_step (by repeat (first | (with_reducible first | exact HB.out | apply below_alloc | apply pw_below_drewN | apply below_drew1) | exact HB.out)) hb); clear HO0; clear HB; have HO0 := n0_; have HO328 := n1_; have HB := n2_; clear n0_ n1_ n2_; clear hb ho4))
  go_loopg [0, 6, 8] k (fun kq v0 v6 v8 w' => ∃ (x0_1 : List (S87)) (x6_1 : List (S83)) (x8_1 : Int), v8 = .int .i64 x8_1 ∧ Aside0 (switchboardref22_Due.l0 kq x0_1 a1 x6_1 (l0.length : Int) x8_1 = some (r1, r2)) ∧ Aside0 (kq ≤ k) ∧ Aside0 (Kd.V k87 87 w' w.heap.size (fun k_ => (P0_ k_ ∨ w.heap.size ≤ k_) ∧ some k_ ≠ (v6 : Value).ownBlock) v0 x0_1) ∧ Aside0 (Kd.N k83 83 w' w.heap.size (fun k_ => (P0_ k_ ∨ w.heap.size ≤ k_)) v6 x6_1) ∧ Aside0 (Below w.heap.size w w'))
  case atStart => exact ⟨(l0), (y326), (0), (by first | rfl | (simp; done) | (simp [*]; done)), H', ⟨Nat.le_refl _⟩, ⟨by (with_reducible repeat (first | apply Kd.V_alloc | apply Kd.V_drewN | apply Kd.V_drew)); exact HO0.out⟩, ⟨by (with_reducible repeat (first | apply Kd.N_alloc | apply Kd.N_drewN | apply Kd.N_drew)); exact HO328.out⟩, ⟨by repeat (first | (with_reducible first | exact HB.out | apply below_alloc | apply pw_below_drewN | apply below_drew1) | exact HB.out)⟩⟩
  case round =>
    clear H'
    try clear c1
    try clear p2
    obtain ⟨x0_1, x6_1, x8_1, rfl, HA, HK1, HO_0, HO_6, HB⟩ := hrel
    cases gk with
    | zero => exact absurd HA.out (by simp [switchboardref22_Due.l0])
    | succ k1 =>
      have H := HA.out
      clear HA
      simp only [switchboardref22_Due.l0] at H
      by_cases c5 : x8_1 < (l0.length : Int)
      · rw [if_pos c5] at H
        have c5b0 : decide (x8_1 < (l0.length : Int)) = true := decide_eq_true c5
        clear c5
        replace H := Option.bind_eq_some_iff.mp H
        obtain ⟨t329, A60, H⟩ := H
        replace H : (if t329 < 0 then (some (x0_1, x6_1)) else (if 0 ≤ t329 then (if t329 < (x0_1.length : Int) then (if x6_1.length < 1599289640401 then ((some (([] : List (S87)) : List (S87))).bind fun y335 => (if t329 ≤ (x0_1.length : Int) then ((some (x0_1.take (t329 : Int).toNat : List (S87))).bind fun y338 => (if y335.length + y338.length < 1172812402961 then ((some (y335 ++ y338 : List (S87))).bind fun y343 => (if 0 ≤ (wrap64 (t329 + 1)) then (if (wrap64 (t329 + 1)) ≤ (x0_1.length : Int) then ((some (x0_1.drop ((wrap64 (t329 + 1)) : Int).toNat : List (S87))).bind fun y346 => (if y343.length + y346.length < 1172812402961 then (switchboardref22_Due.l0 k1 (y343 ++ y346) a1 (x6_1 ++ [(⟨(rd_T87 x0_1 t329).f1.f0, a1, (rd_T87 x0_1 t329).f1.f2, (rd_T87 x0_1 t329).f1.f3, (rd_T87 x0_1 t329).f1.f4, (rd_T87 x0_1 t329).f1.f5, (rd_T87 x0_1 t329).f1.f6⟩ : S83)]) (l0.length : Int) (wrap64 (x8_1 + 1))) else (none))) else (none)) else (none))) else (none))) else (none))) else (none)) else (none)) else (none))) = some (r1, r2) := H
        have A6 := Aside0.mk A60
        clear A60
        by_cases c7 : t329 < 0
        · rw [if_pos c7] at H
          have c7b0 : decide (t329 < 0) = true := decide_eq_true c7
          clear c7
          simp only [Option.some.injEq, Prod.mk.injEq] at H
          obtain ⟨rfl, rfl⟩ := H
          obtain ⟨Ao8, co8, eo8⟩ := Kd.V_slice HO_0.out
          subst eo8
          go_wp2_with (first | ((with_reducible refine gate_callee (f := 34) rfl ?_); refine goesL_ (some 21) rfl rfl Try.func34 (by kernel_rfl) rfl #[.slice Ao8 x0_1.length co8, .int .i64 a1] rfl (by (try simp only [List.map_toArray, List.map_cons, List.map_nil]); first | done | rfl | (simp only [List.length_drop, List.length_take]; rfl)) ?_; (with_reducible refine (switchboardref22_first.calls k1 _ _ x0_1 a1 t329 _ ?side1 ?side2 A6.out).mono ?_); (case side1 => repeat (first | exact (Kd.V_reads' HO_0.out).2.2 | (with_reducible refine Kd.C_alloc ?_ _) | (with_reducible refine Kd.C_drewN ?_ _) | (with_reducible refine Kd.C_drew ?_))); (case side2 => exact (Kd.V_reads' HO_0.out).2.1); rintro e w9 ⟨rfl, hb⟩; refine ⟨_, rfl, ?_⟩; have n0_ := Aside0.mk (Kd.V_below (by (with_reducible repeat (first | apply Kd.V_alloc | apply Kd.V_drewN | apply Kd.V_drew)); exact HO_0.out) hb); have n1_ := Aside0.mk (Kd.N_below (by (with_reducible repeat (first | apply Kd.N_alloc | apply Kd.N_drewN | apply Kd.N_drew)); exact HO_6.out) hb); have n2_ := Aside0.mk (below_step (by repeat (first | (with_reducible first | exact HB.out | apply below_alloc | apply pw_below_drewN | apply below_drew1) | exact HB.out)) hb); clear HO_0; clear HO_6; clear HB; have HO_0 := n0_; have HO_6 := n1_; have HB := n2_; clear n0_ n1_ n2_; (try clear hb); (try clear hb2); (try clear hk); (try clear hi)))
          go_ret2
          exact ⟨_, _, by first | rfl | (simp [errW_none, errW_some] <;> rfl) | (simp [*, errW_none, errW_some] <;> rfl), by (with_reducible repeat (first | apply Kd.V_alloc | apply Kd.V_drewN | apply Kd.V_drew)); exact HO_0.out, by (with_reducible repeat (first | apply Kd.N_alloc | apply Kd.N_drewN | apply Kd.N_drew)); exact HO_6.out, by repeat (first | (with_reducible first | exact HB.out | apply below_alloc | apply pw_below_drewN | apply below_drew1) | exact HB.out)⟩
        · rw [if_neg c7] at H
          have c7b0 : decide (t329 < 0) = false := decide_eq_false c7
          clear c7
          by_cases c10 : 0 ≤ t329
          · rw [if_pos c10] at H
            have c10b0 : decide (0 ≤ t329) = true := decide_eq_true c10
            clear c10
            by_cases c11 : t329 < (x0_1.length : Int)
            · rw [if_pos c11] at H
              have c11b0 : decide (t329 < (x0_1.length : Int)) = true := decide_eq_true c11
              clear c11
              by_cases c12 : x6_1.length < 1599289640401
              · rw [if_pos c12] at H
                have LMc12 := Aside0.mk c12
                clear c12
                obtain ⟨y332, hy332⟩ : ∃ y_ : List (S83), y_ = (x6_1 ++ [(⟨(rd_T87 x0_1 t329).f1.f0, a1, (rd_T87 x0_1 t329).f1.f2, (rd_T87 x0_1 t329).f1.f3, (rd_T87 x0_1 t329).f1.f4, (rd_T87 x0_1 t329).f1.f5, (rd_T87 x0_1 t329).f1.f6⟩ : S83)]) := ⟨_, rfl⟩
                replace H : ((some (([] : List (S87)) : List (S87))).bind fun y335 => (if t329 ≤ (x0_1.length : Int) then ((some (x0_1.take (t329 : Int).toNat : List (S87))).bind fun y338 => (if y335.length + y338.length < 1172812402961 then ((some (y335 ++ y338 : List (S87))).bind fun y343 => (if 0 ≤ (wrap64 (t329 + 1)) then (if (wrap64 (t329 + 1)) ≤ (x0_1.length : Int) then ((some (x0_1.drop ((wrap64 (t329 + 1)) : Int).toNat : List (S87))).bind fun y346 => (if y343.length + y346.length < 1172812402961 then (switchboardref22_Due.l0 k1 (y343 ++ y346) a1 y332 (l0.length : Int) (wrap64 (x8_1 + 1))) else (none))) else (none)) else (none))) else (none))) else (none))) = some (r1, r2) := by first | (rw [hy332]; with_reducible exact H) | (have H2_ := (Option.bind_some _ _).symm.trans H; rw [hy332]; with_reducible exact H2_) | (have H2_ := (Option.bind_some _ _).symm.trans H; with_reducible exact H2_) | with_reducible exact H | (rw [hy332]; exact H) | exact H
                have Ny332 := Aside0.mk hy332
                clear hy332
                obtain ⟨y335, hy335⟩ : ∃ y_ : List (S87), y_ = (([] : List (S87))) := ⟨_, rfl⟩
                replace H : (if t329 ≤ (x0_1.length : Int) then ((some (x0_1.take (t329 : Int).toNat : List (S87))).bind fun y338 => (if y335.length + y338.length < 1172812402961 then ((some (y335 ++ y338 : List (S87))).bind fun y343 => (if 0 ≤ (wrap64 (t329 + 1)) then (if (wrap64 (t329 + 1)) ≤ (x0_1.length : Int) then ((some (x0_1.drop ((wrap64 (t329 + 1)) : Int).toNat : List (S87))).bind fun y346 => (if y343.length + y346.length < 1172812402961 then (switchboardref22_Due.l0 k1 (y343 ++ y346) a1 y332 (l0.length : Int) (wrap64 (x8_1 + 1))) else (none))) else (none)) else (none))) else (none))) else (none)) = some (r1, r2) := by first | (rw [hy335]; with_reducible exact H) | (have H2_ := (Option.bind_some _ _).symm.trans H; rw [hy335]; with_reducible exact H2_) | (have H2_ := (Option.bind_some _ _).symm.trans H; with_reducible exact H2_) | with_reducible exact H | (rw [hy335]; exact H) | exact H
                have Ny335 := Aside0.mk hy335
                clear hy335
                have c13b0 := eq_true (of_decide_eq_true (by first | (with_reducible assumption) | assumption) : 0 ≤ t329)
                by_cases c14 : t329 ≤ (x0_1.length : Int)
                · rw [if_pos c14] at H
                  have c14b0 := eq_true c14
                  have c14b1 : decide (t329 ≤ (x0_1.length : Int)) = true := decide_eq_true c14
                  clear c14
                  obtain ⟨y338, hy338⟩ : ∃ y_ : List (S87), y_ = (x0_1.take (t329 : Int).toNat) := ⟨_, rfl⟩
                  replace H : (if y335.length + y338.length < 1172812402961 then ((some (y335 ++ y338 : List (S87))).bind fun y343 => (if 0 ≤ (wrap64 (t329 + 1)) then (if (wrap64 (t329 + 1)) ≤ (x0_1.length : Int) then ((some (x0_1.drop ((wrap64 (t329 + 1)) : Int).toNat : List (S87))).bind fun y346 => (if y343.length + y346.length < 1172812402961 then (switchboardref22_Due.l0 k1 (y343 ++ y346) a1 y332 (l0.length : Int) (wrap64 (x8_1 + 1))) else (none))) else (none)) else (none))) else (none)) = some (r1, r2) := by first | (rw [hy338]; with_reducible exact H) | (have H2_ := (Option.bind_some _ _).symm.trans H; rw [hy338]; with_reducible exact H2_) | (have H2_ := (Option.bind_some _ _).symm.trans H; with_reducible exact H2_) | with_reducible exact H | (rw [hy338]; exact H) | exact H
                  have Ny338 := Aside0.mk hy338
                  clear hy338
                  by_cases c15 : y335.length + y338.length < 1172812402961
                  · rw [if_pos c15] at H
                    have LMc15 := Aside0.mk c15
                    clear c15
                    obtain ⟨y343, hy343⟩ : ∃ y_ : List (S87), y_ = (y335 ++ y338) := ⟨_, rfl⟩
                    replace H : (if 0 ≤ (wrap64 (t329 + 1)) then (if (wrap64 (t329 + 1)) ≤ (x0_1.length : Int) then ((some (x0_1.drop ((wrap64 (t329 + 1)) : Int).toNat : List (S87))).bind fun y346 => (if y343.length + y346.length < 1172812402961 then (switchboardref22_Due.l0 k1 (y343 ++ y346) a1 y332 (l0.length : Int) (wrap64 (x8_1 + 1))) else (none))) else (none)) else (none)) = some (r1, r2) := by first | (rw [hy343]; with_reducible exact H) | (have H2_ := (Option.bind_some _ _).symm.trans H; rw [hy343]; with_reducible exact H2_) | (have H2_ := (Option.bind_some _ _).symm.trans H; with_reducible exact H2_) | with_reducible exact H | (rw [hy343]; exact H) | exact H
                    have Ny343 := Aside0.mk hy343
                    clear hy343
                    obtain ⟨ji16, hji16⟩ : ∃ j_ : Int, (wrap64 (t329 + 1)) = j_ := ⟨_, rfl⟩
                    replace H : (if 0 ≤ (ji16) then (if (ji16) ≤ (x0_1.length : Int) then ((some (x0_1.drop ((ji16) : Int).toNat : List (S87))).bind fun y346 => (if y343.length + y346.length < 1172812402961 then (switchboardref22_Due.l0 k1 (y343 ++ y346) a1 y332 (l0.length : Int) (wrap64 (x8_1 + 1))) else (none))) else (none)) else (none)) = some (r1, r2) := by first | (rw [hji16] at H; exact H) | (simp only [hji16] at H ⊢; exact H)
                    (try rw [hji16] at A6)
                    have hji16w : (IntKind.i64.wrap (t329 + 1)) = ji16 := (i64_w _).trans hji16
                    by_cases c17 : 0 ≤ (ji16)
                    · rw [if_pos c17] at H
                      have c17b0 := eq_true c17
                      have c17b1 : decide (0 ≤ (ji16)) = true := decide_eq_true c17
                      clear c17
                      by_cases c18 : (ji16) ≤ (x0_1.length : Int)
                      · rw [if_pos c18] at H
                        have c18b0 := eq_true c18
                        have c18b1 : decide ((ji16) ≤ (x0_1.length : Int)) = true := decide_eq_true c18
                        clear c18
                        obtain ⟨y346, hy346⟩ : ∃ y_ : List (S87), y_ = (x0_1.drop ((ji16) : Int).toNat) := ⟨_, rfl⟩
                        replace H : (if y343.length + y346.length < 1172812402961 then (switchboardref22_Due.l0 k1 (y343 ++ y346) a1 y332 (l0.length : Int) (wrap64 (x8_1 + 1))) else (none)) = some (r1, r2) := by first | (rw [hy346]; with_reducible exact H) | (have H2_ := (Option.bind_some _ _).symm.trans H; rw [hy346]; with_reducible exact H2_) | (have H2_ := (Option.bind_some _ _).symm.trans H; with_reducible exact H2_) | with_reducible exact H | (rw [hy346]; exact H) | exact H
                        have Ny346 := Aside0.mk hy346
                        clear hy346
                        by_cases c19 : y343.length + y346.length < 1172812402961
                        · rw [if_pos c19] at H
                          have LMc19 := Aside0.mk c19
                          clear c19
                          obtain ⟨y351, hy351⟩ : ∃ y_ : List (S87), y_ = (y343 ++ y346) := ⟨_, rfl⟩
                          replace H : (switchboardref22_Due.l0 k1 y351 a1 y332 (l0.length : Int) (wrap64 (x8_1 + 1))) = some (r1, r2) := by first | (rw [hy351]; with_reducible exact H) | (have H2_ := (Option.bind_some _ _).symm.trans H; rw [hy351]; with_reducible exact H2_) | (have H2_ := (Option.bind_some _ _).symm.trans H; with_reducible exact H2_) | with_reducible exact H | (rw [hy351]; exact H) | exact H
                          have Ny351 := Aside0.mk hy351
                          clear hy351
                          have H' := Aside0.mk H
                          clear H
                          obtain ⟨Ao20, co20, eo20⟩ := Kd.V_slice HO_0.out
                          subst eo20
                          try go_wp2_with (first | ((with_reducible refine gate_callee (f := 34) rfl ?_); refine goesL_ (some 21) rfl rfl Try.func34 (by kernel_rfl) rfl #[.slice Ao20 x0_1.length co20, .int .i64 a1] rfl (by (try simp only [List.map_toArray, List.map_cons, List.map_nil]); first | done | rfl | (simp only [List.length_drop, List.length_take]; rfl)) ?_; (with_reducible refine (switchboardref22_first.calls k1 _ _ x0_1 a1 t329 _ ?side1 ?side2 A6.out).mono ?_); (case side1 => repeat (first | exact (Kd.V_reads' HO_0.out).2.2 | (with_reducible refine Kd.C_alloc ?_ _) | (with_reducible refine Kd.C_drewN ?_ _) | (with_reducible refine Kd.C_drew ?_))); (case side2 => exact (Kd.V_reads' HO_0.out).2.1); rintro e w21 ⟨rfl, hb⟩; refine ⟨_, rfl, ?_⟩; have n0_ := Aside0.mk (Kd.V_below (by (with_reducible repeat (first | apply Kd.V_alloc | apply Kd.V_drewN | apply Kd.V_drew)); exact HO_0.out) hb); have n1_ := Aside0.mk (Kd.N_below (by (with_reducible repeat (first | apply Kd.N_alloc | apply Kd.N_drewN | apply Kd.N_drew)); exact HO_6.out) hb); have n2_ := Aside0.mk (below_step (by repeat (first | (with_reducible first | exact HB.out | apply below_alloc | apply pw_below_drewN | apply below_drew1) | exact HB.out)) hb); clear HO_0; clear HO_6; clear HB; have HO_0 := n0_; have HO_6 := n1_; have HB := n2_; clear n0_ n1_ n2_; (try clear hb); (try clear hb2); (try clear hk); (try clear hi); have p330 : 0 ≤ (t329 : Int) := of_decide_eq_true (by first | (with_reducible assumption) | assumption); have q330 : t329 < (x0_1.length : Int) := of_decide_eq_true (by first | (with_reducible assumption) | assumption); obtain ⟨ad330, A330_5, c330_5, e330, hx330_0, hx330_1, hx330_2, hx330_3, hx330_4, hx330_5, hx330_6, hx330_7, hx330_8, hx330_9, hl330_5, hi330_5⟩ := at_T87 (Kd.V_reads' HO_0.out).2.2 t329 p330 q330; cases e330; obtain ⟨ce330, hce330, hMe330, hcc330⟩ := Kd.V_get HO_0.out z87 t329 p330 (by first | exact q330 | exact of_decide_eq_true (by first | (with_reducible assumption) | assumption) | (have e_ := (Kd.V_reads' HO_0.out).1; omega)); obtain ⟨ua330_5, uc330_5, rfl, ul330_5, ge330_5⟩ := k87_openF hMe330; have hv330_5 := hcc330 5 _ rfl; rw [add_field _ _ 5 (by omega)] at hv330_5; replace hv330_5 := Option.some.inj (hv330_5.symm.trans hx330_5); injection hv330_5 with hva_ hvn_ hvc_; rw [hva_] at ge330_5; rw [hvc_] at ul330_5; have HL330_5 := Aside0.mk (show Kd.V k100 100 _ w.heap.size _ _ ((rd_T87 x0_1 t329).f1.f4) from Kd.V_mk ul330_5 ge330_5); clear hva_ hvn_ hvc_ ge330_5 ul330_5; clear hcc330 hce330; have HR330_5 := Aside0.mk hi330_5; have HC330_5 := Aside0.mk hl330_5; clear hi330_5 hl330_5; replace p330 := eq_true p330; replace q330 := eq_true q330) | ((with_reducible refine gate_dst (N := 10) rfl ?_); refine box_event ?hg (N := 10) ?hd (cs := #[.string (⟨#[]⟩ : ByteArray), .int .i64 0, .int .u8 0, .bool false, .slice none 0 0, .string (⟨#[]⟩ : ByteArray), .string (⟨#[]⟩ : ByteArray)]) (t := 83) ?hr ?_; (case hd => rfl); (case hg => rfl); (case hr => first | (go_simp; done) | (go_simp; rfl)); intro gb331 hg w22 hbox hb; have n0_ := Aside0.mk (Kd.V_below (Kd.V_elderB (by (with_reducible repeat (first | apply Kd.V_alloc | apply Kd.V_drewN | apply Kd.V_drew)); exact HO_0.out) gb331 (Nat.le_of_eq hg.symm)) hb); have n1_ := Aside0.mk (Kd.N_below (Kd.N_elderB (by (with_reducible repeat (first | apply Kd.N_alloc | apply Kd.N_drewN | apply Kd.N_drew)); exact HO_6.out) gb331 (Nat.le_of_eq hg.symm)) hb); have n2_ := Aside0.mk (Kd.V_below (Kd.V_elderB (by (with_reducible repeat (first | apply Kd.V_alloc | apply Kd.V_drewN | apply Kd.V_drew)); exact HL330_5.out) gb331 (Nat.le_of_eq hg.symm)) hb); have n3_ := Aside0.mk (Kd.C_below (by repeat (first | (with_reducible exact HR330_5.out) | (with_reducible refine Kd.C_alloc ?_ _) | (with_reducible refine Kd.C_drewN ?_ _) | (with_reducible refine Kd.C_drew ?_) | exact HR330_5.out)) hb); have n4_ := Aside0.mk (below_step (by repeat (first | (with_reducible first | exact HB.out | apply below_alloc | apply pw_below_drewN | apply below_drew1) | exact HB.out)) hb); have n5_ := Aside0.mk (hbox); have n6_ := Aside0.mk ((by rw [hg]; exact (below_size (by repeat (first | (with_reducible first | exact HB.out | apply below_alloc | apply pw_below_drewN | apply below_drew1) | exact HB.out))) : w.heap.size ≤ gb331)); have n7_ := Aside0.mk ((by rw [hg]; exact (below_size (by repeat (first | (with_reducible first | exact HB.out | apply below_alloc | apply pw_below_drewN | apply below_drew1) | exact HB.out))) : w.heap.size ≤ gb331)); clear HO_0; clear HO_6; clear HL330_5; clear HR330_5; clear HB; have HO_0 := n0_; have HO_6 := n1_; have HL330_5 := n2_; have HR330_5 := n3_; have HB := n4_; have BK331 := n5_; have GW331 := n6_; have GE331 := n7_; clear n0_ n1_ n2_ n3_ n4_ n5_ n6_ n7_; clear hb hbox hg; have hcz23_0 : w22.cell? ⟨gb331, 0, none⟩ = some (.string (⟨#[]⟩ : ByteArray)) := (blk_cell BK331.out 0).trans rfl; have hcz23_1 : w22.cell? ⟨gb331, 1, none⟩ = some (.int .i64 0) := (blk_cell BK331.out 1).trans rfl; have hcz23_2 : w22.cell? ⟨gb331, 2, none⟩ = some (.int .u8 0) := (blk_cell BK331.out 2).trans rfl; have hcz23_3 : w22.cell? ⟨gb331, 3, none⟩ = some (.bool false) := (blk_cell BK331.out 3).trans rfl; have hcz23_4 : w22.cell? ⟨gb331, 4, none⟩ = some (.slice none 0 0) := (blk_cell BK331.out 4).trans rfl; have hcz23_5 : w22.cell? ⟨gb331, 5, none⟩ = some (.string (⟨#[]⟩ : ByteArray)) := (blk_cell BK331.out 5).trans rfl; have hcz23_6 : w22.cell? ⟨gb331, 6, none⟩ = some (.string (⟨#[]⟩ : ByteArray)) := (blk_cell BK331.out 6).trans rfl; have hfz23_0 := blk_frozen BK331.out 0; have hfz23_1 := blk_frozen BK331.out 1; have hfz23_2 := blk_frozen BK331.out 2; have hfz23_3 := blk_frozen BK331.out 3; have hfz23_4 := blk_frozen BK331.out 4; have hfz23_5 := blk_frozen BK331.out 5; have hfz23_6 := blk_frozen BK331.out 6) | ((with_reducible refine gate_store (t := 83) (p := 10) rfl ?_); refine store_event (t := 83) (p := 10) (v := ?vo_w24) (w1 := (((((((w22.setCell ⟨gb331, 0, none⟩ (.string ((rd_T87 x0_1 t329).f1.f0))).setCell ⟨gb331, 1, none⟩ (.int .i64 ((rd_T87 x0_1 t329).f1.f1))).setCell ⟨gb331, 2, none⟩ (.int .u8 ((rd_T87 x0_1 t329).f1.f2))).setCell ⟨gb331, 3, none⟩ (.bool ((rd_T87 x0_1 t329).f1.f3))).setCell ⟨gb331, 4, none⟩ (.slice A330_5 ((rd_T87 x0_1 t329).f1.f4).length c330_5)).setCell ⟨gb331, 5, none⟩ (.string ((rd_T87 x0_1 t329).f1.f5))).setCell ⟨gb331, 6, none⟩ (.string ((rd_T87 x0_1 t329).f1.f6)))) ?hg ?ho ?hn ?hr ?_; (case ho => rfl); (case hg => rfl); (case hn => rfl); (case hr => first | (go_simp; done) | (go_simp; rfl)); intro w24 hw; have n0_ : Aside0 (Kd.V k87 87 w24 w.heap.size (fun k_ => (P0_ k_ ∨ w.heap.size ≤ k_) ∧ some k_ ≠ (u6 : Value).ownBlock ∧ k_ ≠ gb331) (.slice (some ad330) x0_1.length co20) x0_1) := ⟨(by rw [hw]; exact (by (with_reducible repeat (first | apply Kd.V_alloc | apply Kd.V_drewN | apply Kd.V_drew)); exact Kd.V_mono (Kd.V_far (p := ⟨gb331, 6, none⟩) (Kd.V_far (p := ⟨gb331, 5, none⟩) (Kd.V_far (p := ⟨gb331, 4, none⟩) (Kd.V_far (p := ⟨gb331, 3, none⟩) (Kd.V_far (p := ⟨gb331, 2, none⟩) (Kd.V_far (p := ⟨gb331, 1, none⟩) (Kd.V_far (p := ⟨gb331, 0, none⟩) (Kd.V_mono HO_0.out (fun k_ hk => (⟨hk, hk.2⟩ : _ ∧ k_ ≠ gb331))) (fun _ hk => hk.2) (.string ((rd_T87 x0_1 t329).f1.f0))) (fun _ hk => hk.2) (.int .i64 ((rd_T87 x0_1 t329).f1.f1))) (fun _ hk => hk.2) (.int .u8 ((rd_T87 x0_1 t329).f1.f2))) (fun _ hk => hk.2) (.bool ((rd_T87 x0_1 t329).f1.f3))) (fun _ hk => hk.2) (.slice A330_5 ((rd_T87 x0_1 t329).f1.f4).length c330_5)) (fun _ hk => hk.2) (.string ((rd_T87 x0_1 t329).f1.f5))) (fun _ hk => hk.2) (.string ((rd_T87 x0_1 t329).f1.f6))) (fun _ hk => ⟨hk.1.1.1, ⟨hk.1.1.2, hk.1.2⟩⟩)))⟩; have n1_ : Aside0 (Kd.N k83 83 w24 w.heap.size (fun k_ => (P0_ k_ ∨ w.heap.size ≤ k_) ∧ k_ ≠ gb331) u6 x6_1) := ⟨(by rw [hw]; exact (by (with_reducible repeat (first | apply Kd.N_alloc | apply Kd.N_drewN | apply Kd.N_drew)); exact Kd.N_mono (Kd.N_far (p := ⟨gb331, 6, none⟩) (Kd.N_far (p := ⟨gb331, 5, none⟩) (Kd.N_far (p := ⟨gb331, 4, none⟩) (Kd.N_far (p := ⟨gb331, 3, none⟩) (Kd.N_far (p := ⟨gb331, 2, none⟩) (Kd.N_far (p := ⟨gb331, 1, none⟩) (Kd.N_far (p := ⟨gb331, 0, none⟩) (Kd.N_mono HO_6.out (fun k_ hk => (⟨hk, hk.2⟩ : _ ∧ k_ ≠ gb331))) (fun _ hk => hk.2) (.string ((rd_T87 x0_1 t329).f1.f0))) (fun _ hk => hk.2) (.int .i64 ((rd_T87 x0_1 t329).f1.f1))) (fun _ hk => hk.2) (.int .u8 ((rd_T87 x0_1 t329).f1.f2))) (fun _ hk => hk.2) (.bool ((rd_T87 x0_1 t329).f1.f3))) (fun _ hk => hk.2) (.slice A330_5 ((rd_T87 x0_1 t329).f1.f4).length c330_5)) (fun _ hk => hk.2) (.string ((rd_T87 x0_1 t329).f1.f5))) (fun _ hk => hk.2) (.string ((rd_T87 x0_1 t329).f1.f6))) (fun _ hk => ⟨hk.1.1, hk.1.2⟩)))⟩; have n2_ : Aside0 (Kd.V k100 100 w24 w.heap.size (fun k_ => (P0_ k_ ∨ w.heap.size ≤ k_) ∧ some k_ ≠ (u6 : Value).ownBlock ∧ k_ ≠ gb331) (.slice A330_5 ((rd_T87 x0_1 t329).f1.f4).length c330_5) ((rd_T87 x0_1 t329).f1.f4)) := ⟨(by rw [hw]; exact (by (with_reducible repeat (first | apply Kd.V_alloc | apply Kd.V_drewN | apply Kd.V_drew)); exact Kd.V_mono (Kd.V_far (p := ⟨gb331, 6, none⟩) (Kd.V_far (p := ⟨gb331, 5, none⟩) (Kd.V_far (p := ⟨gb331, 4, none⟩) (Kd.V_far (p := ⟨gb331, 3, none⟩) (Kd.V_far (p := ⟨gb331, 2, none⟩) (Kd.V_far (p := ⟨gb331, 1, none⟩) (Kd.V_far (p := ⟨gb331, 0, none⟩) (Kd.V_mono HL330_5.out (fun k_ hk => (⟨hk, hk.2⟩ : _ ∧ k_ ≠ gb331))) (fun _ hk => hk.2) (.string ((rd_T87 x0_1 t329).f1.f0))) (fun _ hk => hk.2) (.int .i64 ((rd_T87 x0_1 t329).f1.f1))) (fun _ hk => hk.2) (.int .u8 ((rd_T87 x0_1 t329).f1.f2))) (fun _ hk => hk.2) (.bool ((rd_T87 x0_1 t329).f1.f3))) (fun _ hk => hk.2) (.slice A330_5 ((rd_T87 x0_1 t329).f1.f4).length c330_5)) (fun _ hk => hk.2) (.string ((rd_T87 x0_1 t329).f1.f5))) (fun _ hk => hk.2) (.string ((rd_T87 x0_1 t329).f1.f6))) (fun _ hk => ⟨hk.1.1.1, ⟨hk.1.1.2, hk.1.2⟩⟩)))⟩; have n3_ : Aside0 (w24.heap[gb331]? = some (.cells #[.string ((rd_T87 x0_1 t329).f1.f0), .int .i64 ((rd_T87 x0_1 t329).f1.f1), .int .u8 ((rd_T87 x0_1 t329).f1.f2), .bool ((rd_T87 x0_1 t329).f1.f3), .slice A330_5 ((rd_T87 x0_1 t329).f1.f4).length c330_5, .string ((rd_T87 x0_1 t329).f1.f5), .string ((rd_T87 x0_1 t329).f1.f6)] 83 (0, 0))) := ⟨(by rw [hw]; exact (by (with_reducible repeat (first | refine blk_drewN ?_ _ | refine blk_drew ?_ | refine blk_alloc ?_ _)); refine blk_put (cs := #[.string ((rd_T87 x0_1 t329).f1.f0), .int .i64 ((rd_T87 x0_1 t329).f1.f1), .int .u8 ((rd_T87 x0_1 t329).f1.f2), .bool ((rd_T87 x0_1 t329).f1.f3), .slice A330_5 ((rd_T87 x0_1 t329).f1.f4).length c330_5, .string ((rd_T87 x0_1 t329).f1.f5), .string (⟨#[]⟩ : ByteArray)]) ?_ 6 _ rfl; (with_reducible repeat (first | refine blk_drewN ?_ _ | refine blk_drew ?_ | refine blk_alloc ?_ _)); refine blk_put (cs := #[.string ((rd_T87 x0_1 t329).f1.f0), .int .i64 ((rd_T87 x0_1 t329).f1.f1), .int .u8 ((rd_T87 x0_1 t329).f1.f2), .bool ((rd_T87 x0_1 t329).f1.f3), .slice A330_5 ((rd_T87 x0_1 t329).f1.f4).length c330_5, .string (⟨#[]⟩ : ByteArray), .string (⟨#[]⟩ : ByteArray)]) ?_ 5 _ rfl; (with_reducible repeat (first | refine blk_drewN ?_ _ | refine blk_drew ?_ | refine blk_alloc ?_ _)); refine blk_put (cs := #[.string ((rd_T87 x0_1 t329).f1.f0), .int .i64 ((rd_T87 x0_1 t329).f1.f1), .int .u8 ((rd_T87 x0_1 t329).f1.f2), .bool ((rd_T87 x0_1 t329).f1.f3), .slice none 0 0, .string (⟨#[]⟩ : ByteArray), .string (⟨#[]⟩ : ByteArray)]) ?_ 4 _ rfl; (with_reducible repeat (first | refine blk_drewN ?_ _ | refine blk_drew ?_ | refine blk_alloc ?_ _)); refine blk_put (cs := #[.string ((rd_T87 x0_1 t329).f1.f0), .int .i64 ((rd_T87 x0_1 t329).f1.f1), .int .u8 ((rd_T87 x0_1 t329).f1.f2), .bool false, .slice none 0 0, .string (⟨#[]⟩ : ByteArray), .string (⟨#[]⟩ : ByteArray)]) ?_ 3 _ rfl; (with_reducible repeat (first | refine blk_drewN ?_ _ | refine blk_drew ?_ | refine blk_alloc ?_ _)); refine blk_put (cs := #[.string ((rd_T87 x0_1 t329).f1.f0), .int .i64 ((rd_T87 x0_1 t329).f1.f1), .int .u8 0, .bool false, .slice none 0 0, .string (⟨#[]⟩ : ByteArray), .string (⟨#[]⟩ : ByteArray)]) ?_ 2 _ rfl; (with_reducible repeat (first | refine blk_drewN ?_ _ | refine blk_drew ?_ | refine blk_alloc ?_ _)); refine blk_put (cs := #[.string ((rd_T87 x0_1 t329).f1.f0), .int .i64 0, .int .u8 0, .bool false, .slice none 0 0, .string (⟨#[]⟩ : ByteArray), .string (⟨#[]⟩ : ByteArray)]) ?_ 1 _ rfl; (with_reducible repeat (first | refine blk_drewN ?_ _ | refine blk_drew ?_ | refine blk_alloc ?_ _)); refine blk_put (cs := #[.string (⟨#[]⟩ : ByteArray), .int .i64 0, .int .u8 0, .bool false, .slice none 0 0, .string (⟨#[]⟩ : ByteArray), .string (⟨#[]⟩ : ByteArray)]) ?_ 0 _ rfl; (with_reducible repeat (first | refine blk_drewN ?_ _ | refine blk_drew ?_ | refine blk_alloc ?_ _)); exact BK331.out))⟩; have n4_ : Aside0 (Below w.heap.size w w24) := ⟨(by rw [hw]; exact (by repeat (first | (with_reducible first | exact HB.out | apply below_alloc | apply pw_below_drewN | apply below_drew1 | refine below_set ?_ GE331.out) | exact HB.out)))⟩; clear hw; clear HO_0; clear HO_6; clear HL330_5; clear BK331; clear HB; have HO_0 := n0_; have HO_6 := n1_; have HL330_5 := n2_; have BK331 := n3_; have HB := n4_; clear n0_ n1_ n2_ n3_ n4_; have hcz25_0 : w24.cell? ⟨gb331, 0, none⟩ = some (.string ((rd_T87 x0_1 t329).f1.f0)) := (blk_cell BK331.out 0).trans rfl; have hcz25_1 : w24.cell? ⟨gb331, 1, none⟩ = some (.int .i64 ((rd_T87 x0_1 t329).f1.f1)) := (blk_cell BK331.out 1).trans rfl; have hcz25_2 : w24.cell? ⟨gb331, 2, none⟩ = some (.int .u8 ((rd_T87 x0_1 t329).f1.f2)) := (blk_cell BK331.out 2).trans rfl; have hcz25_3 : w24.cell? ⟨gb331, 3, none⟩ = some (.bool ((rd_T87 x0_1 t329).f1.f3)) := (blk_cell BK331.out 3).trans rfl; have hcz25_4 : w24.cell? ⟨gb331, 4, none⟩ = some (.slice A330_5 ((rd_T87 x0_1 t329).f1.f4).length c330_5) := (blk_cell BK331.out 4).trans rfl; have hcz25_5 : w24.cell? ⟨gb331, 5, none⟩ = some (.string ((rd_T87 x0_1 t329).f1.f5)) := (blk_cell BK331.out 5).trans rfl; have hcz25_6 : w24.cell? ⟨gb331, 6, none⟩ = some (.string ((rd_T87 x0_1 t329).f1.f6)) := (blk_cell BK331.out 6).trans rfl; have hfz25_0 := blk_frozen BK331.out 0; have hfz25_1 := blk_frozen BK331.out 1; have hfz25_2 := blk_frozen BK331.out 2; have hfz25_3 := blk_frozen BK331.out 3; have hfz25_4 := blk_frozen BK331.out 4; have hfz25_5 := blk_frozen BK331.out 5; have hfz25_6 := blk_frozen BK331.out 6) | ((with_reducible refine gate_store (t := 3) (p := 30) rfl ?_); refine store_event (t := 3) (p := 30) (v := ?vo_w26) (w1 := (w24.setCell ⟨gb331, 1, none⟩ (.int .i64 a1))) ?hg ?ho ?hn ?hr ?_; (case ho => rfl); (case hg => rfl); (case hn => rfl); (case hr => first | (go_simp; done) | (go_simp; rfl)); intro w26 hw; have n0_ : Aside0 (Kd.V k87 87 w26 w.heap.size (fun k_ => (P0_ k_ ∨ w.heap.size ≤ k_) ∧ some k_ ≠ (u6 : Value).ownBlock ∧ k_ ≠ gb331) (.slice (some ad330) x0_1.length co20) x0_1) := ⟨(by rw [hw]; exact (by (with_reducible repeat (first | apply Kd.V_alloc | apply Kd.V_drewN | apply Kd.V_drew)); exact Kd.V_mono (Kd.V_far (p := ⟨gb331, 1, none⟩) (Kd.V_mono HO_0.out (fun k_ hk => (⟨hk, hk.2.2⟩ : _ ∧ k_ ≠ gb331))) (fun _ hk => hk.2) (.int .i64 a1)) (fun _ hk => ⟨hk.1.1, ⟨hk.1.2.1, hk.1.2.2⟩⟩)))⟩; have n1_ : Aside0 (Kd.N k83 83 w26 w.heap.size (fun k_ => (P0_ k_ ∨ w.heap.size ≤ k_) ∧ k_ ≠ gb331) u6 x6_1) := ⟨(by rw [hw]; exact (by (with_reducible repeat (first | apply Kd.N_alloc | apply Kd.N_drewN | apply Kd.N_drew)); exact Kd.N_mono (Kd.N_far (p := ⟨gb331, 1, none⟩) (Kd.N_mono HO_6.out (fun k_ hk => (⟨hk, hk.2⟩ : _ ∧ k_ ≠ gb331))) (fun _ hk => hk.2) (.int .i64 a1)) (fun _ hk => ⟨hk.1.1, hk.1.2⟩)))⟩; have n2_ : Aside0 (Kd.V k100 100 w26 w.heap.size (fun k_ => (P0_ k_ ∨ w.heap.size ≤ k_) ∧ some k_ ≠ (u6 : Value).ownBlock ∧ k_ ≠ gb331) (.slice A330_5 ((rd_T87 x0_1 t329).f1.f4).length c330_5) ((rd_T87 x0_1 t329).f1.f4)) := ⟨(by rw [hw]; exact (by (with_reducible repeat (first | apply Kd.V_alloc | apply Kd.V_drewN | apply Kd.V_drew)); exact Kd.V_mono (Kd.V_far (p := ⟨gb331, 1, none⟩) (Kd.V_mono HL330_5.out (fun k_ hk => (⟨hk, hk.2.2⟩ : _ ∧ k_ ≠ gb331))) (fun _ hk => hk.2) (.int .i64 a1)) (fun _ hk => ⟨hk.1.1, ⟨hk.1.2.1, hk.1.2.2⟩⟩)))⟩; have n3_ : Aside0 (w26.heap[gb331]? = some (.cells #[.string ((rd_T87 x0_1 t329).f1.f0), .int .i64 a1, .int .u8 ((rd_T87 x0_1 t329).f1.f2), .bool ((rd_T87 x0_1 t329).f1.f3), .slice A330_5 ((rd_T87 x0_1 t329).f1.f4).length c330_5, .string ((rd_T87 x0_1 t329).f1.f5), .string ((rd_T87 x0_1 t329).f1.f6)] 83 (0, 0))) := ⟨(by rw [hw]; exact (by (with_reducible repeat (first | refine blk_drewN ?_ _ | refine blk_drew ?_ | refine blk_alloc ?_ _)); refine blk_put (cs := #[.string ((rd_T87 x0_1 t329).f1.f0), .int .i64 ((rd_T87 x0_1 t329).f1.f1), .int .u8 ((rd_T87 x0_1 t329).f1.f2), .bool ((rd_T87 x0_1 t329).f1.f3), .slice A330_5 ((rd_T87 x0_1 t329).f1.f4).length c330_5, .string ((rd_T87 x0_1 t329).f1.f5), .string ((rd_T87 x0_1 t329).f1.f6)]) ?_ 1 _ rfl; (with_reducible repeat (first | refine blk_drewN ?_ _ | refine blk_drew ?_ | refine blk_alloc ?_ _)); exact BK331.out))⟩; have n4_ : Aside0 (Below w.heap.size w w26) := ⟨(by rw [hw]; exact (by repeat (first | (with_reducible first | exact HB.out | apply below_alloc | apply pw_below_drewN | apply below_drew1 | refine below_set ?_ GE331.out) | exact HB.out)))⟩; clear hw; clear HO_0; clear HO_6; clear HL330_5; clear BK331; clear HB; have HO_0 := n0_; have HO_6 := n1_; have HL330_5 := n2_; have BK331 := n3_; have HB := n4_; clear n0_ n1_ n2_ n3_ n4_; have hcz27_0 : w26.cell? ⟨gb331, 0, none⟩ = some (.string ((rd_T87 x0_1 t329).f1.f0)) := (blk_cell BK331.out 0).trans rfl; have hcz27_1 : w26.cell? ⟨gb331, 1, none⟩ = some (.int .i64 a1) := (blk_cell BK331.out 1).trans rfl; have hcz27_2 : w26.cell? ⟨gb331, 2, none⟩ = some (.int .u8 ((rd_T87 x0_1 t329).f1.f2)) := (blk_cell BK331.out 2).trans rfl; have hcz27_3 : w26.cell? ⟨gb331, 3, none⟩ = some (.bool ((rd_T87 x0_1 t329).f1.f3)) := (blk_cell BK331.out 3).trans rfl; have hcz27_4 : w26.cell? ⟨gb331, 4, none⟩ = some (.slice A330_5 ((rd_T87 x0_1 t329).f1.f4).length c330_5) := (blk_cell BK331.out 4).trans rfl; have hcz27_5 : w26.cell? ⟨gb331, 5, none⟩ = some (.string ((rd_T87 x0_1 t329).f1.f5)) := (blk_cell BK331.out 5).trans rfl; have hcz27_6 : w26.cell? ⟨gb331, 6, none⟩ = some (.string ((rd_T87 x0_1 t329).f1.f6)) := (blk_cell BK331.out 6).trans rfl; have hfz27_0 := blk_frozen BK331.out 0; have hfz27_1 := blk_frozen BK331.out 1; have hfz27_2 := blk_frozen BK331.out 2; have hfz27_3 := blk_frozen BK331.out 3; have hfz27_4 := blk_frozen BK331.out 4; have hfz27_5 := blk_frozen BK331.out 5; have hfz27_6 := blk_frozen BK331.out 6) | ((with_reducible refine gate_builtin (b := .append) (xs := #[.tmp 31, .tmp 33]) rfl ?_); at_builtin; refine Kd.N_append k83 (w0 := w) w.heap.size rfl (.tmp 31) (.tmp 33) 56 83 (.agg #[(.string ⟨#[]⟩), (.int .i64 0), (.int .u8 0), (.bool false), (.slice none 0 0), (.string ⟨#[]⟩), (.string ⟨#[]⟩)]) 88 rfl Try.underlying56 info83 rfl (by decide) (by omega) u6 x6_1 (⟨(rd_T87 x0_1 t329).f1.f0, a1, (rd_T87 x0_1 t329).f1.f2, (rd_T87 x0_1 t329).f1.f3, (rd_T87 x0_1 t329).f1.f4, (rd_T87 x0_1 t329).f1.f5, (rd_T87 x0_1 t329).f1.f6⟩ : S83) [.string ((rd_T87 x0_1 t329).f1.f0), .int .i64 a1, .int .u8 ((rd_T87 x0_1 t329).f1.f2), .bool ((rd_T87 x0_1 t329).f1.f3), .slice A330_5 ((rd_T87 x0_1 t329).f1.f4).length c330_5, .string ((rd_T87 x0_1 t329).f1.f5), .string ((rd_T87 x0_1 t329).f1.f6)] (fun k_ => (P0_ k_ ∨ w.heap.size ≤ k_) ∧ k_ ≠ gb331) (fun k_ => ((fun k_ => (P0_ k_ ∨ w.heap.size ≤ k_) ∧ k_ ≠ gb331)) k_ ∧ some k_ ≠ (u6 : Value).ownBlock) rfl rfl ?aP (fun _ hk => hk) ?aF ?aO ?aB ?aS ?aL ?_; (case aP => exact (k83_mkF _ _ (⟨(rd_T87 x0_1 t329).f1.f0, a1, (rd_T87 x0_1 t329).f1.f2, (rd_T87 x0_1 t329).f1.f3, (rd_T87 x0_1 t329).f1.f4, (rd_T87 x0_1 t329).f1.f5, (rd_T87 x0_1 t329).f1.f6⟩ : S83) (Kd.V_reads' (Kd.V_mono (ok' := (fun k_ => ((fun k_ => (P0_ k_ ∨ w.heap.size ≤ k_) ∧ k_ ≠ gb331)) k_ ∧ some k_ ≠ (u6 : Value).ownBlock)) (HL330_5.out) (fun k_ hk => ⟨⟨hk.1, hk.2.2⟩, hk.2.1⟩))).2.1 (Kd.V_F (Kd.V_mono (ok' := (fun k_ => ((fun k_ => (P0_ k_ ∨ w.heap.size ≤ k_) ∧ k_ ≠ gb331)) k_ ∧ some k_ ≠ (u6 : Value).ownBlock)) (HL330_5.out) (fun k_ hk => ⟨⟨hk.1, hk.2.2⟩, hk.2.1⟩))))); (case aB => exact (by repeat (first | (with_reducible first | exact HB.out | apply below_alloc | apply pw_below_drewN | apply below_drew1 | refine below_set ?_ GE331.out) | exact HB.out))); (case aF => exact (fun k_ hk => ⟨(.inr (Nat.le_trans (below_size (by repeat (first | (with_reducible first | exact HB.out | apply below_alloc | apply pw_below_drewN | apply below_drew1 | refine below_set ?_ GE331.out) | exact HB.out))) hk)), Kd.freshB (g := gb331) (o := .cells #[.string ((rd_T87 x0_1 t329).f1.f0), .int .i64 a1, .int .u8 ((rd_T87 x0_1 t329).f1.f2), .bool ((rd_T87 x0_1 t329).f1.f3), .slice A330_5 ((rd_T87 x0_1 t329).f1.f4).length c330_5, .string ((rd_T87 x0_1 t329).f1.f5), .string ((rd_T87 x0_1 t329).f1.f6)] 83 (0, 0)) (by (with_reducible repeat (first | refine blk_drewN ?_ _ | refine blk_drew ?_ | refine blk_alloc ?_ _)); exact BK331.out) k_ hk⟩)); (case aO => exact (by (with_reducible repeat (first | apply Kd.N_alloc | apply Kd.N_drewN | apply Kd.N_drew)); exact HO_6.out)); (case aS => exact (below_size (by repeat (first | (with_reducible first | exact HB.out | apply below_alloc | apply pw_below_drewN | apply below_drew1 | refine below_set ?_ GE331.out) | exact HB.out)))); (case aL => have := LMc12.out; omega); intro v333 w28 ho hb hg hat; rw [← Ny332.out] at ho; have n0_ := Aside0.mk (Kd.V_afterv (ok := (fun k_ => (P0_ k_ ∨ w.heap.size ≤ k_) ∧ k_ ≠ gb331)) (by (with_reducible repeat (first | apply Kd.V_alloc | apply Kd.V_drewN | apply Kd.V_drew)); exact Kd.V_mono HO_0.out (fun _ hk => ⟨⟨hk.1, hk.2.2⟩, hk.2.1⟩)) hg hat); have n1_ := Aside0.mk (Kd.V_afterv (ok := (fun k_ => (P0_ k_ ∨ w.heap.size ≤ k_) ∧ k_ ≠ gb331)) (by (with_reducible repeat (first | apply Kd.V_alloc | apply Kd.V_drewN | apply Kd.V_drew)); exact Kd.V_mono HL330_5.out (fun _ hk => ⟨⟨hk.1, hk.2.2⟩, hk.2.1⟩)) hg hat); have n2_ := Aside0.mk (blk_grown (g := gb331) (o := .cells #[.string ((rd_T87 x0_1 t329).f1.f0), .int .i64 a1, .int .u8 ((rd_T87 x0_1 t329).f1.f2), .bool ((rd_T87 x0_1 t329).f1.f3), .slice A330_5 ((rd_T87 x0_1 t329).f1.f4).length c330_5, .string ((rd_T87 x0_1 t329).f1.f5), .string ((rd_T87 x0_1 t329).f1.f6)] 83 (0, 0)) (by (with_reducible repeat (first | refine blk_drewN ?_ _ | refine blk_drew ?_ | refine blk_alloc ?_ _)); exact BK331.out) hg (Kd.N_away HO_6.out (fun _ hk => hk.2))); have n3_ := Aside0.mk (hb); have n4_ := Aside0.mk (ho); clear HO_0; clear HL330_5; clear BK331; clear HB; clear HO_6; have HO_0 := n0_; have HL330_5 := n1_; have BK331 := n2_; have HB := n3_; have HO334 := n4_; clear n0_ n1_ n2_ n3_ n4_; clear ho hb hg hat))
                          have n0_ := Aside0.mk (Kd.V_drew HO_0.out)
                          have n1_ := Aside0.mk (Kd.V_drew HL330_5.out)
                          have n2_ := Aside0.mk (Kd.N_drew HO334.out)
                          have n3_ := Aside0.mk (blk_drew BK331.out)
                          have n4_ := Aside0.mk (below_drew1 HB.out)
                          clear HO_0
                          clear HL330_5
                          clear HO334
                          clear BK331
                          clear HB
                          have HO_0 := n0_
                          have HL330_5 := n1_
                          have HO334 := n2_
                          have BK331 := n3_
                          have HB := n4_
                          clear n0_ n1_ n2_ n3_ n4_
                          have q30 : (t329 : Int) ≤ ((x0_1.length : Int) : Int) := of_decide_eq_true (by first | (with_reducible assumption) | assumption)
                          obtain ⟨i030, hi030, _, hsz30, _⟩ := info_parts info87
                          have hroom30 : x0_1.length ≤ co20 := (Kd.V_reads' HO_0.out).2.1
                          have hC30 : Kd.F k87 _ _ (some ad330) x0_1.length x0_1 := (Kd.V_at (base := w.heap.size) HO_0.out).2.2
                          have hcut30 := cut_to (P := Try.prog) 42 87 .i64 Try.underlying42 hi030 (some ad330) x0_1.length co20 t329 (of_decide_eq_true (by first | (with_reducible assumption) | assumption)) q30 hroom30
                          have hr30 := Kd.F_take (m := (t329 : Int).toNat) hC30 (by omega)
                          have hy30 : y338.length = (t329 : Int).toNat := (by rw [Ny338.out, List.length_take]; omega)
                          rw [← Ny338.out] at hr30
                          rw [← hy30] at hcut30
                          have HO342 := Aside0.mk (show Kd.V k87 87 _ w.heap.size _ (.slice (some ad330) y338.length co20) y338 from Kd.V_mk (by omega) hr30)
                          have HC342 := Aside0.mk (show y338.length ≤ co20 from by omega)
                          clear hr30 hC30 hroom30 hi030 hsz30
                          have KY30 := Aside0.mk hy30
                          clear hy30
                          replace q30 := eq_true q30
                          have q31 : ((ji16) : Int) ≤ ((x0_1.length : Int) : Int) := of_decide_eq_true (by first | (with_reducible assumption) | assumption)
                          obtain ⟨i031, hi031, _, hsz31, _⟩ := info_parts info87
                          have hroom31 : x0_1.length ≤ co20 := (Kd.V_reads' HO_0.out).2.1
                          have hC31 : Kd.F k87 _ _ (some ad330) x0_1.length x0_1 := (Kd.V_at (base := w.heap.size) HO_0.out).2.2
                          have q031 : (0 : Int) ≤ ((ji16) : Int) := of_decide_eq_true (by first | (with_reducible assumption) | assumption)
                          have hcut31 := cut_from (P := Try.prog) 42 87 .i64 Try.underlying42 hi031 10 hsz31 (some ad330) x0_1.length co20 (ji16) q031 q31
                          have hr31 := Kd.F_cut (m := ((ji16) : Int).toNat) (c := co20) hC31 (by omega) hroom31
                          obtain ⟨A31, hA31⟩ : ∃ A1, A1 = (if co20 = ((ji16) : Int).toNat then (some ad330) else ((some ad330) : Option Addr).map (·.add (((ji16) : Int).toNat * 10))) := ⟨_, rfl⟩
                          obtain ⟨c31, hc31⟩ : ∃ c1, c1 = co20 - ((ji16) : Int).toNat := ⟨_, rfl⟩
                          have hy31 : y346.length = x0_1.length - ((ji16) : Int).toNat := (by rw [Ny346.out, List.length_drop] <;> omega)
                          rw [show (x0_1).drop ((ji16) : Int).toNat = y346 from Ny346.out.symm] at hr31
                          replace hr31 : Kd.F k87 _ _ A31 y346.length y346 := (by rw [hA31]; exact hr31)
                          rw [← hy31, ← hA31, ← hc31] at hcut31
                          have HO350 := Aside0.mk (show Kd.V k87 87 _ w.heap.size _ (.slice A31 y346.length c31) y346 from Kd.V_mk (by rw [hy31, hc31]; exact Nat.sub_le_sub_right hroom31 _) hr31)
                          have HC350 := Aside0.mk (show y346.length ≤ c31 from by rw [hy31, hc31]; exact Nat.sub_le_sub_right hroom31 _)
                          clear hr31 hC31 hroom31 hi031 hsz31 hc31
                          have KY31 := Aside0.mk hy31
                          have KA31 := Aside0.mk hA31
                          clear hy31 hA31
                          replace q31 := eq_true q31
                          refine start_ (n := 11) (S := fun w' => True) (ds := []) #[false, false, false, false, false, false, false, false, false, false, false] (by kernel_rfl) rfl rfl trivial (fun hHeld => ?_); refine with_tabW switchboardref22_Due.tab11 switchboardref22_Due.bits11 (fun HT_ HW_ => ?_)
                          generalize w28.drew = w29 at HO_0 HL330_5 HO334 BK331 HB HO342 HO350 hHeld ⊢
                          refine pure_ (i := 1) (N := some 36) (v := ?_) (a' := ?_) #[false, true, false, false, false, false, false, false, false, false, false] rfl rfl (any_of HT_.out (by kernel_rfl)) (fun _ _ _ h => h) (Or.inl ⟨by rfl, ?_⟩) ?_ ?_
                          rotate_left
                          · intro w'
                            go_simp
                            with_reducible rfl
                          rotate_left
                          · simp only [Act.put, List.setIfInBounds_toArray, List.set_cons_zero, List.set_cons_succ, i64_w, i32_w]
                            rfl
                          refine pure_ (i := 2) (N := some 37) (v := ?_) (a' := ?_) #[false, true, true, false, false, false, false, false, false, false, false] rfl rfl (any_of HT_.out (by kernel_rfl)) (fun _ _ _ h => h) (Or.inl ⟨by rfl, ?_⟩) ?_ ?_
                          rotate_left
                          · intro w'
                            go_simp
                            with_reducible rfl
                          rotate_left
                          · simp only [Act.put, List.setIfInBounds_toArray, List.set_cons_zero, List.set_cons_succ, i64_w, i32_w]
                            rfl
                          refine pure_ (i := 3) (N := some 38) (v := ?_) (a' := ?_) #[false, true, true, true, false, false, false, false, false, false, false] rfl rfl (any_of HT_.out (by kernel_rfl)) (fun _ _ _ h => h) (Or.inl ⟨by rfl, ?_⟩) ?_ ?_
                          rotate_left
                          · intro w'
                            go_simp
                            with_reducible rfl
                          rotate_left
                          · simp only [Act.put, List.setIfInBounds_toArray, List.set_cons_zero, List.set_cons_succ, i64_w, i32_w]
                            rfl
                          refine pure_ (i := 5) (N := some 40) (v := ?_) (a' := ?_) #[false, true, true, true, false, true, false, false, false, false, false] rfl rfl (any_of HT_.out (by kernel_rfl)) (fun _ _ _ h => h) (Or.inl ⟨by rfl, ?_⟩) ?_ ?_
                          rotate_left
                          · intro w'
                            go_simp
                            with_reducible rfl
                          rotate_left
                          · simp only [Act.put, List.setIfInBounds_toArray, List.set_cons_zero, List.set_cons_succ, i64_w, i32_w]
                            rfl
                          refine pure_ (i := 6) (N := some 41) (v := ?_) (a' := ?_) #[false, true, true, true, false, true, true, false, false, false, false] rfl rfl (any_of HT_.out (by kernel_rfl)) (fun _ _ _ h => h) (Or.inl ⟨by rfl, ?_⟩) ?_ ?_
                          rotate_left
                          · intro w'
                            go_simp
                            with_reducible rfl
                          rotate_left
                          · simp only [Act.put, List.setIfInBounds_toArray, List.set_cons_zero, List.set_cons_succ, i64_w, i32_w]
                            rfl
                          refine pure_ (i := 7) (N := some 42) (v := ?_) (a' := ?_) #[false, true, true, true, false, true, true, true, false, false, false] rfl rfl (any_of HT_.out (by kernel_rfl)) (fun _ _ _ h => h) (Or.inl ⟨by rfl, ?_⟩) ?_ ?_
                          rotate_left
                          · intro w'
                            go_simp
                            with_reducible rfl
                          rotate_left
                          · simp only [Act.put, List.setIfInBounds_toArray, List.set_cons_zero, List.set_cons_succ, i64_w, i32_w]
                            rfl
                          refine pure_ (i := 8) (N := some 43) (v := ?_) (a' := ?_) #[false, true, true, true, false, true, true, true, true, false, false] rfl rfl (any_of HT_.out (by kernel_rfl)) (fun _ _ _ h => h) (Or.inl ⟨by rfl, ?_⟩) ?_ ?_
                          rotate_left
                          · intro w'
                            go_simp
                            with_reducible rfl
                          rotate_left
                          · simp only [Act.put, List.setIfInBounds_toArray, List.set_cons_zero, List.set_cons_succ, i64_w, i32_w]
                            rfl
                          refine one_ (i := 0) (N := some 35) #[true, true, true, true, false, true, true, true, true, false, false] rfl rfl (one_of HT_.out (by kernel_rfl)) (by decide) (fun K hK => ?_)
                          refine Kd.N_lit_step k87 _ 87 ?hg (N' := 35) ?hd (xs := ([] : List (S87))) (inner := []) (ok := (fun k_ => (P0_ k_ ∨ w.heap.size ≤ k_) ∧ some k_ ≠ (v333 : Value).ownBlock ∧ k_ ≠ gb331)) (okp := (fun k_ => (P0_ k_ ∨ w.heap.size ≤ k_) ∧ some k_ ≠ (v333 : Value).ownBlock ∧ k_ ≠ gb331)) ?hr ?hp (fun _ hk => hk) ((show ∀ k_, w29.heap.size ≤ k_ → (fun k_ => (P0_ k_ ∨ w.heap.size ≤ k_) ∧ some k_ ≠ (v333 : Value).ownBlock ∧ k_ ≠ gb331) k_ from fun k_ hk => ⟨(.inr (Nat.le_trans (below_size (by repeat (first | (with_reducible first | exact HB.out | apply below_alloc | apply pw_below_drewN | apply below_drew1 | refine below_set ?_ GE331.out) | exact HB.out))) hk)), Kd.fresh' (Kd.N_lt (by (with_reducible repeat (first | apply Kd.N_alloc | apply Kd.N_drewN | apply Kd.N_drew)); exact HO334.out)) k_ hk, Kd.freshB (g := gb331) (o := .cells #[.string ((rd_T87 x0_1 t329).f1.f0), .int .i64 a1, .int .u8 ((rd_T87 x0_1 t329).f1.f2), .bool ((rd_T87 x0_1 t329).f1.f3), .slice A330_5 ((rd_T87 x0_1 t329).f1.f4).length c330_5, .string ((rd_T87 x0_1 t329).f1.f5), .string ((rd_T87 x0_1 t329).f1.f6)] 83 (0, 0)) (by (with_reducible repeat (first | refine blk_drewN ?_ _ | refine blk_drew ?_ | refine blk_alloc ?_ _)); exact BK331.out) k_ hk⟩) _ (Nat.le_refl _)) (Below.refl _ _) (Nat.le_refl _) (by simp) ?_; (case hd => rfl); (case hg => rfl); (case hr => first | (go_simp; done) | (go_simp; rfl)); (case hp => exact (Reps.none _ _))
                          intro v336 w32 ho33 hb hg_ hnew_
                          clear hg_ hnew_
                          (first | rw [← Ny335.out] at ho33 | (simp only [Int.reduceToNat] at ho33; rw [← Ny335.out] at ho33))
                          have n0_ := Aside0.mk (Kd.V_elder' (by (with_reducible repeat (first | apply Kd.V_alloc | apply Kd.V_drewN | apply Kd.V_drew)); exact HO_0.out) (Kd.N_base ho33) hb)
                          have n1_ := Aside0.mk (Kd.V_elder' (by (with_reducible repeat (first | apply Kd.V_alloc | apply Kd.V_drewN | apply Kd.V_drew)); exact HL330_5.out) (Kd.N_base ho33) hb)
                          have n2_ := Aside0.mk (Kd.N_elder' (by (with_reducible repeat (first | apply Kd.N_alloc | apply Kd.N_drewN | apply Kd.N_drew)); exact HO334.out) (Kd.N_base ho33) hb)
                          have n3_ := Aside0.mk (Kd.V_elder' (by (with_reducible repeat (first | apply Kd.V_alloc | apply Kd.V_drewN | apply Kd.V_drew)); exact HO342.out) (Kd.N_base ho33) hb)
                          have n4_ := Aside0.mk (Kd.V_elder' (by (with_reducible repeat (first | apply Kd.V_alloc | apply Kd.V_drewN | apply Kd.V_drew)); exact HO350.out) (Kd.N_base ho33) hb)
                          have n5_ := Aside0.mk (Kd.N_lower ho33 (below_size (by repeat (first | (with_reducible first | exact HB.out | apply below_alloc | apply pw_below_drewN | apply below_drew1 | refine below_set ?_ GE331.out) | exact HB.out))))
                          have n6_ := Aside0.mk (blk_below (g := gb331) (o := .cells #[.string ((rd_T87 x0_1 t329).f1.f0), .int .i64 a1, .int .u8 ((rd_T87 x0_1 t329).f1.f2), .bool ((rd_T87 x0_1 t329).f1.f3), .slice A330_5 ((rd_T87 x0_1 t329).f1.f4).length c330_5, .string ((rd_T87 x0_1 t329).f1.f5), .string ((rd_T87 x0_1 t329).f1.f6)] 83 (0, 0)) (by (with_reducible repeat (first | refine blk_drewN ?_ _ | refine blk_drew ?_ | refine blk_alloc ?_ _)); exact BK331.out) hb)
                          have n7_ := Aside0.mk (below_step (by repeat (first | (with_reducible first | exact HB.out | apply below_alloc | apply pw_below_drewN | apply below_drew1 | refine below_set ?_ GE331.out) | exact HB.out)) hb)
                          clear HO_0
                          clear HL330_5
                          clear HO334
                          clear HO342
                          clear HO350
                          clear BK331
                          clear HB
                          have HO_0 := n0_
                          have HL330_5 := n1_
                          have HO334 := n2_
                          have HO342 := n3_
                          have HO350 := n4_
                          have HO337 := n5_
                          have BK331 := n6_
                          have HB := n7_
                          clear n0_ n1_ n2_ n3_ n4_ n5_ n6_ n7_
                          clear hb ho33
                          refine hK.out _ _ trivial (fun hHeld => ?_)
                          clear hK K
                          refine norm_ (a' := ?_) ?_ ?_
                          rotate_left
                          · show Act.put _ (some 35) _ = _
                            simp only [Act.put, List.setIfInBounds_toArray, List.set_cons_zero, List.set_cons_succ, i64_w, i32_w]
                            rfl
                          refine one_ (i := 4) (N := some 39) #[true, true, true, true, true, true, true, true, true, false, false] rfl rfl (one_of HT_.out (by kernel_rfl)) (by decide) (fun K hK => ?_)
                          refine Kd.N_append_rows_step k87 (w0 := w) w.heap.size (by rfl) (.tmp 35) (.tmp 38) 42 87 (.agg #[(.string ⟨#[]⟩), (.string ⟨#[]⟩), (.int .i64 0), (.int .u8 0), (.bool false), (.slice none 0 0), (.string ⟨#[]⟩), (.string ⟨#[]⟩), (.int .i64 0), (.int .i64 0)]) 120 rfl Try.underlying42 info87 rfl (by decide) (by omega) v336 y335 y338 _ _ _ (fun k_ => (P0_ k_ ∨ w.heap.size ≤ k_) ∧ some k_ ≠ (v333 : Value).ownBlock ∧ k_ ≠ gb331) (fun k_ => ((fun k_ => (P0_ k_ ∨ w.heap.size ≤ k_) ∧ some k_ ≠ (v333 : Value).ownBlock ∧ k_ ≠ gb331)) k_ ∧ some k_ ≠ (v336 : Value).ownBlock) rfl rfl ?aO ?aR (fun _ hk => hk) ?aF ?aB ?aS ?aL ?_
                          (case aR => exact (by skip; exact Kd.V_F (Kd.V_mono (ok' := (fun k_ => ((fun k_ => (P0_ k_ ∨ w.heap.size ≤ k_) ∧ some k_ ≠ (v333 : Value).ownBlock ∧ k_ ≠ gb331)) k_ ∧ some k_ ≠ (v336 : Value).ownBlock)) (HO342.out) (fun k_ hk => ⟨⟨hk.1.1.1, ⟨hk.1.2, hk.1.1.2⟩⟩, hk.2⟩))))
                          (case aB => exact (by repeat (first | (with_reducible first | exact HB.out | apply below_alloc | apply pw_below_drewN | apply below_drew1 | refine below_set ?_ GE331.out) | exact HB.out)))
                          (case aF => exact (fun k_ hk => ⟨(.inr (Nat.le_trans (below_size (by repeat (first | (with_reducible first | exact HB.out | apply below_alloc | apply pw_below_drewN | apply below_drew1 | refine below_set ?_ GE331.out) | exact HB.out))) hk)), Kd.fresh' (Kd.N_lt (by (with_reducible repeat (first | apply Kd.N_alloc | apply Kd.N_drewN | apply Kd.N_drew)); exact HO334.out)) k_ hk, Kd.freshB (g := gb331) (o := .cells #[.string ((rd_T87 x0_1 t329).f1.f0), .int .i64 a1, .int .u8 ((rd_T87 x0_1 t329).f1.f2), .bool ((rd_T87 x0_1 t329).f1.f3), .slice A330_5 ((rd_T87 x0_1 t329).f1.f4).length c330_5, .string ((rd_T87 x0_1 t329).f1.f5), .string ((rd_T87 x0_1 t329).f1.f6)] 83 (0, 0)) (by (with_reducible repeat (first | refine blk_drewN ?_ _ | refine blk_drew ?_ | refine blk_alloc ?_ _)); exact BK331.out) k_ hk⟩))
                          (case aO => exact (by (with_reducible repeat (first | apply Kd.N_alloc | apply Kd.N_drewN | apply Kd.N_drew)); exact HO337.out))
                          (case aS => exact (below_size (by repeat (first | (with_reducible first | exact HB.out | apply below_alloc | apply pw_below_drewN | apply below_drew1 | refine below_set ?_ GE331.out) | exact HB.out))))
                          (case aL => have := LMc15.out; omega)
                          intro v344 w34 ho hb hg hat
                          rw [← Ny343.out] at ho
                          have n0_ := Aside0.mk (Kd.V_afterv (ok := (fun k_ => (P0_ k_ ∨ w.heap.size ≤ k_) ∧ some k_ ≠ (v333 : Value).ownBlock ∧ k_ ≠ gb331)) (by (with_reducible repeat (first | apply Kd.V_alloc | apply Kd.V_drewN | apply Kd.V_drew)); exact Kd.V_mono HO_0.out (fun _ hk => ⟨⟨hk.1.1.1, ⟨hk.1.2, hk.1.1.2⟩⟩, hk.2⟩)) hg hat)
                          have n1_ := Aside0.mk (Kd.V_afterv (ok := (fun k_ => (P0_ k_ ∨ w.heap.size ≤ k_) ∧ some k_ ≠ (v333 : Value).ownBlock ∧ k_ ≠ gb331)) (by (with_reducible repeat (first | apply Kd.V_alloc | apply Kd.V_drewN | apply Kd.V_drew)); exact Kd.V_mono HL330_5.out (fun _ hk => ⟨⟨hk.1.1.1, ⟨hk.1.2, hk.1.1.2⟩⟩, hk.2⟩)) hg hat)
                          have n2_ := Aside0.mk (blk_grown (g := gb331) (o := .cells #[.string ((rd_T87 x0_1 t329).f1.f0), .int .i64 a1, .int .u8 ((rd_T87 x0_1 t329).f1.f2), .bool ((rd_T87 x0_1 t329).f1.f3), .slice A330_5 ((rd_T87 x0_1 t329).f1.f4).length c330_5, .string ((rd_T87 x0_1 t329).f1.f5), .string ((rd_T87 x0_1 t329).f1.f6)] 83 (0, 0)) (by (with_reducible repeat (first | refine blk_drewN ?_ _ | refine blk_drew ?_ | refine blk_alloc ?_ _)); exact BK331.out) hg (Kd.N_ne HO337.out BK331.out (by decide)))
                          have n3_ := Aside0.mk (Kd.N_afterv (ok := (fun k_ => (P0_ k_ ∨ w.heap.size ≤ k_) ∧ k_ ≠ gb331)) (by (with_reducible repeat (first | apply Kd.N_alloc | apply Kd.N_drewN | apply Kd.N_drew)); exact HO334.out) hg hat)
                          have n4_ := Aside0.mk (Kd.V_afterv (ok := (fun k_ => (P0_ k_ ∨ w.heap.size ≤ k_) ∧ some k_ ≠ (v333 : Value).ownBlock ∧ k_ ≠ gb331)) (by (with_reducible repeat (first | apply Kd.V_alloc | apply Kd.V_drewN | apply Kd.V_drew)); exact Kd.V_mono HO342.out (fun _ hk => ⟨⟨hk.1.1.1, ⟨hk.1.2, hk.1.1.2⟩⟩, hk.2⟩)) hg hat)
                          have n5_ := Aside0.mk (Kd.V_afterv (ok := (fun k_ => (P0_ k_ ∨ w.heap.size ≤ k_) ∧ some k_ ≠ (v333 : Value).ownBlock ∧ k_ ≠ gb331)) (by (with_reducible repeat (first | apply Kd.V_alloc | apply Kd.V_drewN | apply Kd.V_drew)); exact Kd.V_mono HO350.out (fun _ hk => ⟨⟨hk.1.1.1, ⟨hk.1.2, hk.1.1.2⟩⟩, hk.2⟩)) hg hat)
                          have n6_ := Aside0.mk (hb)
                          have n7_ := Aside0.mk (ho)
                          clear HO_0
                          clear HL330_5
                          clear BK331
                          clear HO334
                          clear HO342
                          clear HO350
                          clear HB
                          clear HO337
                          have HO_0 := n0_
                          have HL330_5 := n1_
                          have BK331 := n2_
                          have HO334 := n3_
                          have HO342 := n4_
                          have HO350 := n5_
                          have HB := n6_
                          have HO345 := n7_
                          clear n0_ n1_ n2_ n3_ n4_ n5_ n6_ n7_
                          clear ho hb hg hat
                          refine hK.out _ _ trivial (fun hHeld => ?_)
                          clear hK K
                          refine norm_ (a' := ?_) ?_ ?_
                          rotate_left
                          · show Act.put _ (some 39) _ = _
                            simp only [Act.put, List.setIfInBounds_toArray, List.set_cons_zero, List.set_cons_succ, i64_w, i32_w]
                            rfl
                          refine one_ (i := 9) (N := some 44) #[true, true, true, true, true, true, true, true, true, true, false] rfl rfl (one_of HT_.out (by kernel_rfl)) (by decide) (fun K hK => ?_)
                          refine Kd.N_append_rows_step k87 (w0 := w) w.heap.size (by rfl) (.tmp 39) (.tmp 43) 42 87 (.agg #[(.string ⟨#[]⟩), (.string ⟨#[]⟩), (.int .i64 0), (.int .u8 0), (.bool false), (.slice none 0 0), (.string ⟨#[]⟩), (.string ⟨#[]⟩), (.int .i64 0), (.int .i64 0)]) 120 rfl Try.underlying42 info87 rfl (by decide) (by omega) v344 y343 y346 _ _ _ (fun k_ => (P0_ k_ ∨ w.heap.size ≤ k_) ∧ some k_ ≠ (v333 : Value).ownBlock ∧ k_ ≠ gb331) (fun k_ => ((fun k_ => (P0_ k_ ∨ w.heap.size ≤ k_) ∧ some k_ ≠ (v333 : Value).ownBlock ∧ k_ ≠ gb331)) k_ ∧ some k_ ≠ (v344 : Value).ownBlock) rfl rfl ?aO ?aR (fun _ hk => hk) ?aF ?aB ?aS ?aL ?_
                          (case aR => exact (by skip; exact Kd.V_F (Kd.V_mono (ok' := (fun k_ => ((fun k_ => (P0_ k_ ∨ w.heap.size ≤ k_) ∧ some k_ ≠ (v333 : Value).ownBlock ∧ k_ ≠ gb331)) k_ ∧ some k_ ≠ (v344 : Value).ownBlock)) (HO350.out) (fun k_ hk => ⟨⟨hk.1.1, ⟨hk.1.2.1, hk.1.2.2⟩⟩, hk.2⟩))))
                          (case aB => exact (by repeat (first | (with_reducible first | exact HB.out | apply below_alloc | apply pw_below_drewN | apply below_drew1 | refine below_set ?_ GE331.out) | exact HB.out)))
                          (case aF => exact (fun k_ hk => ⟨(.inr (Nat.le_trans (below_size (by repeat (first | (with_reducible first | exact HB.out | apply below_alloc | apply pw_below_drewN | apply below_drew1 | refine below_set ?_ GE331.out) | exact HB.out))) hk)), Kd.fresh' (Kd.N_lt (by (with_reducible repeat (first | apply Kd.N_alloc | apply Kd.N_drewN | apply Kd.N_drew)); exact HO334.out)) k_ hk, Kd.freshB (g := gb331) (o := .cells #[.string ((rd_T87 x0_1 t329).f1.f0), .int .i64 a1, .int .u8 ((rd_T87 x0_1 t329).f1.f2), .bool ((rd_T87 x0_1 t329).f1.f3), .slice A330_5 ((rd_T87 x0_1 t329).f1.f4).length c330_5, .string ((rd_T87 x0_1 t329).f1.f5), .string ((rd_T87 x0_1 t329).f1.f6)] 83 (0, 0)) (by (with_reducible repeat (first | refine blk_drewN ?_ _ | refine blk_drew ?_ | refine blk_alloc ?_ _)); exact BK331.out) k_ hk⟩))
                          (case aO => exact (by (with_reducible repeat (first | apply Kd.N_alloc | apply Kd.N_drewN | apply Kd.N_drew)); exact HO345.out))
                          (case aS => exact (below_size (by repeat (first | (with_reducible first | exact HB.out | apply below_alloc | apply pw_below_drewN | apply below_drew1 | refine below_set ?_ GE331.out) | exact HB.out))))
                          (case aL => have := LMc19.out; omega)
                          intro v352 w35 ho hb hg hat
                          rw [← Ny351.out] at ho
                          have n0_ := Aside0.mk (Kd.V_afterv (ok := (fun k_ => (P0_ k_ ∨ w.heap.size ≤ k_) ∧ some k_ ≠ (v333 : Value).ownBlock ∧ k_ ≠ gb331)) (by (with_reducible repeat (first | apply Kd.V_alloc | apply Kd.V_drewN | apply Kd.V_drew)); exact HO_0.out) hg hat)
                          have n1_ := Aside0.mk (Kd.V_afterv (ok := (fun k_ => (P0_ k_ ∨ w.heap.size ≤ k_) ∧ some k_ ≠ (v333 : Value).ownBlock ∧ k_ ≠ gb331)) (by (with_reducible repeat (first | apply Kd.V_alloc | apply Kd.V_drewN | apply Kd.V_drew)); exact HL330_5.out) hg hat)
                          have n2_ := Aside0.mk (blk_grown (g := gb331) (o := .cells #[.string ((rd_T87 x0_1 t329).f1.f0), .int .i64 a1, .int .u8 ((rd_T87 x0_1 t329).f1.f2), .bool ((rd_T87 x0_1 t329).f1.f3), .slice A330_5 ((rd_T87 x0_1 t329).f1.f4).length c330_5, .string ((rd_T87 x0_1 t329).f1.f5), .string ((rd_T87 x0_1 t329).f1.f6)] 83 (0, 0)) (by (with_reducible repeat (first | refine blk_drewN ?_ _ | refine blk_drew ?_ | refine blk_alloc ?_ _)); exact BK331.out) hg (Kd.N_ne HO345.out BK331.out (by decide)))
                          have n3_ := Aside0.mk (Kd.N_afterv (ok := (fun k_ => (P0_ k_ ∨ w.heap.size ≤ k_) ∧ k_ ≠ gb331)) (by (with_reducible repeat (first | apply Kd.N_alloc | apply Kd.N_drewN | apply Kd.N_drew)); exact HO334.out) hg hat)
                          have n4_ := Aside0.mk (Kd.V_afterv (ok := (fun k_ => (P0_ k_ ∨ w.heap.size ≤ k_) ∧ some k_ ≠ (v333 : Value).ownBlock ∧ k_ ≠ gb331)) (by (with_reducible repeat (first | apply Kd.V_alloc | apply Kd.V_drewN | apply Kd.V_drew)); exact HO342.out) hg hat)
                          have n5_ := Aside0.mk (Kd.V_afterv (ok := (fun k_ => (P0_ k_ ∨ w.heap.size ≤ k_) ∧ some k_ ≠ (v333 : Value).ownBlock ∧ k_ ≠ gb331)) (by (with_reducible repeat (first | apply Kd.V_alloc | apply Kd.V_drewN | apply Kd.V_drew)); exact HO350.out) hg hat)
                          have n6_ := Aside0.mk (hb)
                          have n7_ := Aside0.mk (ho)
                          clear HO_0
                          clear HL330_5
                          clear BK331
                          clear HO334
                          clear HO342
                          clear HO350
                          clear HB
                          clear HO345
                          have HO_0 := n0_
                          have HL330_5 := n1_
                          have BK331 := n2_
                          have HO334 := n3_
                          have HO342 := n4_
                          have HO350 := n5_
                          have HB := n6_
                          have HO353 := n7_
                          clear n0_ n1_ n2_ n3_ n4_ n5_ n6_ n7_
                          clear ho hb hg hat
                          refine hK.out _ _ trivial (fun hHeld => ?_)
                          clear hK K
                          refine norm_ (a' := ?_) ?_ ?_
                          rotate_left
                          · show Act.put _ (some 44) _ = _
                            simp only [Act.put, List.setIfInBounds_toArray, List.set_cons_zero, List.set_cons_succ, i64_w, i32_w]
                            rfl
                          refine pure_ (i := 10) (N := some 0) (v := ?_) (a' := ?_) #[true, true, true, true, true, true, true, true, true, true, true] rfl rfl (any_of HT_.out (by kernel_rfl)) (fun _ _ _ h => h) (Or.inl ⟨by rfl, ?_⟩) ?_ ?_
                          rotate_left
                          · intro w'
                            go_simp
                            with_reducible rfl
                          rotate_left
                          · simp only [Act.put, List.setIfInBounds_toArray, List.set_cons_zero, List.set_cons_succ, i64_w, i32_w]
                            rfl
                          refine done_ (done_of HT_.out (by kernel_rfl)) ?_
                          try go_wp2
                          go_roundg k1
                          case measure => have := HK1.out; omega
                          case rel => exact ⟨(y351), (y332), (wrap64 (x8_1 + 1)), (by first | rfl | (simp; done) | (simp [*]; done)), H', ⟨by have := HK1.out; omega⟩, ⟨Kd.N_V (by (with_reducible repeat (first | apply Kd.N_alloc | apply Kd.N_drewN | apply Kd.N_drew)); exact Kd.N_mono HO353.out (fun _ hk => ⟨hk.1, hk.2.1⟩))⟩, ⟨by (with_reducible repeat (first | apply Kd.N_alloc | apply Kd.N_drewN | apply Kd.N_drew)); exact Kd.N_mono HO334.out (fun _ hk => hk.1.1)⟩, ⟨by repeat (first | (with_reducible first | exact HB.out | apply below_alloc | apply pw_below_drewN | apply below_drew1 | refine below_set ?_ GE331.out) | exact HB.out)⟩⟩
                        · rw [if_neg c19] at H
                          exact absurd H (by simp)
                      · rw [if_neg c18] at H
                        exact absurd H (by simp)
                    · rw [if_neg c17] at H
                      exact absurd H (by simp)
                  · rw [if_neg c15] at H
                    exact absurd H (by simp)
                · rw [if_neg c14] at H
                  exact absurd H (by simp)
              · rw [if_neg c12] at H
                exact absurd H (by simp)
            · rw [if_neg c11] at H
              exact absurd H (by simp)
          · rw [if_neg c10] at H
            exact absurd H (by simp)
      · rw [if_neg c5] at H
        have c5b0 : decide (x8_1 < (l0.length : Int)) = false := decide_eq_false c5
        clear c5
        simp only [Option.some.injEq, Prod.mk.injEq] at H
        obtain ⟨rfl, rfl⟩ := H
        go_wp2
        go_ret2
        exact ⟨_, _, by first | rfl | (simp [errW_none, errW_some] <;> rfl) | (simp [*, errW_none, errW_some] <;> rfl), by (with_reducible repeat (first | apply Kd.V_alloc | apply Kd.V_drewN | apply Kd.V_drew)); exact HO_0.out, by (with_reducible repeat (first | apply Kd.N_alloc | apply Kd.N_drewN | apply Kd.N_drew)); exact HO_6.out, by repeat (first | (with_reducible first | exact HB.out | apply below_alloc | apply pw_below_drewN | apply below_drew1) | exact HB.out)⟩
def switchboardref06_same.l0 : Nat → List (S100) → List (S100) → Int → Int → Option (Bool)
  | 0, _, _, _, _ => none
  | k + 1, x0, x1, x12, x13 => if x13 < x12 then (if 0 ≤ x13 then (if x13 < (x0.length : Int) then (if x13 < (x1.length : Int) then (if (!(((rd_T100 x0 x13).f0) == ((rd_T100 x1 x13).f0)) || (!(((rd_T100 x0 x13).f1) == ((rd_T100 x1 x13).f1)) || (!((((rd_T100 x0 x13).f2).toList) == (((rd_T100 x1 x13).f2).toList)) || (!((((rd_T100 x0 x13).f3).toList) == (((rd_T100 x1 x13).f3).toList)))))) = true then (some false) else (switchboardref06_same.l0 k x0 x1 x12 (wrap64 (x13 + 1)))) else (none)) else (none)) else (none)) else (some true)
def switchboardref06_same.f (k : Nat) (l0 : List (S100)) (l1 : List (S100)) : Option (Bool) := if (l0.length : Int) = (l1.length : Int) then (switchboardref06_same.l0 k l0 l1 (l0.length : Int) 0) else (some false)
theorem switchboardref06_same.mono_l : ∀ k, (∀ y0 y1 y2 y3, LeO (switchboardref06_same.l0 k y0 y1 y2 y3) (switchboardref06_same.l0 (k + 1) y0 y1 y2 y3))
  | 0 => fun _ _ _ _ r h => by simp [switchboardref06_same.l0] at h
  | k + 1 => by
    have ih0 := switchboardref06_same.mono_l k
    · intro y0 y1 y2 y3
      unfold switchboardref06_same.l0
      repeat' first
      | (with_reducible exact ih0 _ _ _ _)
      | (with_reducible exact LeO.refl _)
      | (with_reducible exact LeO.none _)
      | (with_reducible refine LeO.ite ?_ ?_)
      | (with_reducible refine LeO.bind ?_ (fun _ => ?_))
      | exact ih0 _ _ _ _
      | exact LeO.none _
      | refine LeO.ite ?_ ?_
      | refine LeO.bind ?_ (fun _ => ?_)
theorem switchboardref06_same.mono : ∀ a0 a1 k, LeO (switchboardref06_same.f k a0 a1) (switchboardref06_same.f (k + 1) a0 a1) := by
  intro a0 a1 k
  have ih0 := switchboardref06_same.mono_l k
  unfold switchboardref06_same.f
  repeat' first
      | (with_reducible exact ih0 _ _ _ _)
      | (with_reducible exact LeO.refl _)
      | (with_reducible exact LeO.none _)
      | (with_reducible refine LeO.ite ?_ ?_)
      | (with_reducible refine LeO.bind ?_ (fun _ => ?_))
      | exact ih0 _ _ _ _
      | exact LeO.none _
      | refine LeO.ite ?_ ?_
      | refine LeO.bind ?_ (fun _ => ?_)
set_option maxHeartbeats 8000000 in
set_option maxRecDepth 100000 in
theorem switchboardref06_same.calls (k : Nat) (A0 : Option Addr) (c0 : Nat) (l0 : List (S100)) (A1 : Option Addr) (c1 : Nat) (l1 : List (S100)) (r : Bool) (w : World) (hr0 : Kd.C k100 w A0 l0.length l0) (hc0 : l0.length ≤ c0) (hr1 : Kd.C k100 w A1 l1.length l1) (hc1 : l1.length ≤ c1) (h : switchboardref06_same.f k l0 l1 = some r) :
    Calls Try.prog 46 #[.slice A0 l0.length c0, .slice A1 l1.length c1] w fun e w' => e = .returned (.bool r) ∧ Drawn0 w w' := by
  have hu100 := Try.underlying100
  have HR0 := Aside0.mk hr0
  have HC0 := Aside0.mk hc0
  clear hr0 hc0
  have HR1 := Aside0.mk hr1
  have HC1 := Aside0.mk hc1
  clear hr1 hc1
  have H : (if (l0.length : Int) = (l1.length : Int) then (switchboardref06_same.l0 k l0 l1 (l0.length : Int) 0) else (some false)) = some r := h
  clear h
  by_cases c3 : (l0.length : Int) = (l1.length : Int)
  · rw [if_pos c3] at H
    have c3b0 : ((l0.length : Int) == (l1.length : Int)) = true := beq_iff_eq.mpr c3
    have c3b1 : ((l0.length : Int) != (l1.length : Int)) = false := bne_eq_false_iff_eq.mpr c3
    have c3b2 : (l0.length == l1.length) = true := by first | simpa using c3 | (simp at c3 ⊢; omega)
    clear c3
    have H' := Aside0.mk H
    clear H
    go_enter Try.func46, Try.ntmps46
    go_wp2
    repeat (go_quiet (fail); try go_wp2)
    go_loopg [13] k (fun kq v13 w' => ∃ (x13_1 : Int), v13 = .int .i64 x13_1 ∧ Aside0 (switchboardref06_same.l0 kq l0 l1 (l0.length : Int) x13_1 = some r) ∧ Aside0 (kq ≤ k) ∧ Drawn0 w w')
    case atStart => exact ⟨(0), (by first | rfl | (simp; done) | (simp [*]; done)), H', ⟨Nat.le_refl _⟩, by repeat (first | exact Drawn0.refl _ | apply Drawn0.step)⟩
    case round =>
      clear H'
      try clear c1
      try clear p2
      try clear c3
      try clear c3b0
      try clear c3b1
      try clear c3b2
      obtain ⟨x13_1, rfl, HA, HK1, ⟨m1, rfl⟩⟩ := hrel
      cases gk with
      | zero => exact absurd HA.out (by simp [switchboardref06_same.l0])
      | succ k1 =>
        have H := HA.out
        clear HA
        simp only [switchboardref06_same.l0] at H
        by_cases c4 : x13_1 < (l0.length : Int)
        · rw [if_pos c4] at H
          have c4b0 : decide (x13_1 < (l0.length : Int)) = true := decide_eq_true c4
          clear c4
          by_cases c5 : 0 ≤ x13_1
          · rw [if_pos c5] at H
            have c5b0 : decide (0 ≤ x13_1) = true := decide_eq_true c5
            clear c5
            by_cases c6 : x13_1 < (l0.length : Int)
            · rw [if_pos c6] at H
              have c6b0 : decide (x13_1 < (l0.length : Int)) = true := decide_eq_true c6
              clear c6
              by_cases c7 : x13_1 < (l1.length : Int)
              · rw [if_pos c7] at H
                have c7b0 : decide (x13_1 < (l1.length : Int)) = true := decide_eq_true c7
                clear c7
                by_cases c8 : (!(((rd_T100 l0 x13_1).f0) == ((rd_T100 l1 x13_1).f0)) || (!(((rd_T100 l0 x13_1).f1) == ((rd_T100 l1 x13_1).f1)) || (!((((rd_T100 l0 x13_1).f2).toList) == (((rd_T100 l1 x13_1).f2).toList)) || (!((((rd_T100 l0 x13_1).f3).toList) == (((rd_T100 l1 x13_1).f3).toList)))))) = true
                · rw [if_pos c8] at H
                  have c8b0 : (!(((rd_T100 l0 x13_1).f0) == ((rd_T100 l1 x13_1).f0)) || (!(((rd_T100 l0 x13_1).f1) == ((rd_T100 l1 x13_1).f1)) || (!((((rd_T100 l0 x13_1).f2).toList) == (((rd_T100 l1 x13_1).f2).toList)) || (!((((rd_T100 l0 x13_1).f3).toList) == (((rd_T100 l1 x13_1).f3).toList)))))) = true := c8
                  clear c8
                  obtain rfl := Option.some.inj H
                  have p354 : 0 ≤ (x13_1 : Int) := of_decide_eq_true (by first | (with_reducible assumption) | assumption)
                  have q354 : x13_1 < (l0.length : Int) := of_decide_eq_true (by first | (with_reducible assumption) | assumption)
                  obtain ⟨ad354, e354, hx354_0, hx354_1, hx354_2, hx354_3⟩ := at_T100 HR0.out x13_1 p354 q354
                  cases e354
                  replace p354 := eq_true p354
                  replace q354 := eq_true q354
                  have p355 : 0 ≤ (x13_1 : Int) := of_decide_eq_true (by first | (with_reducible assumption) | assumption)
                  have q355 : x13_1 < (l1.length : Int) := of_decide_eq_true (by first | (with_reducible assumption) | assumption)
                  obtain ⟨ad355, e355, hx355_0, hx355_1, hx355_2, hx355_3⟩ := at_T100 HR1.out x13_1 p355 q355
                  cases e355
                  replace p355 := eq_true p355
                  replace q355 := eq_true q355
                  go_wp2
                  repeat (go_quiet (fail); try go_wp2)
                  go_ret
                  exact ⟨by first | rfl | (simp; done) | (simp [*]; done), by repeat (first | exact Drawn0.refl _ | apply Drawn0.step)⟩
                · rw [if_neg c8] at H
                  have c8b0 : (!(((rd_T100 l0 x13_1).f0) == ((rd_T100 l1 x13_1).f0)) || (!(((rd_T100 l0 x13_1).f1) == ((rd_T100 l1 x13_1).f1)) || (!((((rd_T100 l0 x13_1).f2).toList) == (((rd_T100 l1 x13_1).f2).toList)) || (!((((rd_T100 l0 x13_1).f3).toList) == (((rd_T100 l1 x13_1).f3).toList)))))) = false := by simpa using c8
                  clear c8
                  have H' := Aside0.mk H
                  clear H
                  have p354 : 0 ≤ (x13_1 : Int) := of_decide_eq_true (by first | (with_reducible assumption) | assumption)
                  have q354 : x13_1 < (l0.length : Int) := of_decide_eq_true (by first | (with_reducible assumption) | assumption)
                  obtain ⟨ad354, e354, hx354_0, hx354_1, hx354_2, hx354_3⟩ := at_T100 HR0.out x13_1 p354 q354
                  cases e354
                  replace p354 := eq_true p354
                  replace q354 := eq_true q354
                  have p355 : 0 ≤ (x13_1 : Int) := of_decide_eq_true (by first | (with_reducible assumption) | assumption)
                  have q355 : x13_1 < (l1.length : Int) := of_decide_eq_true (by first | (with_reducible assumption) | assumption)
                  obtain ⟨ad355, e355, hx355_0, hx355_1, hx355_2, hx355_3⟩ := at_T100 HR1.out x13_1 p355 q355
                  cases e355
                  replace p355 := eq_true p355
                  replace q355 := eq_true q355
                  go_wp2
                  repeat (go_quiet (fail); try go_wp2)
                  go_roundg k1
                  case measure => have := HK1.out; omega
                  case rel => exact ⟨(wrap64 (x13_1 + 1)), (by first | rfl | (simp; done) | (simp [*]; done)), H', ⟨by have := HK1.out; omega⟩, by repeat (first | exact Drawn0.refl _ | apply Drawn0.step)⟩
              · rw [if_neg c7] at H
                exact absurd H (by simp)
            · rw [if_neg c6] at H
              exact absurd H (by simp)
          · rw [if_neg c5] at H
            exact absurd H (by simp)
        · rw [if_neg c4] at H
          have c4b0 : decide (x13_1 < (l0.length : Int)) = false := decide_eq_false c4
          clear c4
          obtain rfl := Option.some.inj H
          go_wp2
          repeat (go_quiet (fail); try go_wp2)
          go_ret
          exact ⟨by first | rfl | (simp; done) | (simp [*]; done), by repeat (first | exact Drawn0.refl _ | apply Drawn0.step)⟩
  · rw [if_neg c3] at H
    have c3b0 : ((l0.length : Int) == (l1.length : Int)) = false := beq_eq_false_iff_ne.mpr c3
    have c3b1 : ((l0.length : Int) != (l1.length : Int)) = true := bne_iff_ne.mpr c3
    have c3b2 : (l0.length == l1.length) = false := by first | simpa using c3 | (simp at c3 ⊢; omega)
    obtain rfl := Option.some.inj H
    go_enter Try.func46, Try.ntmps46
    go_wp2
    repeat (go_quiet (fail); try go_wp2)
    go_ret
    exact ⟨by first | rfl | (simp; done) | (simp [*]; done), by repeat (first | exact Drawn0.refl _ | apply Drawn0.step)⟩
def switchboardref06_Props.f (k : Nat) (l0 : List (S100)) (l1 : List (S100)) : Option (Bool) := (switchboardref06_same.f k l0 l1).bind fun t356 => (some t356)
theorem switchboardref06_Props.mono : ∀ a0 a1 k, LeO (switchboardref06_Props.f k a0 a1) (switchboardref06_Props.f (k + 1) a0 a1) := by
  intro a0 a1 k
  unfold switchboardref06_Props.f
  repeat' first
      | (with_reducible exact switchboardref06_same.mono _ _ _)
      | (with_reducible exact LeO.refl _)
      | (with_reducible exact LeO.none _)
      | (with_reducible refine LeO.ite ?_ ?_)
      | (with_reducible refine LeO.bind ?_ (fun _ => ?_))
      | exact switchboardref06_same.mono _ _ _
      | exact LeO.none _
      | refine LeO.ite ?_ ?_
      | refine LeO.bind ?_ (fun _ => ?_)
set_option maxHeartbeats 8000000 in
set_option maxRecDepth 100000 in
theorem switchboardref06_Props.calls (k : Nat) (A0 : Option Addr) (c0 : Nat) (l0 : List (S100)) (A1 : Option Addr) (c1 : Nat) (l1 : List (S100)) (r : Bool) (w : World) (hr0 : Kd.C k100 w A0 l0.length l0) (hc0 : l0.length ≤ c0) (hr1 : Kd.C k100 w A1 l1.length l1) (hc1 : l1.length ≤ c1) (h : switchboardref06_Props.f k l0 l1 = some r) :
    Calls Try.prog 40 #[.slice A0 l0.length c0, .slice A1 l1.length c1] w fun e w' => e = .returned (.bool r) ∧ Drawn0 w w' := by
  have HR0 := Aside0.mk hr0
  have HC0 := Aside0.mk hc0
  clear hr0 hc0
  have HR1 := Aside0.mk hr1
  have HC1 := Aside0.mk hc1
  clear hr1 hc1
  have H : ((switchboardref06_same.f k l0 l1).bind fun t356 => (some t356)) = some r := h
  clear h
  replace H := Option.bind_eq_some_iff.mp H
  obtain ⟨t356, A30, H⟩ := H
  replace H : (some t356) = some r := H
  have A3 := Aside0.mk A30
  clear A30
  obtain rfl := Option.some.inj H
  go_enter Try.func40, Try.ntmps40
  go_wp2_with (first | ((with_reducible refine gate_callee (f := 46) rfl ?_); refine goesL_ (some 7) rfl rfl Try.func46 (by kernel_rfl) rfl #[.slice A0 l0.length c0, .slice A1 l1.length c1] rfl (by (try simp only [List.map_toArray, List.map_cons, List.map_nil]); first | done | rfl | (simp only [List.length_drop, List.length_take]; rfl)) ?_; (with_reducible refine (switchboardref06_same.calls k _ _ l0 _ _ l1 t356 _ ?side1 ?side2 ?side3 ?side4 A3.out).mono ?_); (case side1 => repeat (first | exact HR0.out | (with_reducible refine Kd.C_alloc ?_ _) | (with_reducible refine Kd.C_drewN ?_ _) | (with_reducible refine Kd.C_drew ?_))); (case side2 => exact HC0.out); (case side3 => repeat (first | exact HR1.out | (with_reducible refine Kd.C_alloc ?_ _) | (with_reducible refine Kd.C_drewN ?_ _) | (with_reducible refine Kd.C_drew ?_))); (case side4 => exact HC1.out); rintro e w' ⟨rfl, ⟨nd, rfl⟩⟩; refine ⟨_, rfl, ?_⟩))
  go_ret
  exact ⟨by first | rfl | (simp; done) | (simp [*]; done), by repeat (first | exact Drawn0.refl _ | apply Drawn0.step)⟩
def switchboardlaw12_Same.f (k : Nat) (a0_0 : ByteArray) (a0_1 : Int) (a0_2 : Int) (a0_3 : Bool) (l0_4 : List (S100)) (a0_5 : ByteArray) (a0_6 : ByteArray) (a1_0 : ByteArray) (a1_1 : Int) (a1_2 : Int) (a1_3 : Bool) (l1_4 : List (S100)) (a1_5 : ByteArray) (a1_6 : ByteArray) : Option (Int) := if a0_0.toList = a1_0.toList then (if a0_1 = a1_1 then (if a0_2 = a1_2 then (if (a0_3 == a1_3) = true then ((switchboardref06_Props.f k l0_4 l1_4).bind fun t359 => (if t359 = true then (if a0_5.toList = a1_5.toList then (if a0_6.toList = a1_6.toList then (some 0) else (some (-1))) else (some (-1))) else (some (-1)))) else (some (-1))) else (some (-1))) else (some (-1))) else (some (-1))
theorem switchboardlaw12_Same.mono : ∀ a0 a1 a2 a3 a4 a5 a6 a7 a8 a9 a10 a11 a12 a13 k, LeO (switchboardlaw12_Same.f k a0 a1 a2 a3 a4 a5 a6 a7 a8 a9 a10 a11 a12 a13) (switchboardlaw12_Same.f (k + 1) a0 a1 a2 a3 a4 a5 a6 a7 a8 a9 a10 a11 a12 a13) := by
  intro a0 a1 a2 a3 a4 a5 a6 a7 a8 a9 a10 a11 a12 a13 k
  unfold switchboardlaw12_Same.f
  repeat' first
      | (with_reducible exact switchboardref06_Props.mono _ _ _)
      | (with_reducible exact LeO.refl _)
      | (with_reducible exact LeO.none _)
      | (with_reducible refine LeO.ite ?_ ?_)
      | (with_reducible refine LeO.bind ?_ (fun _ => ?_))
      | exact switchboardref06_Props.mono _ _ _
      | exact LeO.none _
      | refine LeO.ite ?_ ?_
      | refine LeO.bind ?_ (fun _ => ?_)
set_option maxHeartbeats 8000000 in
set_option maxRecDepth 100000 in
theorem switchboardlaw12_Same.calls (k : Nat) (a0_0 : ByteArray) (a0_1 : Int) (a0_2 : Int) (a0_3 : Bool) (A0_4 : Option Addr) (c0_4 : Nat) (l0_4 : List (S100)) (a0_5 : ByteArray) (a0_6 : ByteArray) (a1_0 : ByteArray) (a1_1 : Int) (a1_2 : Int) (a1_3 : Bool) (A1_4 : Option Addr) (c1_4 : Nat) (l1_4 : List (S100)) (a1_5 : ByteArray) (a1_6 : ByteArray) (r : Int) (w : World) (hr0_4 : Kd.C k100 w A0_4 l0_4.length l0_4) (hc0_4 : l0_4.length ≤ c0_4) (hr1_4 : Kd.C k100 w A1_4 l1_4.length l1_4) (hc1_4 : l1_4.length ≤ c1_4) (h : switchboardlaw12_Same.f k a0_0 a0_1 a0_2 a0_3 l0_4 a0_5 a0_6 a1_0 a1_1 a1_2 a1_3 l1_4 a1_5 a1_6 = some r) :
    Calls Try.prog 35 #[.agg #[.string a0_0, .int .i64 a0_1, .int .u8 a0_2, .bool a0_3, .slice A0_4 l0_4.length c0_4, .string a0_5, .string a0_6], .agg #[.string a1_0, .int .i64 a1_1, .int .u8 a1_2, .bool a1_3, .slice A1_4 l1_4.length c1_4, .string a1_5, .string a1_6]] w fun e w' => e = .returned (.int .i64 r) ∧ Below w.heap.size w w' := by
  have hu83 := Try.underlying83
  have HR0_4 := Aside0.mk hr0_4
  have HC0_4 := Aside0.mk hc0_4
  clear hr0_4 hc0_4
  have HR1_4 := Aside0.mk hr1_4
  have HC1_4 := Aside0.mk hc1_4
  clear hr1_4 hc1_4
  have HB := Aside0.mk (Below.refl w.heap.size w)
  have H : (if a0_0.toList = a1_0.toList then (if a0_1 = a1_1 then (if a0_2 = a1_2 then (if (a0_3 == a1_3) = true then ((switchboardref06_Props.f k l0_4 l1_4).bind fun t359 => (if t359 = true then (if a0_5.toList = a1_5.toList then (if a0_6.toList = a1_6.toList then (some 0) else (some (-1))) else (some (-1))) else (some (-1)))) else (some (-1))) else (some (-1))) else (some (-1))) else (some (-1))) = some r := h
  clear h
  by_cases c3 : a0_0.toList = a1_0.toList
  · rw [if_pos c3] at H
    have c3b0 : (a0_0.toList == a1_0.toList) = true := beq_iff_eq.mpr c3
    have c3b1 : (a0_0.toList != a1_0.toList) = false := bne_eq_false_iff_eq.mpr c3
    clear c3
    by_cases c4 : a0_1 = a1_1
    · rw [if_pos c4] at H
      have c4b0 : (a0_1 == a1_1) = true := beq_iff_eq.mpr c4
      have c4b1 : (a0_1 != a1_1) = false := bne_eq_false_iff_eq.mpr c4
      clear c4
      by_cases c5 : a0_2 = a1_2
      · rw [if_pos c5] at H
        have c5b0 : (a0_2 == a1_2) = true := beq_iff_eq.mpr c5
        have c5b1 : (a0_2 != a1_2) = false := bne_eq_false_iff_eq.mpr c5
        clear c5
        by_cases c6 : (a0_3 == a1_3) = true
        · rw [if_pos c6] at H
          have c6b0 : (a0_3 == a1_3) = true := c6
          (try (have c6b1 : decide (a0_3 = a1_3) = true := by simpa using c6))
          (try (have c6b2 : (a0_3 == a1_3) = true := by simpa using c6))
          clear c6
          replace H := Option.bind_eq_some_iff.mp H
          obtain ⟨t359, A70, H⟩ := H
          replace H : (if t359 = true then (if a0_5.toList = a1_5.toList then (if a0_6.toList = a1_6.toList then (some 0) else (some (-1))) else (some (-1))) else (some (-1))) = some r := H
          have A7 := Aside0.mk A70
          clear A70
          by_cases c8 : t359 = true
          · subst c8
            have H1 : (if a0_5.toList = a1_5.toList then (if a0_6.toList = a1_6.toList then (some 0) else (some (-1))) else (some (-1))) = some r := by rw [if_pos rfl] at H; exact H
            clear H
            have H := H1
            clear H1
            by_cases c9 : a0_5.toList = a1_5.toList
            · rw [if_pos c9] at H
              have c9b0 : (a0_5.toList == a1_5.toList) = true := beq_iff_eq.mpr c9
              have c9b1 : (a0_5.toList != a1_5.toList) = false := bne_eq_false_iff_eq.mpr c9
              clear c9
              by_cases c10 : a0_6.toList = a1_6.toList
              · rw [if_pos c10] at H
                have c10b0 : (a0_6.toList == a1_6.toList) = true := beq_iff_eq.mpr c10
                have c10b1 : (a0_6.toList != a1_6.toList) = false := bne_eq_false_iff_eq.mpr c10
                clear c10
                obtain rfl := Option.some.inj H
                go_enter Try.func35, Try.ntmps35
                go_wp2_with (first | ((with_reducible refine gate_dst (N := 2) rfl ?_); refine box_event ?hg (N := 2) ?hd (cs := #[.string a0_0, .int .i64 a0_1, .int .u8 a0_2, .bool a0_3, .slice A0_4 l0_4.length c0_4, .string a0_5, .string a0_6]) (t := 83) ?hr ?_; (case hd => rfl); (case hg => rfl); (case hr => first | (go_simp; done) | (go_simp; rfl)); intro gb357 hg w11 hbox hb; have n0_ := Aside0.mk (below_step (by repeat (first | (with_reducible first | exact HB.out | apply below_alloc | apply pw_below_drewN | apply below_drew1) | exact HB.out)) hb); have n1_ := Aside0.mk (hbox); have n2_ := Aside0.mk ((by rw [hg]; exact (below_size (by repeat (first | (with_reducible first | exact HB.out | apply below_alloc | apply pw_below_drewN | apply below_drew1) | exact HB.out))) : w.heap.size ≤ gb357)); have n3_ := Aside0.mk ((by rw [hg]; exact (below_size (by repeat (first | (with_reducible first | exact HB.out | apply below_alloc | apply pw_below_drewN | apply below_drew1) | exact HB.out))) : w.heap.size ≤ gb357)); clear HB; have HB := n0_; have BK357 := n1_; have GW357 := n2_; have GE357 := n3_; clear n0_ n1_ n2_ n3_; clear hb hbox hg) | ((with_reducible refine gate_dst (N := 3) rfl ?_); refine box_event ?hg (N := 3) ?hd (cs := #[.string a1_0, .int .i64 a1_1, .int .u8 a1_2, .bool a1_3, .slice A1_4 l1_4.length c1_4, .string a1_5, .string a1_6]) (t := 83) ?hr ?_; (case hd => rfl); (case hg => rfl); (case hr => first | (go_simp; done) | (go_simp; rfl)); intro gb358 hg w12 hbox hb; have n0_ := Aside0.mk (blk_below (g := gb357) (o := .cells #[.string a0_0, .int .i64 a0_1, .int .u8 a0_2, .bool a0_3, .slice A0_4 l0_4.length c0_4, .string a0_5, .string a0_6] 83 (0, 0)) (by (with_reducible repeat (first | refine blk_drewN ?_ _ | refine blk_drew ?_ | refine blk_alloc ?_ _)); exact BK357.out) hb); have n1_ := Aside0.mk (below_step (by repeat (first | (with_reducible first | exact HB.out | apply below_alloc | apply pw_below_drewN | apply below_drew1 | refine below_set ?_ GE357.out) | exact HB.out)) hb); have n2_ := Aside0.mk (hbox); have n3_ := Aside0.mk ((by rw [hg]; exact (below_size (by repeat (first | (with_reducible first | exact HB.out | apply below_alloc | apply pw_below_drewN | apply below_drew1 | refine below_set ?_ GE357.out) | exact HB.out))) : w.heap.size ≤ gb358)); have n4_ := Aside0.mk ((by rw [hg]; exact (below_size (by repeat (first | (with_reducible first | exact HB.out | apply below_alloc | apply pw_below_drewN | apply below_drew1 | refine below_set ?_ GE357.out) | exact HB.out))) : w.heap.size ≤ gb358)); have n5_ := Aside0.mk ((by rw [hg]; exact Nat.ne_of_lt (blk_lt (g := gb357) (o := .cells #[.string a0_0, .int .i64 a0_1, .int .u8 a0_2, .bool a0_3, .slice A0_4 l0_4.length c0_4, .string a0_5, .string a0_6] 83 (0, 0)) (by (with_reducible repeat (first | refine blk_drewN ?_ _ | refine blk_drew ?_ | refine blk_alloc ?_ _)); exact BK357.out)) : gb357 ≠ gb358)); have n6_ := Aside0.mk ((by rw [hg]; exact Nat.ne_of_gt (blk_lt (g := gb357) (o := .cells #[.string a0_0, .int .i64 a0_1, .int .u8 a0_2, .bool a0_3, .slice A0_4 l0_4.length c0_4, .string a0_5, .string a0_6] 83 (0, 0)) (by (with_reducible repeat (first | refine blk_drewN ?_ _ | refine blk_drew ?_ | refine blk_alloc ?_ _)); exact BK357.out)) : gb358 ≠ gb357)); clear BK357; clear HB; have BK357 := n0_; have HB := n1_; have BK358 := n2_; have GW358 := n3_; have GE358 := n4_; have NB357_358 := n5_; have NB358_357 := n6_; clear n0_ n1_ n2_ n3_ n4_ n5_ n6_; clear hb hbox hg; have hnb13 := NB357_358.out; have hnc13 := NB358_357.out; have hcz14_0 : w12.cell? ⟨gb357, 0, none⟩ = some (.string a0_0) := (blk_cell BK357.out 0).trans rfl; have hcz14_1 : w12.cell? ⟨gb357, 1, none⟩ = some (.int .i64 a0_1) := (blk_cell BK357.out 1).trans rfl; have hcz14_2 : w12.cell? ⟨gb357, 2, none⟩ = some (.int .u8 a0_2) := (blk_cell BK357.out 2).trans rfl; have hcz14_3 : w12.cell? ⟨gb357, 3, none⟩ = some (.bool a0_3) := (blk_cell BK357.out 3).trans rfl; have hcz14_4 : w12.cell? ⟨gb357, 4, none⟩ = some (.slice A0_4 l0_4.length c0_4) := (blk_cell BK357.out 4).trans rfl; have hcz14_5 : w12.cell? ⟨gb357, 5, none⟩ = some (.string a0_5) := (blk_cell BK357.out 5).trans rfl; have hcz14_6 : w12.cell? ⟨gb357, 6, none⟩ = some (.string a0_6) := (blk_cell BK357.out 6).trans rfl; have hfz14_0 := blk_frozen BK357.out 0; have hfz14_1 := blk_frozen BK357.out 1; have hfz14_2 := blk_frozen BK357.out 2; have hfz14_3 := blk_frozen BK357.out 3; have hfz14_4 := blk_frozen BK357.out 4; have hfz14_5 := blk_frozen BK357.out 5; have hfz14_6 := blk_frozen BK357.out 6; have hcz15_0 : w12.cell? ⟨gb358, 0, none⟩ = some (.string a1_0) := (blk_cell BK358.out 0).trans rfl; have hcz15_1 : w12.cell? ⟨gb358, 1, none⟩ = some (.int .i64 a1_1) := (blk_cell BK358.out 1).trans rfl; have hcz15_2 : w12.cell? ⟨gb358, 2, none⟩ = some (.int .u8 a1_2) := (blk_cell BK358.out 2).trans rfl; have hcz15_3 : w12.cell? ⟨gb358, 3, none⟩ = some (.bool a1_3) := (blk_cell BK358.out 3).trans rfl; have hcz15_4 : w12.cell? ⟨gb358, 4, none⟩ = some (.slice A1_4 l1_4.length c1_4) := (blk_cell BK358.out 4).trans rfl; have hcz15_5 : w12.cell? ⟨gb358, 5, none⟩ = some (.string a1_5) := (blk_cell BK358.out 5).trans rfl; have hcz15_6 : w12.cell? ⟨gb358, 6, none⟩ = some (.string a1_6) := (blk_cell BK358.out 6).trans rfl; have hfz15_0 := blk_frozen BK358.out 0; have hfz15_1 := blk_frozen BK358.out 1; have hfz15_2 := blk_frozen BK358.out 2; have hfz15_3 := blk_frozen BK358.out 3; have hfz15_4 := blk_frozen BK358.out 4; have hfz15_5 := blk_frozen BK358.out 5; have hfz15_6 := blk_frozen BK358.out 6) | (go_at_call 40; (with_reducible refine (switchboardref06_Props.calls k _ _ l0_4 _ _ l1_4 true _ ?side1 ?side2 ?side3 ?side4 A7.out).mono ?_); (case side1 => repeat (first | exact (Kd.C_below HR0_4.out HB.out) | (with_reducible refine Kd.C_alloc ?_ _) | (with_reducible refine Kd.C_drewN ?_ _) | (with_reducible refine Kd.C_drew ?_))); (case side2 => exact HC0_4.out); (case side3 => repeat (first | exact (Kd.C_below HR1_4.out HB.out) | (with_reducible refine Kd.C_alloc ?_ _) | (with_reducible refine Kd.C_drewN ?_ _) | (with_reducible refine Kd.C_drew ?_))); (case side4 => exact HC1_4.out); rintro e w' ⟨rfl, ⟨nd, rfl⟩⟩))
                go_ret
                exact ⟨by first | rfl | (simp [errW_none, errW_some] <;> rfl) | (simp [*, errW_none, errW_some] <;> rfl), by repeat (first | (with_reducible first | exact HB.out | apply below_alloc | apply pw_below_drewN | apply below_drew1 | refine below_set ?_ GE357.out | refine below_set ?_ GE358.out) | exact HB.out)⟩
              · rw [if_neg c10] at H
                have c10b0 : (a0_6.toList == a1_6.toList) = false := beq_eq_false_iff_ne.mpr c10
                have c10b1 : (a0_6.toList != a1_6.toList) = true := bne_iff_ne.mpr c10
                obtain rfl := Option.some.inj H
                go_enter Try.func35, Try.ntmps35
                go_wp2_with (first | ((with_reducible refine gate_dst (N := 2) rfl ?_); refine box_event ?hg (N := 2) ?hd (cs := #[.string a0_0, .int .i64 a0_1, .int .u8 a0_2, .bool a0_3, .slice A0_4 l0_4.length c0_4, .string a0_5, .string a0_6]) (t := 83) ?hr ?_; (case hd => rfl); (case hg => rfl); (case hr => first | (go_simp; done) | (go_simp; rfl)); intro gb357 hg w16 hbox hb; have n0_ := Aside0.mk (below_step (by repeat (first | (with_reducible first | exact HB.out | apply below_alloc | apply pw_below_drewN | apply below_drew1) | exact HB.out)) hb); have n1_ := Aside0.mk (hbox); have n2_ := Aside0.mk ((by rw [hg]; exact (below_size (by repeat (first | (with_reducible first | exact HB.out | apply below_alloc | apply pw_below_drewN | apply below_drew1) | exact HB.out))) : w.heap.size ≤ gb357)); have n3_ := Aside0.mk ((by rw [hg]; exact (below_size (by repeat (first | (with_reducible first | exact HB.out | apply below_alloc | apply pw_below_drewN | apply below_drew1) | exact HB.out))) : w.heap.size ≤ gb357)); clear HB; have HB := n0_; have BK357 := n1_; have GW357 := n2_; have GE357 := n3_; clear n0_ n1_ n2_ n3_; clear hb hbox hg) | ((with_reducible refine gate_dst (N := 3) rfl ?_); refine box_event ?hg (N := 3) ?hd (cs := #[.string a1_0, .int .i64 a1_1, .int .u8 a1_2, .bool a1_3, .slice A1_4 l1_4.length c1_4, .string a1_5, .string a1_6]) (t := 83) ?hr ?_; (case hd => rfl); (case hg => rfl); (case hr => first | (go_simp; done) | (go_simp; rfl)); intro gb358 hg w17 hbox hb; have n0_ := Aside0.mk (blk_below (g := gb357) (o := .cells #[.string a0_0, .int .i64 a0_1, .int .u8 a0_2, .bool a0_3, .slice A0_4 l0_4.length c0_4, .string a0_5, .string a0_6] 83 (0, 0)) (by (with_reducible repeat (first | refine blk_drewN ?_ _ | refine blk_drew ?_ | refine blk_alloc ?_ _)); exact BK357.out) hb); have n1_ := Aside0.mk (below_step (by repeat (first | (with_reducible first | exact HB.out | apply below_alloc | apply pw_below_drewN | apply below_drew1 | refine below_set ?_ GE357.out) | exact HB.out)) hb); have n2_ := Aside0.mk (hbox); have n3_ := Aside0.mk ((by rw [hg]; exact (below_size (by repeat (first | (with_reducible first | exact HB.out | apply below_alloc | apply pw_below_drewN | apply below_drew1 | refine below_set ?_ GE357.out) | exact HB.out))) : w.heap.size ≤ gb358)); have n4_ := Aside0.mk ((by rw [hg]; exact (below_size (by repeat (first | (with_reducible first | exact HB.out | apply below_alloc | apply pw_below_drewN | apply below_drew1 | refine below_set ?_ GE357.out) | exact HB.out))) : w.heap.size ≤ gb358)); have n5_ := Aside0.mk ((by rw [hg]; exact Nat.ne_of_lt (blk_lt (g := gb357) (o := .cells #[.string a0_0, .int .i64 a0_1, .int .u8 a0_2, .bool a0_3, .slice A0_4 l0_4.length c0_4, .string a0_5, .string a0_6] 83 (0, 0)) (by (with_reducible repeat (first | refine blk_drewN ?_ _ | refine blk_drew ?_ | refine blk_alloc ?_ _)); exact BK357.out)) : gb357 ≠ gb358)); have n6_ := Aside0.mk ((by rw [hg]; exact Nat.ne_of_gt (blk_lt (g := gb357) (o := .cells #[.string a0_0, .int .i64 a0_1, .int .u8 a0_2, .bool a0_3, .slice A0_4 l0_4.length c0_4, .string a0_5, .string a0_6] 83 (0, 0)) (by (with_reducible repeat (first | refine blk_drewN ?_ _ | refine blk_drew ?_ | refine blk_alloc ?_ _)); exact BK357.out)) : gb358 ≠ gb357)); clear BK357; clear HB; have BK357 := n0_; have HB := n1_; have BK358 := n2_; have GW358 := n3_; have GE358 := n4_; have NB357_358 := n5_; have NB358_357 := n6_; clear n0_ n1_ n2_ n3_ n4_ n5_ n6_; clear hb hbox hg; have hnb18 := NB357_358.out; have hnc18 := NB358_357.out; have hcz19_0 : w17.cell? ⟨gb357, 0, none⟩ = some (.string a0_0) := (blk_cell BK357.out 0).trans rfl; have hcz19_1 : w17.cell? ⟨gb357, 1, none⟩ = some (.int .i64 a0_1) := (blk_cell BK357.out 1).trans rfl; have hcz19_2 : w17.cell? ⟨gb357, 2, none⟩ = some (.int .u8 a0_2) := (blk_cell BK357.out 2).trans rfl; have hcz19_3 : w17.cell? ⟨gb357, 3, none⟩ = some (.bool a0_3) := (blk_cell BK357.out 3).trans rfl; have hcz19_4 : w17.cell? ⟨gb357, 4, none⟩ = some (.slice A0_4 l0_4.length c0_4) := (blk_cell BK357.out 4).trans rfl; have hcz19_5 : w17.cell? ⟨gb357, 5, none⟩ = some (.string a0_5) := (blk_cell BK357.out 5).trans rfl; have hcz19_6 : w17.cell? ⟨gb357, 6, none⟩ = some (.string a0_6) := (blk_cell BK357.out 6).trans rfl; have hfz19_0 := blk_frozen BK357.out 0; have hfz19_1 := blk_frozen BK357.out 1; have hfz19_2 := blk_frozen BK357.out 2; have hfz19_3 := blk_frozen BK357.out 3; have hfz19_4 := blk_frozen BK357.out 4; have hfz19_5 := blk_frozen BK357.out 5; have hfz19_6 := blk_frozen BK357.out 6; have hcz20_0 : w17.cell? ⟨gb358, 0, none⟩ = some (.string a1_0) := (blk_cell BK358.out 0).trans rfl; have hcz20_1 : w17.cell? ⟨gb358, 1, none⟩ = some (.int .i64 a1_1) := (blk_cell BK358.out 1).trans rfl; have hcz20_2 : w17.cell? ⟨gb358, 2, none⟩ = some (.int .u8 a1_2) := (blk_cell BK358.out 2).trans rfl; have hcz20_3 : w17.cell? ⟨gb358, 3, none⟩ = some (.bool a1_3) := (blk_cell BK358.out 3).trans rfl; have hcz20_4 : w17.cell? ⟨gb358, 4, none⟩ = some (.slice A1_4 l1_4.length c1_4) := (blk_cell BK358.out 4).trans rfl; have hcz20_5 : w17.cell? ⟨gb358, 5, none⟩ = some (.string a1_5) := (blk_cell BK358.out 5).trans rfl; have hcz20_6 : w17.cell? ⟨gb358, 6, none⟩ = some (.string a1_6) := (blk_cell BK358.out 6).trans rfl; have hfz20_0 := blk_frozen BK358.out 0; have hfz20_1 := blk_frozen BK358.out 1; have hfz20_2 := blk_frozen BK358.out 2; have hfz20_3 := blk_frozen BK358.out 3; have hfz20_4 := blk_frozen BK358.out 4; have hfz20_5 := blk_frozen BK358.out 5; have hfz20_6 := blk_frozen BK358.out 6) | (go_at_call 40; (with_reducible refine (switchboardref06_Props.calls k _ _ l0_4 _ _ l1_4 true _ ?side1 ?side2 ?side3 ?side4 A7.out).mono ?_); (case side1 => repeat (first | exact (Kd.C_below HR0_4.out HB.out) | (with_reducible refine Kd.C_alloc ?_ _) | (with_reducible refine Kd.C_drewN ?_ _) | (with_reducible refine Kd.C_drew ?_))); (case side2 => exact HC0_4.out); (case side3 => repeat (first | exact (Kd.C_below HR1_4.out HB.out) | (with_reducible refine Kd.C_alloc ?_ _) | (with_reducible refine Kd.C_drewN ?_ _) | (with_reducible refine Kd.C_drew ?_))); (case side4 => exact HC1_4.out); rintro e w' ⟨rfl, ⟨nd, rfl⟩⟩))
                go_ret
                exact ⟨by first | rfl | (simp [errW_none, errW_some] <;> rfl) | (simp [*, errW_none, errW_some] <;> rfl), by repeat (first | (with_reducible first | exact HB.out | apply below_alloc | apply pw_below_drewN | apply below_drew1 | refine below_set ?_ GE357.out | refine below_set ?_ GE358.out) | exact HB.out)⟩
            · rw [if_neg c9] at H
              have c9b0 : (a0_5.toList == a1_5.toList) = false := beq_eq_false_iff_ne.mpr c9
              have c9b1 : (a0_5.toList != a1_5.toList) = true := bne_iff_ne.mpr c9
              obtain rfl := Option.some.inj H
              go_enter Try.func35, Try.ntmps35
              go_wp2_with (first | ((with_reducible refine gate_dst (N := 2) rfl ?_); refine box_event ?hg (N := 2) ?hd (cs := #[.string a0_0, .int .i64 a0_1, .int .u8 a0_2, .bool a0_3, .slice A0_4 l0_4.length c0_4, .string a0_5, .string a0_6]) (t := 83) ?hr ?_; (case hd => rfl); (case hg => rfl); (case hr => first | (go_simp; done) | (go_simp; rfl)); intro gb357 hg w21 hbox hb; have n0_ := Aside0.mk (below_step (by repeat (first | (with_reducible first | exact HB.out | apply below_alloc | apply pw_below_drewN | apply below_drew1) | exact HB.out)) hb); have n1_ := Aside0.mk (hbox); have n2_ := Aside0.mk ((by rw [hg]; exact (below_size (by repeat (first | (with_reducible first | exact HB.out | apply below_alloc | apply pw_below_drewN | apply below_drew1) | exact HB.out))) : w.heap.size ≤ gb357)); have n3_ := Aside0.mk ((by rw [hg]; exact (below_size (by repeat (first | (with_reducible first | exact HB.out | apply below_alloc | apply pw_below_drewN | apply below_drew1) | exact HB.out))) : w.heap.size ≤ gb357)); clear HB; have HB := n0_; have BK357 := n1_; have GW357 := n2_; have GE357 := n3_; clear n0_ n1_ n2_ n3_; clear hb hbox hg) | ((with_reducible refine gate_dst (N := 3) rfl ?_); refine box_event ?hg (N := 3) ?hd (cs := #[.string a1_0, .int .i64 a1_1, .int .u8 a1_2, .bool a1_3, .slice A1_4 l1_4.length c1_4, .string a1_5, .string a1_6]) (t := 83) ?hr ?_; (case hd => rfl); (case hg => rfl); (case hr => first | (go_simp; done) | (go_simp; rfl)); intro gb358 hg w22 hbox hb; have n0_ := Aside0.mk (blk_below (g := gb357) (o := .cells #[.string a0_0, .int .i64 a0_1, .int .u8 a0_2, .bool a0_3, .slice A0_4 l0_4.length c0_4, .string a0_5, .string a0_6] 83 (0, 0)) (by (with_reducible repeat (first | refine blk_drewN ?_ _ | refine blk_drew ?_ | refine blk_alloc ?_ _)); exact BK357.out) hb); have n1_ := Aside0.mk (below_step (by repeat (first | (with_reducible first | exact HB.out | apply below_alloc | apply pw_below_drewN | apply below_drew1 | refine below_set ?_ GE357.out) | exact HB.out)) hb); have n2_ := Aside0.mk (hbox); have n3_ := Aside0.mk ((by rw [hg]; exact (below_size (by repeat (first | (with_reducible first | exact HB.out | apply below_alloc | apply pw_below_drewN | apply below_drew1 | refine below_set ?_ GE357.out) | exact HB.out))) : w.heap.size ≤ gb358)); have n4_ := Aside0.mk ((by rw [hg]; exact (below_size (by repeat (first | (with_reducible first | exact HB.out | apply below_alloc | apply pw_below_drewN | apply below_drew1 | refine below_set ?_ GE357.out) | exact HB.out))) : w.heap.size ≤ gb358)); have n5_ := Aside0.mk ((by rw [hg]; exact Nat.ne_of_lt (blk_lt (g := gb357) (o := .cells #[.string a0_0, .int .i64 a0_1, .int .u8 a0_2, .bool a0_3, .slice A0_4 l0_4.length c0_4, .string a0_5, .string a0_6] 83 (0, 0)) (by (with_reducible repeat (first | refine blk_drewN ?_ _ | refine blk_drew ?_ | refine blk_alloc ?_ _)); exact BK357.out)) : gb357 ≠ gb358)); have n6_ := Aside0.mk ((by rw [hg]; exact Nat.ne_of_gt (blk_lt (g := gb357) (o := .cells #[.string a0_0, .int .i64 a0_1, .int .u8 a0_2, .bool a0_3, .slice A0_4 l0_4.length c0_4, .string a0_5, .string a0_6] 83 (0, 0)) (by (with_reducible repeat (first | refine blk_drewN ?_ _ | refine blk_drew ?_ | refine blk_alloc ?_ _)); exact BK357.out)) : gb358 ≠ gb357)); clear BK357; clear HB; have BK357 := n0_; have HB := n1_; have BK358 := n2_; have GW358 := n3_; have GE358 := n4_; have NB357_358 := n5_; have NB358_357 := n6_; clear n0_ n1_ n2_ n3_ n4_ n5_ n6_; clear hb hbox hg; have hnb23 := NB357_358.out; have hnc23 := NB358_357.out; have hcz24_0 : w22.cell? ⟨gb357, 0, none⟩ = some (.string a0_0) := (blk_cell BK357.out 0).trans rfl; have hcz24_1 : w22.cell? ⟨gb357, 1, none⟩ = some (.int .i64 a0_1) := (blk_cell BK357.out 1).trans rfl; have hcz24_2 : w22.cell? ⟨gb357, 2, none⟩ = some (.int .u8 a0_2) := (blk_cell BK357.out 2).trans rfl; have hcz24_3 : w22.cell? ⟨gb357, 3, none⟩ = some (.bool a0_3) := (blk_cell BK357.out 3).trans rfl; have hcz24_4 : w22.cell? ⟨gb357, 4, none⟩ = some (.slice A0_4 l0_4.length c0_4) := (blk_cell BK357.out 4).trans rfl; have hcz24_5 : w22.cell? ⟨gb357, 5, none⟩ = some (.string a0_5) := (blk_cell BK357.out 5).trans rfl; have hcz24_6 : w22.cell? ⟨gb357, 6, none⟩ = some (.string a0_6) := (blk_cell BK357.out 6).trans rfl; have hfz24_0 := blk_frozen BK357.out 0; have hfz24_1 := blk_frozen BK357.out 1; have hfz24_2 := blk_frozen BK357.out 2; have hfz24_3 := blk_frozen BK357.out 3; have hfz24_4 := blk_frozen BK357.out 4; have hfz24_5 := blk_frozen BK357.out 5; have hfz24_6 := blk_frozen BK357.out 6; have hcz25_0 : w22.cell? ⟨gb358, 0, none⟩ = some (.string a1_0) := (blk_cell BK358.out 0).trans rfl; have hcz25_1 : w22.cell? ⟨gb358, 1, none⟩ = some (.int .i64 a1_1) := (blk_cell BK358.out 1).trans rfl; have hcz25_2 : w22.cell? ⟨gb358, 2, none⟩ = some (.int .u8 a1_2) := (blk_cell BK358.out 2).trans rfl; have hcz25_3 : w22.cell? ⟨gb358, 3, none⟩ = some (.bool a1_3) := (blk_cell BK358.out 3).trans rfl; have hcz25_4 : w22.cell? ⟨gb358, 4, none⟩ = some (.slice A1_4 l1_4.length c1_4) := (blk_cell BK358.out 4).trans rfl; have hcz25_5 : w22.cell? ⟨gb358, 5, none⟩ = some (.string a1_5) := (blk_cell BK358.out 5).trans rfl; have hcz25_6 : w22.cell? ⟨gb358, 6, none⟩ = some (.string a1_6) := (blk_cell BK358.out 6).trans rfl; have hfz25_0 := blk_frozen BK358.out 0; have hfz25_1 := blk_frozen BK358.out 1; have hfz25_2 := blk_frozen BK358.out 2; have hfz25_3 := blk_frozen BK358.out 3; have hfz25_4 := blk_frozen BK358.out 4; have hfz25_5 := blk_frozen BK358.out 5; have hfz25_6 := blk_frozen BK358.out 6) | (go_at_call 40; (with_reducible refine (switchboardref06_Props.calls k _ _ l0_4 _ _ l1_4 true _ ?side1 ?side2 ?side3 ?side4 A7.out).mono ?_); (case side1 => repeat (first | exact (Kd.C_below HR0_4.out HB.out) | (with_reducible refine Kd.C_alloc ?_ _) | (with_reducible refine Kd.C_drewN ?_ _) | (with_reducible refine Kd.C_drew ?_))); (case side2 => exact HC0_4.out); (case side3 => repeat (first | exact (Kd.C_below HR1_4.out HB.out) | (with_reducible refine Kd.C_alloc ?_ _) | (with_reducible refine Kd.C_drewN ?_ _) | (with_reducible refine Kd.C_drew ?_))); (case side4 => exact HC1_4.out); rintro e w' ⟨rfl, ⟨nd, rfl⟩⟩))
              go_ret
              exact ⟨by first | rfl | (simp [errW_none, errW_some] <;> rfl) | (simp [*, errW_none, errW_some] <;> rfl), by repeat (first | (with_reducible first | exact HB.out | apply below_alloc | apply pw_below_drewN | apply below_drew1 | refine below_set ?_ GE357.out | refine below_set ?_ GE358.out) | exact HB.out)⟩
          · replace c8 := Bool.eq_false_iff.mpr c8
            subst c8
            have H1 : (some (-1)) = some r := by rw [if_neg (show ¬ (false = true) by decide)] at H; exact H
            clear H
            have H := H1
            clear H1
            obtain rfl := Option.some.inj H
            go_enter Try.func35, Try.ntmps35
            go_wp2_with (first | ((with_reducible refine gate_dst (N := 2) rfl ?_); refine box_event ?hg (N := 2) ?hd (cs := #[.string a0_0, .int .i64 a0_1, .int .u8 a0_2, .bool a0_3, .slice A0_4 l0_4.length c0_4, .string a0_5, .string a0_6]) (t := 83) ?hr ?_; (case hd => rfl); (case hg => rfl); (case hr => first | (go_simp; done) | (go_simp; rfl)); intro gb357 hg w26 hbox hb; have n0_ := Aside0.mk (below_step (by repeat (first | (with_reducible first | exact HB.out | apply below_alloc | apply pw_below_drewN | apply below_drew1) | exact HB.out)) hb); have n1_ := Aside0.mk (hbox); have n2_ := Aside0.mk ((by rw [hg]; exact (below_size (by repeat (first | (with_reducible first | exact HB.out | apply below_alloc | apply pw_below_drewN | apply below_drew1) | exact HB.out))) : w.heap.size ≤ gb357)); have n3_ := Aside0.mk ((by rw [hg]; exact (below_size (by repeat (first | (with_reducible first | exact HB.out | apply below_alloc | apply pw_below_drewN | apply below_drew1) | exact HB.out))) : w.heap.size ≤ gb357)); clear HB; have HB := n0_; have BK357 := n1_; have GW357 := n2_; have GE357 := n3_; clear n0_ n1_ n2_ n3_; clear hb hbox hg) | ((with_reducible refine gate_dst (N := 3) rfl ?_); refine box_event ?hg (N := 3) ?hd (cs := #[.string a1_0, .int .i64 a1_1, .int .u8 a1_2, .bool a1_3, .slice A1_4 l1_4.length c1_4, .string a1_5, .string a1_6]) (t := 83) ?hr ?_; (case hd => rfl); (case hg => rfl); (case hr => first | (go_simp; done) | (go_simp; rfl)); intro gb358 hg w27 hbox hb; have n0_ := Aside0.mk (blk_below (g := gb357) (o := .cells #[.string a0_0, .int .i64 a0_1, .int .u8 a0_2, .bool a0_3, .slice A0_4 l0_4.length c0_4, .string a0_5, .string a0_6] 83 (0, 0)) (by (with_reducible repeat (first | refine blk_drewN ?_ _ | refine blk_drew ?_ | refine blk_alloc ?_ _)); exact BK357.out) hb); have n1_ := Aside0.mk (below_step (by repeat (first | (with_reducible first | exact HB.out | apply below_alloc | apply pw_below_drewN | apply below_drew1 | refine below_set ?_ GE357.out) | exact HB.out)) hb); have n2_ := Aside0.mk (hbox); have n3_ := Aside0.mk ((by rw [hg]; exact (below_size (by repeat (first | (with_reducible first | exact HB.out | apply below_alloc | apply pw_below_drewN | apply below_drew1 | refine below_set ?_ GE357.out) | exact HB.out))) : w.heap.size ≤ gb358)); have n4_ := Aside0.mk ((by rw [hg]; exact (below_size (by repeat (first | (with_reducible first | exact HB.out | apply below_alloc | apply pw_below_drewN | apply below_drew1 | refine below_set ?_ GE357.out) | exact HB.out))) : w.heap.size ≤ gb358)); have n5_ := Aside0.mk ((by rw [hg]; exact Nat.ne_of_lt (blk_lt (g := gb357) (o := .cells #[.string a0_0, .int .i64 a0_1, .int .u8 a0_2, .bool a0_3, .slice A0_4 l0_4.length c0_4, .string a0_5, .string a0_6] 83 (0, 0)) (by (with_reducible repeat (first | refine blk_drewN ?_ _ | refine blk_drew ?_ | refine blk_alloc ?_ _)); exact BK357.out)) : gb357 ≠ gb358)); have n6_ := Aside0.mk ((by rw [hg]; exact Nat.ne_of_gt (blk_lt (g := gb357) (o := .cells #[.string a0_0, .int .i64 a0_1, .int .u8 a0_2, .bool a0_3, .slice A0_4 l0_4.length c0_4, .string a0_5, .string a0_6] 83 (0, 0)) (by (with_reducible repeat (first | refine blk_drewN ?_ _ | refine blk_drew ?_ | refine blk_alloc ?_ _)); exact BK357.out)) : gb358 ≠ gb357)); clear BK357; clear HB; have BK357 := n0_; have HB := n1_; have BK358 := n2_; have GW358 := n3_; have GE358 := n4_; have NB357_358 := n5_; have NB358_357 := n6_; clear n0_ n1_ n2_ n3_ n4_ n5_ n6_; clear hb hbox hg; have hnb28 := NB357_358.out; have hnc28 := NB358_357.out; have hcz29_0 : w27.cell? ⟨gb357, 0, none⟩ = some (.string a0_0) := (blk_cell BK357.out 0).trans rfl; have hcz29_1 : w27.cell? ⟨gb357, 1, none⟩ = some (.int .i64 a0_1) := (blk_cell BK357.out 1).trans rfl; have hcz29_2 : w27.cell? ⟨gb357, 2, none⟩ = some (.int .u8 a0_2) := (blk_cell BK357.out 2).trans rfl; have hcz29_3 : w27.cell? ⟨gb357, 3, none⟩ = some (.bool a0_3) := (blk_cell BK357.out 3).trans rfl; have hcz29_4 : w27.cell? ⟨gb357, 4, none⟩ = some (.slice A0_4 l0_4.length c0_4) := (blk_cell BK357.out 4).trans rfl; have hcz29_5 : w27.cell? ⟨gb357, 5, none⟩ = some (.string a0_5) := (blk_cell BK357.out 5).trans rfl; have hcz29_6 : w27.cell? ⟨gb357, 6, none⟩ = some (.string a0_6) := (blk_cell BK357.out 6).trans rfl; have hfz29_0 := blk_frozen BK357.out 0; have hfz29_1 := blk_frozen BK357.out 1; have hfz29_2 := blk_frozen BK357.out 2; have hfz29_3 := blk_frozen BK357.out 3; have hfz29_4 := blk_frozen BK357.out 4; have hfz29_5 := blk_frozen BK357.out 5; have hfz29_6 := blk_frozen BK357.out 6; have hcz30_0 : w27.cell? ⟨gb358, 0, none⟩ = some (.string a1_0) := (blk_cell BK358.out 0).trans rfl; have hcz30_1 : w27.cell? ⟨gb358, 1, none⟩ = some (.int .i64 a1_1) := (blk_cell BK358.out 1).trans rfl; have hcz30_2 : w27.cell? ⟨gb358, 2, none⟩ = some (.int .u8 a1_2) := (blk_cell BK358.out 2).trans rfl; have hcz30_3 : w27.cell? ⟨gb358, 3, none⟩ = some (.bool a1_3) := (blk_cell BK358.out 3).trans rfl; have hcz30_4 : w27.cell? ⟨gb358, 4, none⟩ = some (.slice A1_4 l1_4.length c1_4) := (blk_cell BK358.out 4).trans rfl; have hcz30_5 : w27.cell? ⟨gb358, 5, none⟩ = some (.string a1_5) := (blk_cell BK358.out 5).trans rfl; have hcz30_6 : w27.cell? ⟨gb358, 6, none⟩ = some (.string a1_6) := (blk_cell BK358.out 6).trans rfl; have hfz30_0 := blk_frozen BK358.out 0; have hfz30_1 := blk_frozen BK358.out 1; have hfz30_2 := blk_frozen BK358.out 2; have hfz30_3 := blk_frozen BK358.out 3; have hfz30_4 := blk_frozen BK358.out 4; have hfz30_5 := blk_frozen BK358.out 5; have hfz30_6 := blk_frozen BK358.out 6) | (go_at_call 40; (with_reducible refine (switchboardref06_Props.calls k _ _ l0_4 _ _ l1_4 false _ ?side1 ?side2 ?side3 ?side4 A7.out).mono ?_); (case side1 => repeat (first | exact (Kd.C_below HR0_4.out HB.out) | (with_reducible refine Kd.C_alloc ?_ _) | (with_reducible refine Kd.C_drewN ?_ _) | (with_reducible refine Kd.C_drew ?_))); (case side2 => exact HC0_4.out); (case side3 => repeat (first | exact (Kd.C_below HR1_4.out HB.out) | (with_reducible refine Kd.C_alloc ?_ _) | (with_reducible refine Kd.C_drewN ?_ _) | (with_reducible refine Kd.C_drew ?_))); (case side4 => exact HC1_4.out); rintro e w' ⟨rfl, ⟨nd, rfl⟩⟩))
            go_ret
            exact ⟨by first | rfl | (simp [errW_none, errW_some] <;> rfl) | (simp [*, errW_none, errW_some] <;> rfl), by repeat (first | (with_reducible first | exact HB.out | apply below_alloc | apply pw_below_drewN | apply below_drew1 | refine below_set ?_ GE357.out | refine below_set ?_ GE358.out) | exact HB.out)⟩
        · rw [if_neg c6] at H
          have c6b0 : (a0_3 == a1_3) = false := by simpa using c6
          (try (have c6b1 : decide (a0_3 = a1_3) = false := by simpa using c6))
          (try (have c6b2 : (a0_3 == a1_3) = false := by simpa using c6))
          (try (have c6b3 : ¬ (a0_3 = a1_3) := by simpa using c6))
          clear c6
          obtain rfl := Option.some.inj H
          go_enter Try.func35, Try.ntmps35
          go_wp2_with (first | ((with_reducible refine gate_dst (N := 2) rfl ?_); refine box_event ?hg (N := 2) ?hd (cs := #[.string a0_0, .int .i64 a0_1, .int .u8 a0_2, .bool a0_3, .slice A0_4 l0_4.length c0_4, .string a0_5, .string a0_6]) (t := 83) ?hr ?_; (case hd => rfl); (case hg => rfl); (case hr => first | (go_simp; done) | (go_simp; rfl)); intro gb357 hg w31 hbox hb; have n0_ := Aside0.mk (below_step (by repeat (first | (with_reducible first | exact HB.out | apply below_alloc | apply pw_below_drewN | apply below_drew1) | exact HB.out)) hb); have n1_ := Aside0.mk (hbox); have n2_ := Aside0.mk ((by rw [hg]; exact (below_size (by repeat (first | (with_reducible first | exact HB.out | apply below_alloc | apply pw_below_drewN | apply below_drew1) | exact HB.out))) : w.heap.size ≤ gb357)); have n3_ := Aside0.mk ((by rw [hg]; exact (below_size (by repeat (first | (with_reducible first | exact HB.out | apply below_alloc | apply pw_below_drewN | apply below_drew1) | exact HB.out))) : w.heap.size ≤ gb357)); clear HB; have HB := n0_; have BK357 := n1_; have GW357 := n2_; have GE357 := n3_; clear n0_ n1_ n2_ n3_; clear hb hbox hg) | ((with_reducible refine gate_dst (N := 3) rfl ?_); refine box_event ?hg (N := 3) ?hd (cs := #[.string a1_0, .int .i64 a1_1, .int .u8 a1_2, .bool a1_3, .slice A1_4 l1_4.length c1_4, .string a1_5, .string a1_6]) (t := 83) ?hr ?_; (case hd => rfl); (case hg => rfl); (case hr => first | (go_simp; done) | (go_simp; rfl)); intro gb358 hg w32 hbox hb; have n0_ := Aside0.mk (blk_below (g := gb357) (o := .cells #[.string a0_0, .int .i64 a0_1, .int .u8 a0_2, .bool a0_3, .slice A0_4 l0_4.length c0_4, .string a0_5, .string a0_6] 83 (0, 0)) (by (with_reducible repeat (first | refine blk_drewN ?_ _ | refine blk_drew ?_ | refine blk_alloc ?_ _)); exact BK357.out) hb); have n1_ := Aside0.mk (below_step (by repeat (first | (with_reducible first | exact HB.out | apply below_alloc | apply pw_below_drewN | apply below_drew1 | refine below_set ?_ GE357.out) | exact HB.out)) hb); have n2_ := Aside0.mk (hbox); have n3_ := Aside0.mk ((by rw [hg]; exact (below_size (by repeat (first | (with_reducible first | exact HB.out | apply below_alloc | apply pw_below_drewN | apply below_drew1 | refine below_set ?_ GE357.out) | exact HB.out))) : w.heap.size ≤ gb358)); have n4_ := Aside0.mk ((by rw [hg]; exact (below_size (by repeat (first | (with_reducible first | exact HB.out | apply below_alloc | apply pw_below_drewN | apply below_drew1 | refine below_set ?_ GE357.out) | exact HB.out))) : w.heap.size ≤ gb358)); have n5_ := Aside0.mk ((by rw [hg]; exact Nat.ne_of_lt (blk_lt (g := gb357) (o := .cells #[.string a0_0, .int .i64 a0_1, .int .u8 a0_2, .bool a0_3, .slice A0_4 l0_4.length c0_4, .string a0_5, .string a0_6] 83 (0, 0)) (by (with_reducible repeat (first | refine blk_drewN ?_ _ | refine blk_drew ?_ | refine blk_alloc ?_ _)); exact BK357.out)) : gb357 ≠ gb358)); have n6_ := Aside0.mk ((by rw [hg]; exact Nat.ne_of_gt (blk_lt (g := gb357) (o := .cells #[.string a0_0, .int .i64 a0_1, .int .u8 a0_2, .bool a0_3, .slice A0_4 l0_4.length c0_4, .string a0_5, .string a0_6] 83 (0, 0)) (by (with_reducible repeat (first | refine blk_drewN ?_ _ | refine blk_drew ?_ | refine blk_alloc ?_ _)); exact BK357.out)) : gb358 ≠ gb357)); clear BK357; clear HB; have BK357 := n0_; have HB := n1_; have BK358 := n2_; have GW358 := n3_; have GE358 := n4_; have NB357_358 := n5_; have NB358_357 := n6_; clear n0_ n1_ n2_ n3_ n4_ n5_ n6_; clear hb hbox hg; have hnb33 := NB357_358.out; have hnc33 := NB358_357.out; have hcz34_0 : w32.cell? ⟨gb357, 0, none⟩ = some (.string a0_0) := (blk_cell BK357.out 0).trans rfl; have hcz34_1 : w32.cell? ⟨gb357, 1, none⟩ = some (.int .i64 a0_1) := (blk_cell BK357.out 1).trans rfl; have hcz34_2 : w32.cell? ⟨gb357, 2, none⟩ = some (.int .u8 a0_2) := (blk_cell BK357.out 2).trans rfl; have hcz34_3 : w32.cell? ⟨gb357, 3, none⟩ = some (.bool a0_3) := (blk_cell BK357.out 3).trans rfl; have hcz34_4 : w32.cell? ⟨gb357, 4, none⟩ = some (.slice A0_4 l0_4.length c0_4) := (blk_cell BK357.out 4).trans rfl; have hcz34_5 : w32.cell? ⟨gb357, 5, none⟩ = some (.string a0_5) := (blk_cell BK357.out 5).trans rfl; have hcz34_6 : w32.cell? ⟨gb357, 6, none⟩ = some (.string a0_6) := (blk_cell BK357.out 6).trans rfl; have hfz34_0 := blk_frozen BK357.out 0; have hfz34_1 := blk_frozen BK357.out 1; have hfz34_2 := blk_frozen BK357.out 2; have hfz34_3 := blk_frozen BK357.out 3; have hfz34_4 := blk_frozen BK357.out 4; have hfz34_5 := blk_frozen BK357.out 5; have hfz34_6 := blk_frozen BK357.out 6; have hcz35_0 : w32.cell? ⟨gb358, 0, none⟩ = some (.string a1_0) := (blk_cell BK358.out 0).trans rfl; have hcz35_1 : w32.cell? ⟨gb358, 1, none⟩ = some (.int .i64 a1_1) := (blk_cell BK358.out 1).trans rfl; have hcz35_2 : w32.cell? ⟨gb358, 2, none⟩ = some (.int .u8 a1_2) := (blk_cell BK358.out 2).trans rfl; have hcz35_3 : w32.cell? ⟨gb358, 3, none⟩ = some (.bool a1_3) := (blk_cell BK358.out 3).trans rfl; have hcz35_4 : w32.cell? ⟨gb358, 4, none⟩ = some (.slice A1_4 l1_4.length c1_4) := (blk_cell BK358.out 4).trans rfl; have hcz35_5 : w32.cell? ⟨gb358, 5, none⟩ = some (.string a1_5) := (blk_cell BK358.out 5).trans rfl; have hcz35_6 : w32.cell? ⟨gb358, 6, none⟩ = some (.string a1_6) := (blk_cell BK358.out 6).trans rfl; have hfz35_0 := blk_frozen BK358.out 0; have hfz35_1 := blk_frozen BK358.out 1; have hfz35_2 := blk_frozen BK358.out 2; have hfz35_3 := blk_frozen BK358.out 3; have hfz35_4 := blk_frozen BK358.out 4; have hfz35_5 := blk_frozen BK358.out 5; have hfz35_6 := blk_frozen BK358.out 6))
          go_ret
          exact ⟨by first | rfl | (simp [errW_none, errW_some] <;> rfl) | (simp [*, errW_none, errW_some] <;> rfl), by repeat (first | (with_reducible first | exact HB.out | apply below_alloc | apply pw_below_drewN | apply below_drew1 | refine below_set ?_ GE357.out | refine below_set ?_ GE358.out) | exact HB.out)⟩
      · rw [if_neg c5] at H
        have c5b0 : (a0_2 == a1_2) = false := beq_eq_false_iff_ne.mpr c5
        have c5b1 : (a0_2 != a1_2) = true := bne_iff_ne.mpr c5
        obtain rfl := Option.some.inj H
        go_enter Try.func35, Try.ntmps35
        go_wp2_with (first | ((with_reducible refine gate_dst (N := 2) rfl ?_); refine box_event ?hg (N := 2) ?hd (cs := #[.string a0_0, .int .i64 a0_1, .int .u8 a0_2, .bool a0_3, .slice A0_4 l0_4.length c0_4, .string a0_5, .string a0_6]) (t := 83) ?hr ?_; (case hd => rfl); (case hg => rfl); (case hr => first | (go_simp; done) | (go_simp; rfl)); intro gb357 hg w36 hbox hb; have n0_ := Aside0.mk (below_step (by repeat (first | (with_reducible first | exact HB.out | apply below_alloc | apply pw_below_drewN | apply below_drew1) | exact HB.out)) hb); have n1_ := Aside0.mk (hbox); have n2_ := Aside0.mk ((by rw [hg]; exact (below_size (by repeat (first | (with_reducible first | exact HB.out | apply below_alloc | apply pw_below_drewN | apply below_drew1) | exact HB.out))) : w.heap.size ≤ gb357)); have n3_ := Aside0.mk ((by rw [hg]; exact (below_size (by repeat (first | (with_reducible first | exact HB.out | apply below_alloc | apply pw_below_drewN | apply below_drew1) | exact HB.out))) : w.heap.size ≤ gb357)); clear HB; have HB := n0_; have BK357 := n1_; have GW357 := n2_; have GE357 := n3_; clear n0_ n1_ n2_ n3_; clear hb hbox hg) | ((with_reducible refine gate_dst (N := 3) rfl ?_); refine box_event ?hg (N := 3) ?hd (cs := #[.string a1_0, .int .i64 a1_1, .int .u8 a1_2, .bool a1_3, .slice A1_4 l1_4.length c1_4, .string a1_5, .string a1_6]) (t := 83) ?hr ?_; (case hd => rfl); (case hg => rfl); (case hr => first | (go_simp; done) | (go_simp; rfl)); intro gb358 hg w37 hbox hb; have n0_ := Aside0.mk (blk_below (g := gb357) (o := .cells #[.string a0_0, .int .i64 a0_1, .int .u8 a0_2, .bool a0_3, .slice A0_4 l0_4.length c0_4, .string a0_5, .string a0_6] 83 (0, 0)) (by (with_reducible repeat (first | refine blk_drewN ?_ _ | refine blk_drew ?_ | refine blk_alloc ?_ _)); exact BK357.out) hb); have n1_ := Aside0.mk (below_step (by repeat (first | (with_reducible first | exact HB.out | apply below_alloc | apply pw_below_drewN | apply below_drew1 | refine below_set ?_ GE357.out) | exact HB.out)) hb); have n2_ := Aside0.mk (hbox); have n3_ := Aside0.mk ((by rw [hg]; exact (below_size (by repeat (first | (with_reducible first | exact HB.out | apply below_alloc | apply pw_below_drewN | apply below_drew1 | refine below_set ?_ GE357.out) | exact HB.out))) : w.heap.size ≤ gb358)); have n4_ := Aside0.mk ((by rw [hg]; exact (below_size (by repeat (first | (with_reducible first | exact HB.out | apply below_alloc | apply pw_below_drewN | apply below_drew1 | refine below_set ?_ GE357.out) | exact HB.out))) : w.heap.size ≤ gb358)); have n5_ := Aside0.mk ((by rw [hg]; exact Nat.ne_of_lt (blk_lt (g := gb357) (o := .cells #[.string a0_0, .int .i64 a0_1, .int .u8 a0_2, .bool a0_3, .slice A0_4 l0_4.length c0_4, .string a0_5, .string a0_6] 83 (0, 0)) (by (with_reducible repeat (first | refine blk_drewN ?_ _ | refine blk_drew ?_ | refine blk_alloc ?_ _)); exact BK357.out)) : gb357 ≠ gb358)); have n6_ := Aside0.mk ((by rw [hg]; exact Nat.ne_of_gt (blk_lt (g := gb357) (o := .cells #[.string a0_0, .int .i64 a0_1, .int .u8 a0_2, .bool a0_3, .slice A0_4 l0_4.length c0_4, .string a0_5, .string a0_6] 83 (0, 0)) (by (with_reducible repeat (first | refine blk_drewN ?_ _ | refine blk_drew ?_ | refine blk_alloc ?_ _)); exact BK357.out)) : gb358 ≠ gb357)); clear BK357; clear HB; have BK357 := n0_; have HB := n1_; have BK358 := n2_; have GW358 := n3_; have GE358 := n4_; have NB357_358 := n5_; have NB358_357 := n6_; clear n0_ n1_ n2_ n3_ n4_ n5_ n6_; clear hb hbox hg; have hnb38 := NB357_358.out; have hnc38 := NB358_357.out; have hcz39_0 : w37.cell? ⟨gb357, 0, none⟩ = some (.string a0_0) := (blk_cell BK357.out 0).trans rfl; have hcz39_1 : w37.cell? ⟨gb357, 1, none⟩ = some (.int .i64 a0_1) := (blk_cell BK357.out 1).trans rfl; have hcz39_2 : w37.cell? ⟨gb357, 2, none⟩ = some (.int .u8 a0_2) := (blk_cell BK357.out 2).trans rfl; have hcz39_3 : w37.cell? ⟨gb357, 3, none⟩ = some (.bool a0_3) := (blk_cell BK357.out 3).trans rfl; have hcz39_4 : w37.cell? ⟨gb357, 4, none⟩ = some (.slice A0_4 l0_4.length c0_4) := (blk_cell BK357.out 4).trans rfl; have hcz39_5 : w37.cell? ⟨gb357, 5, none⟩ = some (.string a0_5) := (blk_cell BK357.out 5).trans rfl; have hcz39_6 : w37.cell? ⟨gb357, 6, none⟩ = some (.string a0_6) := (blk_cell BK357.out 6).trans rfl; have hfz39_0 := blk_frozen BK357.out 0; have hfz39_1 := blk_frozen BK357.out 1; have hfz39_2 := blk_frozen BK357.out 2; have hfz39_3 := blk_frozen BK357.out 3; have hfz39_4 := blk_frozen BK357.out 4; have hfz39_5 := blk_frozen BK357.out 5; have hfz39_6 := blk_frozen BK357.out 6; have hcz40_0 : w37.cell? ⟨gb358, 0, none⟩ = some (.string a1_0) := (blk_cell BK358.out 0).trans rfl; have hcz40_1 : w37.cell? ⟨gb358, 1, none⟩ = some (.int .i64 a1_1) := (blk_cell BK358.out 1).trans rfl; have hcz40_2 : w37.cell? ⟨gb358, 2, none⟩ = some (.int .u8 a1_2) := (blk_cell BK358.out 2).trans rfl; have hcz40_3 : w37.cell? ⟨gb358, 3, none⟩ = some (.bool a1_3) := (blk_cell BK358.out 3).trans rfl; have hcz40_4 : w37.cell? ⟨gb358, 4, none⟩ = some (.slice A1_4 l1_4.length c1_4) := (blk_cell BK358.out 4).trans rfl; have hcz40_5 : w37.cell? ⟨gb358, 5, none⟩ = some (.string a1_5) := (blk_cell BK358.out 5).trans rfl; have hcz40_6 : w37.cell? ⟨gb358, 6, none⟩ = some (.string a1_6) := (blk_cell BK358.out 6).trans rfl; have hfz40_0 := blk_frozen BK358.out 0; have hfz40_1 := blk_frozen BK358.out 1; have hfz40_2 := blk_frozen BK358.out 2; have hfz40_3 := blk_frozen BK358.out 3; have hfz40_4 := blk_frozen BK358.out 4; have hfz40_5 := blk_frozen BK358.out 5; have hfz40_6 := blk_frozen BK358.out 6))
        go_ret
        exact ⟨by first | rfl | (simp [errW_none, errW_some] <;> rfl) | (simp [*, errW_none, errW_some] <;> rfl), by repeat (first | (with_reducible first | exact HB.out | apply below_alloc | apply pw_below_drewN | apply below_drew1 | refine below_set ?_ GE357.out | refine below_set ?_ GE358.out) | exact HB.out)⟩
    · rw [if_neg c4] at H
      have c4b0 : (a0_1 == a1_1) = false := beq_eq_false_iff_ne.mpr c4
      have c4b1 : (a0_1 != a1_1) = true := bne_iff_ne.mpr c4
      obtain rfl := Option.some.inj H
      go_enter Try.func35, Try.ntmps35
      go_wp2_with (first | ((with_reducible refine gate_dst (N := 2) rfl ?_); refine box_event ?hg (N := 2) ?hd (cs := #[.string a0_0, .int .i64 a0_1, .int .u8 a0_2, .bool a0_3, .slice A0_4 l0_4.length c0_4, .string a0_5, .string a0_6]) (t := 83) ?hr ?_; (case hd => rfl); (case hg => rfl); (case hr => first | (go_simp; done) | (go_simp; rfl)); intro gb357 hg w41 hbox hb; have n0_ := Aside0.mk (below_step (by repeat (first | (with_reducible first | exact HB.out | apply below_alloc | apply pw_below_drewN | apply below_drew1) | exact HB.out)) hb); have n1_ := Aside0.mk (hbox); have n2_ := Aside0.mk ((by rw [hg]; exact (below_size (by repeat (first | (with_reducible first | exact HB.out | apply below_alloc | apply pw_below_drewN | apply below_drew1) | exact HB.out))) : w.heap.size ≤ gb357)); have n3_ := Aside0.mk ((by rw [hg]; exact (below_size (by repeat (first | (with_reducible first | exact HB.out | apply below_alloc | apply pw_below_drewN | apply below_drew1) | exact HB.out))) : w.heap.size ≤ gb357)); clear HB; have HB := n0_; have BK357 := n1_; have GW357 := n2_; have GE357 := n3_; clear n0_ n1_ n2_ n3_; clear hb hbox hg) | ((with_reducible refine gate_dst (N := 3) rfl ?_); refine box_event ?hg (N := 3) ?hd (cs := #[.string a1_0, .int .i64 a1_1, .int .u8 a1_2, .bool a1_3, .slice A1_4 l1_4.length c1_4, .string a1_5, .string a1_6]) (t := 83) ?hr ?_; (case hd => rfl); (case hg => rfl); (case hr => first | (go_simp; done) | (go_simp; rfl)); intro gb358 hg w42 hbox hb; have n0_ := Aside0.mk (blk_below (g := gb357) (o := .cells #[.string a0_0, .int .i64 a0_1, .int .u8 a0_2, .bool a0_3, .slice A0_4 l0_4.length c0_4, .string a0_5, .string a0_6] 83 (0, 0)) (by (with_reducible repeat (first | refine blk_drewN ?_ _ | refine blk_drew ?_ | refine blk_alloc ?_ _)); exact BK357.out) hb); have n1_ := Aside0.mk (below_step (by repeat (first | (with_reducible first | exact HB.out | apply below_alloc | apply pw_below_drewN | apply below_drew1 | refine below_set ?_ GE357.out) | exact HB.out)) hb); have n2_ := Aside0.mk (hbox); have n3_ := Aside0.mk ((by rw [hg]; exact (below_size (by repeat (first | (with_reducible first | exact HB.out | apply below_alloc | apply pw_below_drewN | apply below_drew1 | refine below_set ?_ GE357.out) | exact HB.out))) : w.heap.size ≤ gb358)); have n4_ := Aside0.mk ((by rw [hg]; exact (below_size (by repeat (first | (with_reducible first | exact HB.out | apply below_alloc | apply pw_below_drewN | apply below_drew1 | refine below_set ?_ GE357.out) | exact HB.out))) : w.heap.size ≤ gb358)); have n5_ := Aside0.mk ((by rw [hg]; exact Nat.ne_of_lt (blk_lt (g := gb357) (o := .cells #[.string a0_0, .int .i64 a0_1, .int .u8 a0_2, .bool a0_3, .slice A0_4 l0_4.length c0_4, .string a0_5, .string a0_6] 83 (0, 0)) (by (with_reducible repeat (first | refine blk_drewN ?_ _ | refine blk_drew ?_ | refine blk_alloc ?_ _)); exact BK357.out)) : gb357 ≠ gb358)); have n6_ := Aside0.mk ((by rw [hg]; exact Nat.ne_of_gt (blk_lt (g := gb357) (o := .cells #[.string a0_0, .int .i64 a0_1, .int .u8 a0_2, .bool a0_3, .slice A0_4 l0_4.length c0_4, .string a0_5, .string a0_6] 83 (0, 0)) (by (with_reducible repeat (first | refine blk_drewN ?_ _ | refine blk_drew ?_ | refine blk_alloc ?_ _)); exact BK357.out)) : gb358 ≠ gb357)); clear BK357; clear HB; have BK357 := n0_; have HB := n1_; have BK358 := n2_; have GW358 := n3_; have GE358 := n4_; have NB357_358 := n5_; have NB358_357 := n6_; clear n0_ n1_ n2_ n3_ n4_ n5_ n6_; clear hb hbox hg; have hnb43 := NB357_358.out; have hnc43 := NB358_357.out; have hcz44_0 : w42.cell? ⟨gb357, 0, none⟩ = some (.string a0_0) := (blk_cell BK357.out 0).trans rfl; have hcz44_1 : w42.cell? ⟨gb357, 1, none⟩ = some (.int .i64 a0_1) := (blk_cell BK357.out 1).trans rfl; have hcz44_2 : w42.cell? ⟨gb357, 2, none⟩ = some (.int .u8 a0_2) := (blk_cell BK357.out 2).trans rfl; have hcz44_3 : w42.cell? ⟨gb357, 3, none⟩ = some (.bool a0_3) := (blk_cell BK357.out 3).trans rfl; have hcz44_4 : w42.cell? ⟨gb357, 4, none⟩ = some (.slice A0_4 l0_4.length c0_4) := (blk_cell BK357.out 4).trans rfl; have hcz44_5 : w42.cell? ⟨gb357, 5, none⟩ = some (.string a0_5) := (blk_cell BK357.out 5).trans rfl; have hcz44_6 : w42.cell? ⟨gb357, 6, none⟩ = some (.string a0_6) := (blk_cell BK357.out 6).trans rfl; have hfz44_0 := blk_frozen BK357.out 0; have hfz44_1 := blk_frozen BK357.out 1; have hfz44_2 := blk_frozen BK357.out 2; have hfz44_3 := blk_frozen BK357.out 3; have hfz44_4 := blk_frozen BK357.out 4; have hfz44_5 := blk_frozen BK357.out 5; have hfz44_6 := blk_frozen BK357.out 6; have hcz45_0 : w42.cell? ⟨gb358, 0, none⟩ = some (.string a1_0) := (blk_cell BK358.out 0).trans rfl; have hcz45_1 : w42.cell? ⟨gb358, 1, none⟩ = some (.int .i64 a1_1) := (blk_cell BK358.out 1).trans rfl; have hcz45_2 : w42.cell? ⟨gb358, 2, none⟩ = some (.int .u8 a1_2) := (blk_cell BK358.out 2).trans rfl; have hcz45_3 : w42.cell? ⟨gb358, 3, none⟩ = some (.bool a1_3) := (blk_cell BK358.out 3).trans rfl; have hcz45_4 : w42.cell? ⟨gb358, 4, none⟩ = some (.slice A1_4 l1_4.length c1_4) := (blk_cell BK358.out 4).trans rfl; have hcz45_5 : w42.cell? ⟨gb358, 5, none⟩ = some (.string a1_5) := (blk_cell BK358.out 5).trans rfl; have hcz45_6 : w42.cell? ⟨gb358, 6, none⟩ = some (.string a1_6) := (blk_cell BK358.out 6).trans rfl; have hfz45_0 := blk_frozen BK358.out 0; have hfz45_1 := blk_frozen BK358.out 1; have hfz45_2 := blk_frozen BK358.out 2; have hfz45_3 := blk_frozen BK358.out 3; have hfz45_4 := blk_frozen BK358.out 4; have hfz45_5 := blk_frozen BK358.out 5; have hfz45_6 := blk_frozen BK358.out 6))
      go_ret
      exact ⟨by first | rfl | (simp [errW_none, errW_some] <;> rfl) | (simp [*, errW_none, errW_some] <;> rfl), by repeat (first | (with_reducible first | exact HB.out | apply below_alloc | apply pw_below_drewN | apply below_drew1 | refine below_set ?_ GE357.out | refine below_set ?_ GE358.out) | exact HB.out)⟩
  · rw [if_neg c3] at H
    have c3b0 : (a0_0.toList == a1_0.toList) = false := beq_eq_false_iff_ne.mpr c3
    have c3b1 : (a0_0.toList != a1_0.toList) = true := bne_iff_ne.mpr c3
    obtain rfl := Option.some.inj H
    go_enter Try.func35, Try.ntmps35
    go_wp2_with (first | ((with_reducible refine gate_dst (N := 2) rfl ?_); refine box_event ?hg (N := 2) ?hd (cs := #[.string a0_0, .int .i64 a0_1, .int .u8 a0_2, .bool a0_3, .slice A0_4 l0_4.length c0_4, .string a0_5, .string a0_6]) (t := 83) ?hr ?_; (case hd => rfl); (case hg => rfl); (case hr => first | (go_simp; done) | (go_simp; rfl)); intro gb357 hg w46 hbox hb; have n0_ := Aside0.mk (below_step (by repeat (first | (with_reducible first | exact HB.out | apply below_alloc | apply pw_below_drewN | apply below_drew1) | exact HB.out)) hb); have n1_ := Aside0.mk (hbox); have n2_ := Aside0.mk ((by rw [hg]; exact (below_size (by repeat (first | (with_reducible first | exact HB.out | apply below_alloc | apply pw_below_drewN | apply below_drew1) | exact HB.out))) : w.heap.size ≤ gb357)); have n3_ := Aside0.mk ((by rw [hg]; exact (below_size (by repeat (first | (with_reducible first | exact HB.out | apply below_alloc | apply pw_below_drewN | apply below_drew1) | exact HB.out))) : w.heap.size ≤ gb357)); clear HB; have HB := n0_; have BK357 := n1_; have GW357 := n2_; have GE357 := n3_; clear n0_ n1_ n2_ n3_; clear hb hbox hg) | ((with_reducible refine gate_dst (N := 3) rfl ?_); refine box_event ?hg (N := 3) ?hd (cs := #[.string a1_0, .int .i64 a1_1, .int .u8 a1_2, .bool a1_3, .slice A1_4 l1_4.length c1_4, .string a1_5, .string a1_6]) (t := 83) ?hr ?_; (case hd => rfl); (case hg => rfl); (case hr => first | (go_simp; done) | (go_simp; rfl)); intro gb358 hg w47 hbox hb; have n0_ := Aside0.mk (blk_below (g := gb357) (o := .cells #[.string a0_0, .int .i64 a0_1, .int .u8 a0_2, .bool a0_3, .slice A0_4 l0_4.length c0_4, .string a0_5, .string a0_6] 83 (0, 0)) (by (with_reducible repeat (first | refine blk_drewN ?_ _ | refine blk_drew ?_ | refine blk_alloc ?_ _)); exact BK357.out) hb); have n1_ := Aside0.mk (below_step (by repeat (first | (with_reducible first | exact HB.out | apply below_alloc | apply pw_below_drewN | apply below_drew1 | refine below_set ?_ GE357.out) | exact HB.out)) hb); have n2_ := Aside0.mk (hbox); have n3_ := Aside0.mk ((by rw [hg]; exact (below_size (by repeat (first | (with_reducible first | exact HB.out | apply below_alloc | apply pw_below_drewN | apply below_drew1 | refine below_set ?_ GE357.out) | exact HB.out))) : w.heap.size ≤ gb358)); have n4_ := Aside0.mk ((by rw [hg]; exact (below_size (by repeat (first | (with_reducible first | exact HB.out | apply below_alloc | apply pw_below_drewN | apply below_drew1 | refine below_set ?_ GE357.out) | exact HB.out))) : w.heap.size ≤ gb358)); have n5_ := Aside0.mk ((by rw [hg]; exact Nat.ne_of_lt (blk_lt (g := gb357) (o := .cells #[.string a0_0, .int .i64 a0_1, .int .u8 a0_2, .bool a0_3, .slice A0_4 l0_4.length c0_4, .string a0_5, .string a0_6] 83 (0, 0)) (by (with_reducible repeat (first | refine blk_drewN ?_ _ | refine blk_drew ?_ | refine blk_alloc ?_ _)); exact BK357.out)) : gb357 ≠ gb358)); have n6_ := Aside0.mk ((by rw [hg]; exact Nat.ne_of_gt (blk_lt (g := gb357) (o := .cells #[.string a0_0, .int .i64 a0_1, .int .u8 a0_2, .bool a0_3, .slice A0_4 l0_4.length c0_4, .string a0_5, .string a0_6] 83 (0, 0)) (by (with_reducible repeat (first | refine blk_drewN ?_ _ | refine blk_drew ?_ | refine blk_alloc ?_ _)); exact BK357.out)) : gb358 ≠ gb357)); clear BK357; clear HB; have BK357 := n0_; have HB := n1_; have BK358 := n2_; have GW358 := n3_; have GE358 := n4_; have NB357_358 := n5_; have NB358_357 := n6_; clear n0_ n1_ n2_ n3_ n4_ n5_ n6_; clear hb hbox hg; have hnb48 := NB357_358.out; have hnc48 := NB358_357.out; have hcz49_0 : w47.cell? ⟨gb357, 0, none⟩ = some (.string a0_0) := (blk_cell BK357.out 0).trans rfl; have hcz49_1 : w47.cell? ⟨gb357, 1, none⟩ = some (.int .i64 a0_1) := (blk_cell BK357.out 1).trans rfl; have hcz49_2 : w47.cell? ⟨gb357, 2, none⟩ = some (.int .u8 a0_2) := (blk_cell BK357.out 2).trans rfl; have hcz49_3 : w47.cell? ⟨gb357, 3, none⟩ = some (.bool a0_3) := (blk_cell BK357.out 3).trans rfl; have hcz49_4 : w47.cell? ⟨gb357, 4, none⟩ = some (.slice A0_4 l0_4.length c0_4) := (blk_cell BK357.out 4).trans rfl; have hcz49_5 : w47.cell? ⟨gb357, 5, none⟩ = some (.string a0_5) := (blk_cell BK357.out 5).trans rfl; have hcz49_6 : w47.cell? ⟨gb357, 6, none⟩ = some (.string a0_6) := (blk_cell BK357.out 6).trans rfl; have hfz49_0 := blk_frozen BK357.out 0; have hfz49_1 := blk_frozen BK357.out 1; have hfz49_2 := blk_frozen BK357.out 2; have hfz49_3 := blk_frozen BK357.out 3; have hfz49_4 := blk_frozen BK357.out 4; have hfz49_5 := blk_frozen BK357.out 5; have hfz49_6 := blk_frozen BK357.out 6; have hcz50_0 : w47.cell? ⟨gb358, 0, none⟩ = some (.string a1_0) := (blk_cell BK358.out 0).trans rfl; have hcz50_1 : w47.cell? ⟨gb358, 1, none⟩ = some (.int .i64 a1_1) := (blk_cell BK358.out 1).trans rfl; have hcz50_2 : w47.cell? ⟨gb358, 2, none⟩ = some (.int .u8 a1_2) := (blk_cell BK358.out 2).trans rfl; have hcz50_3 : w47.cell? ⟨gb358, 3, none⟩ = some (.bool a1_3) := (blk_cell BK358.out 3).trans rfl; have hcz50_4 : w47.cell? ⟨gb358, 4, none⟩ = some (.slice A1_4 l1_4.length c1_4) := (blk_cell BK358.out 4).trans rfl; have hcz50_5 : w47.cell? ⟨gb358, 5, none⟩ = some (.string a1_5) := (blk_cell BK358.out 5).trans rfl; have hcz50_6 : w47.cell? ⟨gb358, 6, none⟩ = some (.string a1_6) := (blk_cell BK358.out 6).trans rfl; have hfz50_0 := blk_frozen BK358.out 0; have hfz50_1 := blk_frozen BK358.out 1; have hfz50_2 := blk_frozen BK358.out 2; have hfz50_3 := blk_frozen BK358.out 3; have hfz50_4 := blk_frozen BK358.out 4; have hfz50_5 := blk_frozen BK358.out 5; have hfz50_6 := blk_frozen BK358.out 6))
    go_ret
    exact ⟨by first | rfl | (simp [errW_none, errW_some] <;> rfl) | (simp [*, errW_none, errW_some] <;> rfl), by repeat (first | (with_reducible first | exact HB.out | apply below_alloc | apply pw_below_drewN | apply below_drew1 | refine below_set ?_ GE357.out | refine below_set ?_ GE358.out) | exact HB.out)⟩
end Go.Proofs.Ytegnmdnflmlioaa.PWillPlays
