import Derived.Test.YtbgondiibnjcgaaDoorPRetainPlaysx0
import Derived.Test.YtbgondiibnjcgaaDoorPRetainPlaysx1
import Derived.Test.YtbgondiibnjcgaaDoorP10
namespace Go.Proofs.YtbgondiibnjcgaaDoor.PRetainPlays
open Go.RowKit Go.Proofs.YtbgondiibnjcgaaDoorW.PrintWords Go.Proofs.YtbgondiibnjcgaaDoorW.PrintLast Go.Proofs.YtbgondiibnjcgaaDoorW.PrintMore
attribute [local go_sem] max2_int min2_int max_two min_two max_three min_three max_four min_four
set_option linter.unusedVariables false
set_option linter.unusedSimpArgs false
attribute [local go_sem high] eqA92
def switchboardref06_same.l0 : Nat → List (S92) → List (S92) → Int → Int → Option (Bool)
  | 0, _, _, _, _ => none
  | k + 1, x0, x1, x12, x13 => if x13 < x12 then (if 0 ≤ x13 then (if x13 < (x0.length : Int) then (if x13 < (x1.length : Int) then (if (!(((rd_T92 x0 x13).f0) == ((rd_T92 x1 x13).f0)) || (!(((rd_T92 x0 x13).f1) == ((rd_T92 x1 x13).f1)) || (!((((rd_T92 x0 x13).f2).toList) == (((rd_T92 x1 x13).f2).toList)) || (!((((rd_T92 x0 x13).f3).toList) == (((rd_T92 x1 x13).f3).toList)))))) = true then (some false) else (switchboardref06_same.l0 k x0 x1 x12 (wrap64 (x13 + 1)))) else (none)) else (none)) else (none)) else (some true)
def switchboardref06_same.f (k : Nat) (l0 : List (S92)) (l1 : List (S92)) : Option (Bool) := if (l0.length : Int) = (l1.length : Int) then (switchboardref06_same.l0 k l0 l1 (l0.length : Int) 0) else (some false)
theorem switchboardref06_same.mono_l : ∀ k, (∀ y0 y1 y2 y3, LeO (switchboardref06_same.l0 k y0 y1 y2 y3) (switchboardref06_same.l0 (k + 1) y0 y1 y2 y3))
  | 0 => fun _ _ _ _ r h => by simp [switchboardref06_same.l0] at h
  | k + 1 => by
    have ih0 := switchboardref06_same.mono_l k
    · intro y0 y1 y2 y3
      unfold switchboardref06_same.l0
      repeat' first
      | (with_reducible exact ih0 _ _ _ _)
      | (with_reducible exact LeO.refl _)
      | (with_reducible exact LeO.none _)
      | (with_reducible refine LeO.ite ?_ ?_)
      | (with_reducible refine LeO.bind ?_ (fun _ => ?_))
      | exact ih0 _ _ _ _
      | exact LeO.none _
      | refine LeO.ite ?_ ?_
      | refine LeO.bind ?_ (fun _ => ?_)
theorem switchboardref06_same.mono : ∀ a0 a1 k, LeO (switchboardref06_same.f k a0 a1) (switchboardref06_same.f (k + 1) a0 a1) := by
  intro a0 a1 k
  have ih0 := switchboardref06_same.mono_l k
  unfold switchboardref06_same.f
  repeat' first
      | (with_reducible exact ih0 _ _ _ _)
      | (with_reducible exact LeO.refl _)
      | (with_reducible exact LeO.none _)
      | (with_reducible refine LeO.ite ?_ ?_)
      | (with_reducible refine LeO.bind ?_ (fun _ => ?_))
      | exact ih0 _ _ _ _
      | exact LeO.none _
      | refine LeO.ite ?_ ?_
      | refine LeO.bind ?_ (fun _ => ?_)
set_option maxHeartbeats 8000000 in
set_option maxRecDepth 100000 in
theorem switchboardref06_same.calls (k : Nat) (A0 : Option Addr) (c0 : Nat) (l0 : List (S92)) (A1 : Option Addr) (c1 : Nat) (l1 : List (S92)) (r : Bool) (w : World) (hr0 : Kd.C k92 w A0 l0.length l0) (hc0 : l0.length ≤ c0) (hr1 : Kd.C k92 w A1 l1.length l1) (hc1 : l1.length ≤ c1) (h : switchboardref06_same.f k l0 l1 = some r) :
    Calls Tryd.prog 53 #[.slice A0 l0.length c0, .slice A1 l1.length c1] w fun e w' => e = .returned (.bool r) ∧ Drawn0 w w' := by
  have hu92 := Tryd.underlying92
  have HR0 := Aside0.mk hr0
  have HC0 := Aside0.mk hc0
  clear hr0 hc0
  have HR1 := Aside0.mk hr1
  have HC1 := Aside0.mk hc1
  clear hr1 hc1
  have H : (if (l0.length : Int) = (l1.length : Int) then (switchboardref06_same.l0 k l0 l1 (l0.length : Int) 0) else (some false)) = some r := h
  clear h
  by_cases c3 : (l0.length : Int) = (l1.length : Int)
  · rw [if_pos c3] at H
    have c3b0 : ((l0.length : Int) == (l1.length : Int)) = true := beq_iff_eq.mpr c3
    have c3b1 : ((l0.length : Int) != (l1.length : Int)) = false := bne_eq_false_iff_eq.mpr c3
    have c3b2 : (l0.length == l1.length) = true := by first | simpa using c3 | (simp at c3 ⊢; omega)
    clear c3
    have H' := Aside0.mk H
    clear H
    go_enter Tryd.func53, Tryd.ntmps53
    go_wp2
    repeat (go_quiet (fail); try go_wp2)
    go_loopg [13] k (fun kq v13 w' => ∃ (x13_1 : Int), v13 = .int .i64 x13_1 ∧ Aside0 (switchboardref06_same.l0 kq l0 l1 (l0.length : Int) x13_1 = some r) ∧ Aside0 (kq ≤ k) ∧ Drawn0 w w')
    case atStart => exact ⟨(0), (by first | rfl | (simp; done) | (simp [*]; done)), H', ⟨Nat.le_refl _⟩, by repeat (first | exact Drawn0.refl _ | apply Drawn0.step)⟩
    case round =>
      clear H'
      try clear c1
      try clear p2
      try clear c3
      try clear c3b0
      try clear c3b1
      try clear c3b2
      obtain ⟨x13_1, rfl, HA, HK1, ⟨m1, rfl⟩⟩ := hrel
      cases gk with
      | zero => exact absurd HA.out (by simp [switchboardref06_same.l0])
      | succ k1 =>
        have H := HA.out
        clear HA
        simp only [switchboardref06_same.l0] at H
        by_cases c4 : x13_1 < (l0.length : Int)
        · rw [if_pos c4] at H
          have c4b0 : decide (x13_1 < (l0.length : Int)) = true := decide_eq_true c4
          clear c4
          by_cases c5 : 0 ≤ x13_1
          · rw [if_pos c5] at H
            have c5b0 : decide (0 ≤ x13_1) = true := decide_eq_true c5
            clear c5
            by_cases c6 : x13_1 < (l0.length : Int)
            · rw [if_pos c6] at H
              have c6b0 : decide (x13_1 < (l0.length : Int)) = true := decide_eq_true c6
              clear c6
              by_cases c7 : x13_1 < (l1.length : Int)
              · rw [if_pos c7] at H
                have c7b0 : decide (x13_1 < (l1.length : Int)) = true := decide_eq_true c7
                clear c7
                by_cases c8 : (!(((rd_T92 l0 x13_1).f0) == ((rd_T92 l1 x13_1).f0)) || (!(((rd_T92 l0 x13_1).f1) == ((rd_T92 l1 x13_1).f1)) || (!((((rd_T92 l0 x13_1).f2).toList) == (((rd_T92 l1 x13_1).f2).toList)) || (!((((rd_T92 l0 x13_1).f3).toList) == (((rd_T92 l1 x13_1).f3).toList)))))) = true
                · rw [if_pos c8] at H
                  have c8b0 : (!(((rd_T92 l0 x13_1).f0) == ((rd_T92 l1 x13_1).f0)) || (!(((rd_T92 l0 x13_1).f1) == ((rd_T92 l1 x13_1).f1)) || (!((((rd_T92 l0 x13_1).f2).toList) == (((rd_T92 l1 x13_1).f2).toList)) || (!((((rd_T92 l0 x13_1).f3).toList) == (((rd_T92 l1 x13_1).f3).toList)))))) = true := c8
                  clear c8
                  obtain rfl := Option.some.inj H
                  have p331 : 0 ≤ (x13_1 : Int) := of_decide_eq_true (by first | (with_reducible assumption) | assumption)
                  have q331 : x13_1 < (l0.length : Int) := of_decide_eq_true (by first | (with_reducible assumption) | assumption)
                  obtain ⟨ad331, e331, hx331_0, hx331_1, hx331_2, hx331_3⟩ := at_T92 HR0.out x13_1 p331 q331
                  cases e331
                  replace p331 := eq_true p331
                  replace q331 := eq_true q331
                  have p332 : 0 ≤ (x13_1 : Int) := of_decide_eq_true (by first | (with_reducible assumption) | assumption)
                  have q332 : x13_1 < (l1.length : Int) := of_decide_eq_true (by first | (with_reducible assumption) | assumption)
                  obtain ⟨ad332, e332, hx332_0, hx332_1, hx332_2, hx332_3⟩ := at_T92 HR1.out x13_1 p332 q332
                  cases e332
                  replace p332 := eq_true p332
                  replace q332 := eq_true q332
                  go_wp2
                  repeat (go_quiet (fail); try go_wp2)
                  go_ret
                  exact ⟨by first | rfl | (simp; done) | (simp [*]; done), by repeat (first | exact Drawn0.refl _ | apply Drawn0.step)⟩
                · rw [if_neg c8] at H
                  have c8b0 : (!(((rd_T92 l0 x13_1).f0) == ((rd_T92 l1 x13_1).f0)) || (!(((rd_T92 l0 x13_1).f1) == ((rd_T92 l1 x13_1).f1)) || (!((((rd_T92 l0 x13_1).f2).toList) == (((rd_T92 l1 x13_1).f2).toList)) || (!((((rd_T92 l0 x13_1).f3).toList) == (((rd_T92 l1 x13_1).f3).toList)))))) = false := by simpa using c8
                  clear c8
                  have H' := Aside0.mk H
                  clear H
                  have p331 : 0 ≤ (x13_1 : Int) := of_decide_eq_true (by first | (with_reducible assumption) | assumption)
                  have q331 : x13_1 < (l0.length : Int) := of_decide_eq_true (by first | (with_reducible assumption) | assumption)
                  obtain ⟨ad331, e331, hx331_0, hx331_1, hx331_2, hx331_3⟩ := at_T92 HR0.out x13_1 p331 q331
                  cases e331
                  replace p331 := eq_true p331
                  replace q331 := eq_true q331
                  have p332 : 0 ≤ (x13_1 : Int) := of_decide_eq_true (by first | (with_reducible assumption) | assumption)
                  have q332 : x13_1 < (l1.length : Int) := of_decide_eq_true (by first | (with_reducible assumption) | assumption)
                  obtain ⟨ad332, e332, hx332_0, hx332_1, hx332_2, hx332_3⟩ := at_T92 HR1.out x13_1 p332 q332
                  cases e332
                  replace p332 := eq_true p332
                  replace q332 := eq_true q332
                  go_wp2
                  repeat (go_quiet (fail); try go_wp2)
                  go_roundg k1
                  case measure => have := HK1.out; omega
                  case rel => exact ⟨(wrap64 (x13_1 + 1)), (by first | rfl | (simp; done) | (simp [*]; done)), H', ⟨by have := HK1.out; omega⟩, by repeat (first | exact Drawn0.refl _ | apply Drawn0.step)⟩
              · rw [if_neg c7] at H
                exact absurd H (by simp)
            · rw [if_neg c6] at H
              exact absurd H (by simp)
          · rw [if_neg c5] at H
            exact absurd H (by simp)
        · rw [if_neg c4] at H
          have c4b0 : decide (x13_1 < (l0.length : Int)) = false := decide_eq_false c4
          clear c4
          obtain rfl := Option.some.inj H
          go_wp2
          repeat (go_quiet (fail); try go_wp2)
          go_ret
          exact ⟨by first | rfl | (simp; done) | (simp [*]; done), by repeat (first | exact Drawn0.refl _ | apply Drawn0.step)⟩
  · rw [if_neg c3] at H
    have c3b0 : ((l0.length : Int) == (l1.length : Int)) = false := beq_eq_false_iff_ne.mpr c3
    have c3b1 : ((l0.length : Int) != (l1.length : Int)) = true := bne_iff_ne.mpr c3
    have c3b2 : (l0.length == l1.length) = false := by first | simpa using c3 | (simp at c3 ⊢; omega)
    obtain rfl := Option.some.inj H
    go_enter Tryd.func53, Tryd.ntmps53
    go_wp2
    repeat (go_quiet (fail); try go_wp2)
    go_ret
    exact ⟨by first | rfl | (simp; done) | (simp [*]; done), by repeat (first | exact Drawn0.refl _ | apply Drawn0.step)⟩
def switchboardref06_Props.f (k : Nat) (l0 : List (S92)) (l1 : List (S92)) : Option (Bool) := (switchboardref06_same.f k l0 l1).bind fun t333 => (some t333)
theorem switchboardref06_Props.mono : ∀ a0 a1 k, LeO (switchboardref06_Props.f k a0 a1) (switchboardref06_Props.f (k + 1) a0 a1) := by
  intro a0 a1 k
  unfold switchboardref06_Props.f
  repeat' first
      | (with_reducible exact switchboardref06_same.mono _ _ _)
      | (with_reducible exact LeO.refl _)
      | (with_reducible exact LeO.none _)
      | (with_reducible refine LeO.ite ?_ ?_)
      | (with_reducible refine LeO.bind ?_ (fun _ => ?_))
      | exact switchboardref06_same.mono _ _ _
      | exact LeO.none _
      | refine LeO.ite ?_ ?_
      | refine LeO.bind ?_ (fun _ => ?_)
set_option maxHeartbeats 8000000 in
set_option maxRecDepth 100000 in
theorem switchboardref06_Props.calls (k : Nat) (A0 : Option Addr) (c0 : Nat) (l0 : List (S92)) (A1 : Option Addr) (c1 : Nat) (l1 : List (S92)) (r : Bool) (w : World) (hr0 : Kd.C k92 w A0 l0.length l0) (hc0 : l0.length ≤ c0) (hr1 : Kd.C k92 w A1 l1.length l1) (hc1 : l1.length ≤ c1) (h : switchboardref06_Props.f k l0 l1 = some r) :
    Calls Tryd.prog 43 #[.slice A0 l0.length c0, .slice A1 l1.length c1] w fun e w' => e = .returned (.bool r) ∧ Drawn0 w w' := by
  have HR0 := Aside0.mk hr0
  have HC0 := Aside0.mk hc0
  clear hr0 hc0
  have HR1 := Aside0.mk hr1
  have HC1 := Aside0.mk hc1
  clear hr1 hc1
  have H : ((switchboardref06_same.f k l0 l1).bind fun t333 => (some t333)) = some r := h
  clear h
  replace H := Option.bind_eq_some_iff.mp H
  obtain ⟨t333, A30, H⟩ := H
  replace H : (some t333) = some r := H
  have A3 := Aside0.mk A30
  clear A30
  obtain rfl := Option.some.inj H
  go_enter Tryd.func43, Tryd.ntmps43
  go_wp2_with (first | ((with_reducible refine gate_callee (f := 53) rfl ?_); refine goesL_ (some 7) rfl rfl Tryd.func53 (by kernel_rfl) rfl #[.slice A0 l0.length c0, .slice A1 l1.length c1] rfl (by (try simp only [List.map_toArray, List.map_cons, List.map_nil]); first | done | rfl | (simp only [List.length_drop, List.length_take]; rfl)) ?_; (with_reducible refine (switchboardref06_same.calls k _ _ l0 _ _ l1 t333 _ ?side1 ?side2 ?side3 ?side4 A3.out).mono ?_); (case side1 => repeat (first | exact HR0.out | (with_reducible refine Kd.C_alloc ?_ _) | (with_reducible refine Kd.C_drewN ?_ _) | (with_reducible refine Kd.C_drew ?_))); (case side2 => exact HC0.out); (case side3 => repeat (first | exact HR1.out | (with_reducible refine Kd.C_alloc ?_ _) | (with_reducible refine Kd.C_drewN ?_ _) | (with_reducible refine Kd.C_drew ?_))); (case side4 => exact HC1.out); rintro e w' ⟨rfl, ⟨nd, rfl⟩⟩; refine ⟨_, rfl, ?_⟩))
  go_ret
  exact ⟨by first | rfl | (simp; done) | (simp [*]; done), by repeat (first | exact Drawn0.refl _ | apply Drawn0.step)⟩
def switchboardlaw12_Same.f (k : Nat) (a0_0 : ByteArray) (a0_1 : Int) (a0_2 : Int) (a0_3 : Bool) (l0_4 : List (S92)) (a0_5 : ByteArray) (a0_6 : ByteArray) (a1_0 : ByteArray) (a1_1 : Int) (a1_2 : Int) (a1_3 : Bool) (l1_4 : List (S92)) (a1_5 : ByteArray) (a1_6 : ByteArray) : Option (Int) := if a0_0.toList = a1_0.toList then (if a0_1 = a1_1 then (if a0_2 = a1_2 then (if (a0_3 == a1_3) = true then ((switchboardref06_Props.f k l0_4 l1_4).bind fun t336 => (if t336 = true then (if a0_5.toList = a1_5.toList then (if a0_6.toList = a1_6.toList then (some 0) else (some (-1))) else (some (-1))) else (some (-1)))) else (some (-1))) else (some (-1))) else (some (-1))) else (some (-1))
theorem switchboardlaw12_Same.mono : ∀ a0 a1 a2 a3 a4 a5 a6 a7 a8 a9 a10 a11 a12 a13 k, LeO (switchboardlaw12_Same.f k a0 a1 a2 a3 a4 a5 a6 a7 a8 a9 a10 a11 a12 a13) (switchboardlaw12_Same.f (k + 1) a0 a1 a2 a3 a4 a5 a6 a7 a8 a9 a10 a11 a12 a13) := by
  intro a0 a1 a2 a3 a4 a5 a6 a7 a8 a9 a10 a11 a12 a13 k
  unfold switchboardlaw12_Same.f
  repeat' first
      | (with_reducible exact switchboardref06_Props.mono _ _ _)
      | (with_reducible exact LeO.refl _)
      | (with_reducible exact LeO.none _)
      | (with_reducible refine LeO.ite ?_ ?_)
      | (with_reducible refine LeO.bind ?_ (fun _ => ?_))
      | exact switchboardref06_Props.mono _ _ _
      | exact LeO.none _
      | refine LeO.ite ?_ ?_
      | refine LeO.bind ?_ (fun _ => ?_)
set_option maxHeartbeats 8000000 in
set_option maxRecDepth 100000 in
theorem switchboardlaw12_Same.calls (k : Nat) (a0_0 : ByteArray) (a0_1 : Int) (a0_2 : Int) (a0_3 : Bool) (A0_4 : Option Addr) (c0_4 : Nat) (l0_4 : List (S92)) (a0_5 : ByteArray) (a0_6 : ByteArray) (a1_0 : ByteArray) (a1_1 : Int) (a1_2 : Int) (a1_3 : Bool) (A1_4 : Option Addr) (c1_4 : Nat) (l1_4 : List (S92)) (a1_5 : ByteArray) (a1_6 : ByteArray) (r : Int) (w : World) (hr0_4 : Kd.C k92 w A0_4 l0_4.length l0_4) (hc0_4 : l0_4.length ≤ c0_4) (hr1_4 : Kd.C k92 w A1_4 l1_4.length l1_4) (hc1_4 : l1_4.length ≤ c1_4) (h : switchboardlaw12_Same.f k a0_0 a0_1 a0_2 a0_3 l0_4 a0_5 a0_6 a1_0 a1_1 a1_2 a1_3 l1_4 a1_5 a1_6 = some r) :
    Calls Tryd.prog 24 #[.agg #[.string a0_0, .int .i64 a0_1, .int .u8 a0_2, .bool a0_3, .slice A0_4 l0_4.length c0_4, .string a0_5, .string a0_6], .agg #[.string a1_0, .int .i64 a1_1, .int .u8 a1_2, .bool a1_3, .slice A1_4 l1_4.length c1_4, .string a1_5, .string a1_6]] w fun e w' => e = .returned (.int .i64 r) ∧ Below w.heap.size w w' := by
  have hu56 := Tryd.underlying56
  have HR0_4 := Aside0.mk hr0_4
  have HC0_4 := Aside0.mk hc0_4
  clear hr0_4 hc0_4
  have HR1_4 := Aside0.mk hr1_4
  have HC1_4 := Aside0.mk hc1_4
  clear hr1_4 hc1_4
  have HB := Aside0.mk (Below.refl w.heap.size w)
  have H : (if a0_0.toList = a1_0.toList then (if a0_1 = a1_1 then (if a0_2 = a1_2 then (if (a0_3 == a1_3) = true then ((switchboardref06_Props.f k l0_4 l1_4).bind fun t336 => (if t336 = true then (if a0_5.toList = a1_5.toList then (if a0_6.toList = a1_6.toList then (some 0) else (some (-1))) else (some (-1))) else (some (-1)))) else (some (-1))) else (some (-1))) else (some (-1))) else (some (-1))) = some r := h
  clear h
  by_cases c3 : a0_0.toList = a1_0.toList
  · rw [if_pos c3] at H
    have c3b0 : (a0_0.toList == a1_0.toList) = true := beq_iff_eq.mpr c3
    have c3b1 : (a0_0.toList != a1_0.toList) = false := bne_eq_false_iff_eq.mpr c3
    clear c3
    by_cases c4 : a0_1 = a1_1
    · rw [if_pos c4] at H
      have c4b0 : (a0_1 == a1_1) = true := beq_iff_eq.mpr c4
      have c4b1 : (a0_1 != a1_1) = false := bne_eq_false_iff_eq.mpr c4
      clear c4
      by_cases c5 : a0_2 = a1_2
      · rw [if_pos c5] at H
        have c5b0 : (a0_2 == a1_2) = true := beq_iff_eq.mpr c5
        have c5b1 : (a0_2 != a1_2) = false := bne_eq_false_iff_eq.mpr c5
        clear c5
        by_cases c6 : (a0_3 == a1_3) = true
        · rw [if_pos c6] at H
          have c6b0 : (a0_3 == a1_3) = true := c6
          (try (have c6b1 : decide (a0_3 = a1_3) = true := by simpa using c6))
          (try (have c6b2 : (a0_3 == a1_3) = true := by simpa using c6))
          clear c6
          replace H := Option.bind_eq_some_iff.mp H
          obtain ⟨t336, A70, H⟩ := H
          replace H : (if t336 = true then (if a0_5.toList = a1_5.toList then (if a0_6.toList = a1_6.toList then (some 0) else (some (-1))) else (some (-1))) else (some (-1))) = some r := H
          have A7 := Aside0.mk A70
          clear A70
          by_cases c8 : t336 = true
          · subst c8
            have H1 : (if a0_5.toList = a1_5.toList then (if a0_6.toList = a1_6.toList then (some 0) else (some (-1))) else (some (-1))) = some r := by rw [if_pos rfl] at H; exact H
            clear H
            have H := H1
            clear H1
            by_cases c9 : a0_5.toList = a1_5.toList
            · rw [if_pos c9] at H
              have c9b0 : (a0_5.toList == a1_5.toList) = true := beq_iff_eq.mpr c9
              have c9b1 : (a0_5.toList != a1_5.toList) = false := bne_eq_false_iff_eq.mpr c9
              clear c9
              by_cases c10 : a0_6.toList = a1_6.toList
              · rw [if_pos c10] at H
                have c10b0 : (a0_6.toList == a1_6.toList) = true := beq_iff_eq.mpr c10
                have c10b1 : (a0_6.toList != a1_6.toList) = false := bne_eq_false_iff_eq.mpr c10
                clear c10
                obtain rfl := Option.some.inj H
                go_enter Tryd.func24, Tryd.ntmps24
                go_wp2_with (first | ((with_reducible refine gate_dst (N := 2) rfl ?_); refine box_event ?hg (N := 2) ?hd (cs := #[.string a0_0, .int .i64 a0_1, .int .u8 a0_2, .bool a0_3, .slice A0_4 l0_4.length c0_4, .string a0_5, .string a0_6]) (t := 56) ?hr ?_; (case hd => rfl); (case hg => rfl); (case hr => first | (go_simp; done) | (go_simp; rfl)); intro gb334 hg w11 hbox hb; have n0_ := Aside0.mk (below_step (by repeat (first | (with_reducible first | exact HB.out | apply below_alloc | apply pw_below_drewN | apply below_drew1) | exact HB.out)) hb); have n1_ := Aside0.mk (hbox); have n2_ := Aside0.mk ((by rw [hg]; exact (below_size (by repeat (first | (with_reducible first | exact HB.out | apply below_alloc | apply pw_below_drewN | apply below_drew1) | exact HB.out))) : w.heap.size ≤ gb334)); have n3_ := Aside0.mk ((by rw [hg]; exact (below_size (by repeat (first | (with_reducible first | exact HB.out | apply below_alloc | apply pw_below_drewN | apply below_drew1) | exact HB.out))) : w.heap.size ≤ gb334)); clear HB; have HB := n0_; have BK334 := n1_; have GW334 := n2_; have GE334 := n3_; clear n0_ n1_ n2_ n3_; clear hb hbox hg) | ((with_reducible refine gate_dst (N := 3) rfl ?_); refine box_event ?hg (N := 3) ?hd (cs := #[.string a1_0, .int .i64 a1_1, .int .u8 a1_2, .bool a1_3, .slice A1_4 l1_4.length c1_4, .string a1_5, .string a1_6]) (t := 56) ?hr ?_; (case hd => rfl); (case hg => rfl); (case hr => first | (go_simp; done) | (go_simp; rfl)); intro gb335 hg w12 hbox hb; have n0_ := Aside0.mk (blk_below (g := gb334) (o := .cells #[.string a0_0, .int .i64 a0_1, .int .u8 a0_2, .bool a0_3, .slice A0_4 l0_4.length c0_4, .string a0_5, .string a0_6] 56 (0, 0)) (by (with_reducible repeat (first | refine blk_drewN ?_ _ | refine blk_drew ?_ | refine blk_alloc ?_ _)); exact BK334.out) hb); have n1_ := Aside0.mk (below_step (by repeat (first | (with_reducible first | exact HB.out | apply below_alloc | apply pw_below_drewN | apply below_drew1 | refine below_set ?_ GE334.out) | exact HB.out)) hb); have n2_ := Aside0.mk (hbox); have n3_ := Aside0.mk ((by rw [hg]; exact (below_size (by repeat (first | (with_reducible first | exact HB.out | apply below_alloc | apply pw_below_drewN | apply below_drew1 | refine below_set ?_ GE334.out) | exact HB.out))) : w.heap.size ≤ gb335)); have n4_ := Aside0.mk ((by rw [hg]; exact (below_size (by repeat (first | (with_reducible first | exact HB.out | apply below_alloc | apply pw_below_drewN | apply below_drew1 | refine below_set ?_ GE334.out) | exact HB.out))) : w.heap.size ≤ gb335)); have n5_ := Aside0.mk ((by rw [hg]; exact Nat.ne_of_lt (blk_lt (g := gb334) (o := .cells #[.string a0_0, .int .i64 a0_1, .int .u8 a0_2, .bool a0_3, .slice A0_4 l0_4.length c0_4, .string a0_5, .string a0_6] 56 (0, 0)) (by (with_reducible repeat (first | refine blk_drewN ?_ _ | refine blk_drew ?_ | refine blk_alloc ?_ _)); exact BK334.out)) : gb334 ≠ gb335)); have n6_ := Aside0.mk ((by rw [hg]; exact Nat.ne_of_gt (blk_lt (g := gb334) (o := .cells #[.string a0_0, .int .i64 a0_1, .int .u8 a0_2, .bool a0_3, .slice A0_4 l0_4.length c0_4, .string a0_5, .string a0_6] 56 (0, 0)) (by (with_reducible repeat (first | refine blk_drewN ?_ _ | refine blk_drew ?_ | refine blk_alloc ?_ _)); exact BK334.out)) : gb335 ≠ gb334)); clear BK334; clear HB; have BK334 := n0_; have HB := n1_; have BK335 := n2_; have GW335 := n3_; have GE335 := n4_; have NB334_335 := n5_; have NB335_334 := n6_; clear n0_ n1_ n2_ n3_ n4_ n5_ n6_; clear hb hbox hg; have hnb13 := NB334_335.out; have hnc13 := NB335_334.out; have hcz14_0 : w12.cell? ⟨gb334, 0, none⟩ = some (.string a0_0) := (blk_cell BK334.out 0).trans rfl; have hcz14_1 : w12.cell? ⟨gb334, 1, none⟩ = some (.int .i64 a0_1) := (blk_cell BK334.out 1).trans rfl; have hcz14_2 : w12.cell? ⟨gb334, 2, none⟩ = some (.int .u8 a0_2) := (blk_cell BK334.out 2).trans rfl; have hcz14_3 : w12.cell? ⟨gb334, 3, none⟩ = some (.bool a0_3) := (blk_cell BK334.out 3).trans rfl; have hcz14_4 : w12.cell? ⟨gb334, 4, none⟩ = some (.slice A0_4 l0_4.length c0_4) := (blk_cell BK334.out 4).trans rfl; have hcz14_5 : w12.cell? ⟨gb334, 5, none⟩ = some (.string a0_5) := (blk_cell BK334.out 5).trans rfl; have hcz14_6 : w12.cell? ⟨gb334, 6, none⟩ = some (.string a0_6) := (blk_cell BK334.out 6).trans rfl; have hfz14_0 := blk_frozen BK334.out 0; have hfz14_1 := blk_frozen BK334.out 1; have hfz14_2 := blk_frozen BK334.out 2; have hfz14_3 := blk_frozen BK334.out 3; have hfz14_4 := blk_frozen BK334.out 4; have hfz14_5 := blk_frozen BK334.out 5; have hfz14_6 := blk_frozen BK334.out 6; have hcz15_0 : w12.cell? ⟨gb335, 0, none⟩ = some (.string a1_0) := (blk_cell BK335.out 0).trans rfl; have hcz15_1 : w12.cell? ⟨gb335, 1, none⟩ = some (.int .i64 a1_1) := (blk_cell BK335.out 1).trans rfl; have hcz15_2 : w12.cell? ⟨gb335, 2, none⟩ = some (.int .u8 a1_2) := (blk_cell BK335.out 2).trans rfl; have hcz15_3 : w12.cell? ⟨gb335, 3, none⟩ = some (.bool a1_3) := (blk_cell BK335.out 3).trans rfl; have hcz15_4 : w12.cell? ⟨gb335, 4, none⟩ = some (.slice A1_4 l1_4.length c1_4) := (blk_cell BK335.out 4).trans rfl; have hcz15_5 : w12.cell? ⟨gb335, 5, none⟩ = some (.string a1_5) := (blk_cell BK335.out 5).trans rfl; have hcz15_6 : w12.cell? ⟨gb335, 6, none⟩ = some (.string a1_6) := (blk_cell BK335.out 6).trans rfl; have hfz15_0 := blk_frozen BK335.out 0; have hfz15_1 := blk_frozen BK335.out 1; have hfz15_2 := blk_frozen BK335.out 2; have hfz15_3 := blk_frozen BK335.out 3; have hfz15_4 := blk_frozen BK335.out 4; have hfz15_5 := blk_frozen BK335.out 5; have hfz15_6 := blk_frozen BK335.out 6) | (go_at_call 43; (with_reducible refine (switchboardref06_Props.calls k _ _ l0_4 _ _ l1_4 true _ ?side1 ?side2 ?side3 ?side4 A7.out).mono ?_); (case side1 => repeat (first | exact (Kd.C_below HR0_4.out HB.out) | (with_reducible refine Kd.C_alloc ?_ _) | (with_reducible refine Kd.C_drewN ?_ _) | (with_reducible refine Kd.C_drew ?_))); (case side2 => exact HC0_4.out); (case side3 => repeat (first | exact (Kd.C_below HR1_4.out HB.out) | (with_reducible refine Kd.C_alloc ?_ _) | (with_reducible refine Kd.C_drewN ?_ _) | (with_reducible refine Kd.C_drew ?_))); (case side4 => exact HC1_4.out); rintro e w' ⟨rfl, ⟨nd, rfl⟩⟩))
                go_ret
                exact ⟨by first | rfl | (simp [errW_none, errW_some] <;> rfl) | (simp [*, errW_none, errW_some] <;> rfl), by repeat (first | (with_reducible first | exact HB.out | apply below_alloc | apply pw_below_drewN | apply below_drew1 | refine below_set ?_ GE334.out | refine below_set ?_ GE335.out) | exact HB.out)⟩
              · rw [if_neg c10] at H
                have c10b0 : (a0_6.toList == a1_6.toList) = false := beq_eq_false_iff_ne.mpr c10
                have c10b1 : (a0_6.toList != a1_6.toList) = true := bne_iff_ne.mpr c10
                obtain rfl := Option.some.inj H
                go_enter Tryd.func24, Tryd.ntmps24
                go_wp2_with (first | ((with_reducible refine gate_dst (N := 2) rfl ?_); refine box_event ?hg (N := 2) ?hd (cs := #[.string a0_0, .int .i64 a0_1, .int .u8 a0_2, .bool a0_3, .slice A0_4 l0_4.length c0_4, .string a0_5, .string a0_6]) (t := 56) ?hr ?_; (case hd => rfl); (case hg => rfl); (case hr => first | (go_simp; done) | (go_simp; rfl)); intro gb334 hg w16 hbox hb; have n0_ := Aside0.mk (below_step (by repeat (first | (with_reducible first | exact HB.out | apply below_alloc | apply pw_below_drewN | apply below_drew1) | exact HB.out)) hb); have n1_ := Aside0.mk (hbox); have n2_ := Aside0.mk ((by rw [hg]; exact (below_size (by repeat (first | (with_reducible first | exact HB.out | apply below_alloc | apply pw_below_drewN | apply below_drew1) | exact HB.out))) : w.heap.size ≤ gb334)); have n3_ := Aside0.mk ((by rw [hg]; exact (below_size (by repeat (first | (with_reducible first | exact HB.out | apply below_alloc | apply pw_below_drewN | apply below_drew1) | exact HB.out))) : w.heap.size ≤ gb334)); clear HB; have HB := n0_; have BK334 := n1_; have GW334 := n2_; have GE334 := n3_; clear n0_ n1_ n2_ n3_; clear hb hbox hg) | ((with_reducible refine gate_dst (N := 3) rfl ?_); refine box_event ?hg (N := 3) ?hd (cs := #[.string a1_0, .int .i64 a1_1, .int .u8 a1_2, .bool a1_3, .slice A1_4 l1_4.length c1_4, .string a1_5, .string a1_6]) (t := 56) ?hr ?_; (case hd => rfl); (case hg => rfl); (case hr => first | (go_simp; done) | (go_simp; rfl)); intro gb335 hg w17 hbox hb; have n0_ := Aside0.mk (blk_below (g := gb334) (o := .cells #[.string a0_0, .int .i64 a0_1, .int .u8 a0_2, .bool a0_3, .slice A0_4 l0_4.length c0_4, .string a0_5, .string a0_6] 56 (0, 0)) (by (with_reducible repeat (first | refine blk_drewN ?_ _ | refine blk_drew ?_ | refine blk_alloc ?_ _)); exact BK334.out) hb); have n1_ := Aside0.mk (below_step (by repeat (first | (with_reducible first | exact HB.out | apply below_alloc | apply pw_below_drewN | apply below_drew1 | refine below_set ?_ GE334.out) | exact HB.out)) hb); have n2_ := Aside0.mk (hbox); have n3_ := Aside0.mk ((by rw [hg]; exact (below_size (by repeat (first | (with_reducible first | exact HB.out | apply below_alloc | apply pw_below_drewN | apply below_drew1 | refine below_set ?_ GE334.out) | exact HB.out))) : w.heap.size ≤ gb335)); have n4_ := Aside0.mk ((by rw [hg]; exact (below_size (by repeat (first | (with_reducible first | exact HB.out | apply below_alloc | apply pw_below_drewN | apply below_drew1 | refine below_set ?_ GE334.out) | exact HB.out))) : w.heap.size ≤ gb335)); have n5_ := Aside0.mk ((by rw [hg]; exact Nat.ne_of_lt (blk_lt (g := gb334) (o := .cells #[.string a0_0, .int .i64 a0_1, .int .u8 a0_2, .bool a0_3, .slice A0_4 l0_4.length c0_4, .string a0_5, .string a0_6] 56 (0, 0)) (by (with_reducible repeat (first | refine blk_drewN ?_ _ | refine blk_drew ?_ | refine blk_alloc ?_ _)); exact BK334.out)) : gb334 ≠ gb335)); have n6_ := Aside0.mk ((by rw [hg]; exact Nat.ne_of_gt (blk_lt (g := gb334) (o := .cells #[.string a0_0, .int .i64 a0_1, .int .u8 a0_2, .bool a0_3, .slice A0_4 l0_4.length c0_4, .string a0_5, .string a0_6] 56 (0, 0)) (by (with_reducible repeat (first | refine blk_drewN ?_ _ | refine blk_drew ?_ | refine blk_alloc ?_ _)); exact BK334.out)) : gb335 ≠ gb334)); clear BK334; clear HB; have BK334 := n0_; have HB := n1_; have BK335 := n2_; have GW335 := n3_; have GE335 := n4_; have NB334_335 := n5_; have NB335_334 := n6_; clear n0_ n1_ n2_ n3_ n4_ n5_ n6_; clear hb hbox hg; have hnb18 := NB334_335.out; have hnc18 := NB335_334.out; have hcz19_0 : w17.cell? ⟨gb334, 0, none⟩ = some (.string a0_0) := (blk_cell BK334.out 0).trans rfl; have hcz19_1 : w17.cell? ⟨gb334, 1, none⟩ = some (.int .i64 a0_1) := (blk_cell BK334.out 1).trans rfl; have hcz19_2 : w17.cell? ⟨gb334, 2, none⟩ = some (.int .u8 a0_2) := (blk_cell BK334.out 2).trans rfl; have hcz19_3 : w17.cell? ⟨gb334, 3, none⟩ = some (.bool a0_3) := (blk_cell BK334.out 3).trans rfl; have hcz19_4 : w17.cell? ⟨gb334, 4, none⟩ = some (.slice A0_4 l0_4.length c0_4) := (blk_cell BK334.out 4).trans rfl; have hcz19_5 : w17.cell? ⟨gb334, 5, none⟩ = some (.string a0_5) := (blk_cell BK334.out 5).trans rfl; have hcz19_6 : w17.cell? ⟨gb334, 6, none⟩ = some (.string a0_6) := (blk_cell BK334.out 6).trans rfl; have hfz19_0 := blk_frozen BK334.out 0; have hfz19_1 := blk_frozen BK334.out 1; have hfz19_2 := blk_frozen BK334.out 2; have hfz19_3 := blk_frozen BK334.out 3; have hfz19_4 := blk_frozen BK334.out 4; have hfz19_5 := blk_frozen BK334.out 5; have hfz19_6 := blk_frozen BK334.out 6; have hcz20_0 : w17.cell? ⟨gb335, 0, none⟩ = some (.string a1_0) := (blk_cell BK335.out 0).trans rfl; have hcz20_1 : w17.cell? ⟨gb335, 1, none⟩ = some (.int .i64 a1_1) := (blk_cell BK335.out 1).trans rfl; have hcz20_2 : w17.cell? ⟨gb335, 2, none⟩ = some (.int .u8 a1_2) := (blk_cell BK335.out 2).trans rfl; have hcz20_3 : w17.cell? ⟨gb335, 3, none⟩ = some (.bool a1_3) := (blk_cell BK335.out 3).trans rfl; have hcz20_4 : w17.cell? ⟨gb335, 4, none⟩ = some (.slice A1_4 l1_4.length c1_4) := (blk_cell BK335.out 4).trans rfl; have hcz20_5 : w17.cell? ⟨gb335, 5, none⟩ = some (.string a1_5) := (blk_cell BK335.out 5).trans rfl; have hcz20_6 : w17.cell? ⟨gb335, 6, none⟩ = some (.string a1_6) := (blk_cell BK335.out 6).trans rfl; have hfz20_0 := blk_frozen BK335.out 0; have hfz20_1 := blk_frozen BK335.out 1; have hfz20_2 := blk_frozen BK335.out 2; have hfz20_3 := blk_frozen BK335.out 3; have hfz20_4 := blk_frozen BK335.out 4; have hfz20_5 := blk_frozen BK335.out 5; have hfz20_6 := blk_frozen BK335.out 6) | (go_at_call 43; (with_reducible refine (switchboardref06_Props.calls k _ _ l0_4 _ _ l1_4 true _ ?side1 ?side2 ?side3 ?side4 A7.out).mono ?_); (case side1 => repeat (first | exact (Kd.C_below HR0_4.out HB.out) | (with_reducible refine Kd.C_alloc ?_ _) | (with_reducible refine Kd.C_drewN ?_ _) | (with_reducible refine Kd.C_drew ?_))); (case side2 => exact HC0_4.out); (case side3 => repeat (first | exact (Kd.C_below HR1_4.out HB.out) | (with_reducible refine Kd.C_alloc ?_ _) | (with_reducible refine Kd.C_drewN ?_ _) | (with_reducible refine Kd.C_drew ?_))); (case side4 => exact HC1_4.out); rintro e w' ⟨rfl, ⟨nd, rfl⟩⟩))
                go_ret
                exact ⟨by first | rfl | (simp [errW_none, errW_some] <;> rfl) | (simp [*, errW_none, errW_some] <;> rfl), by repeat (first | (with_reducible first | exact HB.out | apply below_alloc | apply pw_below_drewN | apply below_drew1 | refine below_set ?_ GE334.out | refine below_set ?_ GE335.out) | exact HB.out)⟩
            · rw [if_neg c9] at H
              have c9b0 : (a0_5.toList == a1_5.toList) = false := beq_eq_false_iff_ne.mpr c9
              have c9b1 : (a0_5.toList != a1_5.toList) = true := bne_iff_ne.mpr c9
              obtain rfl := Option.some.inj H
              go_enter Tryd.func24, Tryd.ntmps24
              go_wp2_with (first | ((with_reducible refine gate_dst (N := 2) rfl ?_); refine box_event ?hg (N := 2) ?hd (cs := #[.string a0_0, .int .i64 a0_1, .int .u8 a0_2, .bool a0_3, .slice A0_4 l0_4.length c0_4, .string a0_5, .string a0_6]) (t := 56) ?hr ?_; (case hd => rfl); (case hg => rfl); (case hr => first | (go_simp; done) | (go_simp; rfl)); intro gb334 hg w21 hbox hb; have n0_ := Aside0.mk (below_step (by repeat (first | (with_reducible first | exact HB.out | apply below_alloc | apply pw_below_drewN | apply below_drew1) | exact HB.out)) hb); have n1_ := Aside0.mk (hbox); have n2_ := Aside0.mk ((by rw [hg]; exact (below_size (by repeat (first | (with_reducible first | exact HB.out | apply below_alloc | apply pw_below_drewN | apply below_drew1) | exact HB.out))) : w.heap.size ≤ gb334)); have n3_ := Aside0.mk ((by rw [hg]; exact (below_size (by repeat (first | (with_reducible first | exact HB.out | apply below_alloc | apply pw_below_drewN | apply below_drew1) | exact HB.out))) : w.heap.size ≤ gb334)); clear HB; have HB := n0_; have BK334 := n1_; have GW334 := n2_; have GE334 := n3_; clear n0_ n1_ n2_ n3_; clear hb hbox hg) | ((with_reducible refine gate_dst (N := 3) rfl ?_); refine box_event ?hg (N := 3) ?hd (cs := #[.string a1_0, .int .i64 a1_1, .int .u8 a1_2, .bool a1_3, .slice A1_4 l1_4.length c1_4, .string a1_5, .string a1_6]) (t := 56) ?hr ?_; (case hd => rfl); (case hg => rfl); (case hr => first | (go_simp; done) | (go_simp; rfl)); intro gb335 hg w22 hbox hb; have n0_ := Aside0.mk (blk_below (g := gb334) (o := .cells #[.string a0_0, .int .i64 a0_1, .int .u8 a0_2, .bool a0_3, .slice A0_4 l0_4.length c0_4, .string a0_5, .string a0_6] 56 (0, 0)) (by (with_reducible repeat (first | refine blk_drewN ?_ _ | refine blk_drew ?_ | refine blk_alloc ?_ _)); exact BK334.out) hb); have n1_ := Aside0.mk (below_step (by repeat (first | (with_reducible first | exact HB.out | apply below_alloc | apply pw_below_drewN | apply below_drew1 | refine below_set ?_ GE334.out) | exact HB.out)) hb); have n2_ := Aside0.mk (hbox); have n3_ := Aside0.mk ((by rw [hg]; exact (below_size (by repeat (first | (with_reducible first | exact HB.out | apply below_alloc | apply pw_below_drewN | apply below_drew1 | refine below_set ?_ GE334.out) | exact HB.out))) : w.heap.size ≤ gb335)); have n4_ := Aside0.mk ((by rw [hg]; exact (below_size (by repeat (first | (with_reducible first | exact HB.out | apply below_alloc | apply pw_below_drewN | apply below_drew1 | refine below_set ?_ GE334.out) | exact HB.out))) : w.heap.size ≤ gb335)); have n5_ := Aside0.mk ((by rw [hg]; exact Nat.ne_of_lt (blk_lt (g := gb334) (o := .cells #[.string a0_0, .int .i64 a0_1, .int .u8 a0_2, .bool a0_3, .slice A0_4 l0_4.length c0_4, .string a0_5, .string a0_6] 56 (0, 0)) (by (with_reducible repeat (first | refine blk_drewN ?_ _ | refine blk_drew ?_ | refine blk_alloc ?_ _)); exact BK334.out)) : gb334 ≠ gb335)); have n6_ := Aside0.mk ((by rw [hg]; exact Nat.ne_of_gt (blk_lt (g := gb334) (o := .cells #[.string a0_0, .int .i64 a0_1, .int .u8 a0_2, .bool a0_3, .slice A0_4 l0_4.length c0_4, .string a0_5, .string a0_6] 56 (0, 0)) (by (with_reducible repeat (first | refine blk_drewN ?_ _ | refine blk_drew ?_ | refine blk_alloc ?_ _)); exact BK334.out)) : gb335 ≠ gb334)); clear BK334; clear HB; have BK334 := n0_; have HB := n1_; have BK335 := n2_; have GW335 := n3_; have GE335 := n4_; have NB334_335 := n5_; have NB335_334 := n6_; clear n0_ n1_ n2_ n3_ n4_ n5_ n6_; clear hb hbox hg; have hnb23 := NB334_335.out; have hnc23 := NB335_334.out; have hcz24_0 : w22.cell? ⟨gb334, 0, none⟩ = some (.string a0_0) := (blk_cell BK334.out 0).trans rfl; have hcz24_1 : w22.cell? ⟨gb334, 1, none⟩ = some (.int .i64 a0_1) := (blk_cell BK334.out 1).trans rfl; have hcz24_2 : w22.cell? ⟨gb334, 2, none⟩ = some (.int .u8 a0_2) := (blk_cell BK334.out 2).trans rfl; have hcz24_3 : w22.cell? ⟨gb334, 3, none⟩ = some (.bool a0_3) := (blk_cell BK334.out 3).trans rfl; have hcz24_4 : w22.cell? ⟨gb334, 4, none⟩ = some (.slice A0_4 l0_4.length c0_4) := (blk_cell BK334.out 4).trans rfl; have hcz24_5 : w22.cell? ⟨gb334, 5, none⟩ = some (.string a0_5) := (blk_cell BK334.out 5).trans rfl; have hcz24_6 : w22.cell? ⟨gb334, 6, none⟩ = some (.string a0_6) := (blk_cell BK334.out 6).trans rfl; have hfz24_0 := blk_frozen BK334.out 0; have hfz24_1 := blk_frozen BK334.out 1; have hfz24_2 := blk_frozen BK334.out 2; have hfz24_3 := blk_frozen BK334.out 3; have hfz24_4 := blk_frozen BK334.out 4; have hfz24_5 := blk_frozen BK334.out 5; have hfz24_6 := blk_frozen BK334.out 6; have hcz25_0 : w22.cell? ⟨gb335, 0, none⟩ = some (.string a1_0) := (blk_cell BK335.out 0).trans rfl; have hcz25_1 : w22.cell? ⟨gb335, 1, none⟩ = some (.int .i64 a1_1) := (blk_cell BK335.out 1).trans rfl; have hcz25_2 : w22.cell? ⟨gb335, 2, none⟩ = some (.int .u8 a1_2) := (blk_cell BK335.out 2).trans rfl; have hcz25_3 : w22.cell? ⟨gb335, 3, none⟩ = some (.bool a1_3) := (blk_cell BK335.out 3).trans rfl; have hcz25_4 : w22.cell? ⟨gb335, 4, none⟩ = some (.slice A1_4 l1_4.length c1_4) := (blk_cell BK335.out 4).trans rfl; have hcz25_5 : w22.cell? ⟨gb335, 5, none⟩ = some (.string a1_5) := (blk_cell BK335.out 5).trans rfl; have hcz25_6 : w22.cell? ⟨gb335, 6, none⟩ = some (.string a1_6) := (blk_cell BK335.out 6).trans rfl; have hfz25_0 := blk_frozen BK335.out 0; have hfz25_1 := blk_frozen BK335.out 1; have hfz25_2 := blk_frozen BK335.out 2; have hfz25_3 := blk_frozen BK335.out 3; have hfz25_4 := blk_frozen BK335.out 4; have hfz25_5 := blk_frozen BK335.out 5; have hfz25_6 := blk_frozen BK335.out 6) | (go_at_call 43; (with_reducible refine (switchboardref06_Props.calls k _ _ l0_4 _ _ l1_4 true _ ?side1 ?side2 ?side3 ?side4 A7.out).mono ?_); (case side1 => repeat (first | exact (Kd.C_below HR0_4.out HB.out) | (with_reducible refine Kd.C_alloc ?_ _) | (with_reducible refine Kd.C_drewN ?_ _) | (with_reducible refine Kd.C_drew ?_))); (case side2 => exact HC0_4.out); (case side3 => repeat (first | exact (Kd.C_below HR1_4.out HB.out) | (with_reducible refine Kd.C_alloc ?_ _) | (with_reducible refine Kd.C_drewN ?_ _) | (with_reducible refine Kd.C_drew ?_))); (case side4 => exact HC1_4.out); rintro e w' ⟨rfl, ⟨nd, rfl⟩⟩))
              go_ret
              exact ⟨by first | rfl | (simp [errW_none, errW_some] <;> rfl) | (simp [*, errW_none, errW_some] <;> rfl), by repeat (first | (with_reducible first | exact HB.out | apply below_alloc | apply pw_below_drewN | apply below_drew1 | refine below_set ?_ GE334.out | refine below_set ?_ GE335.out) | exact HB.out)⟩
          · replace c8 := Bool.eq_false_iff.mpr c8
            subst c8
            have H1 : (some (-1)) = some r := by rw [if_neg (show ¬ (false = true) by decide)] at H; exact H
            clear H
            have H := H1
            clear H1
            obtain rfl := Option.some.inj H
            go_enter Tryd.func24, Tryd.ntmps24
            go_wp2_with (first | ((with_reducible refine gate_dst (N := 2) rfl ?_); refine box_event ?hg (N := 2) ?hd (cs := #[.string a0_0, .int .i64 a0_1, .int .u8 a0_2, .bool a0_3, .slice A0_4 l0_4.length c0_4, .string a0_5, .string a0_6]) (t := 56) ?hr ?_; (case hd => rfl); (case hg => rfl); (case hr => first | (go_simp; done) | (go_simp; rfl)); intro gb334 hg w26 hbox hb; have n0_ := Aside0.mk (below_step (by repeat (first | (with_reducible first | exact HB.out | apply below_alloc | apply pw_below_drewN | apply below_drew1) | exact HB.out)) hb); have n1_ := Aside0.mk (hbox); have n2_ := Aside0.mk ((by rw [hg]; exact (below_size (by repeat (first | (with_reducible first | exact HB.out | apply below_alloc | apply pw_below_drewN | apply below_drew1) | exact HB.out))) : w.heap.size ≤ gb334)); have n3_ := Aside0.mk ((by rw [hg]; exact (below_size (by repeat (first | (with_reducible first | exact HB.out | apply below_alloc | apply pw_below_drewN | apply below_drew1) | exact HB.out))) : w.heap.size ≤ gb334)); clear HB; have HB := n0_; have BK334 := n1_; have GW334 := n2_; have GE334 := n3_; clear n0_ n1_ n2_ n3_; clear hb hbox hg) | ((with_reducible refine gate_dst (N := 3) rfl ?_); refine box_event ?hg (N := 3) ?hd (cs := #[.string a1_0, .int .i64 a1_1, .int .u8 a1_2, .bool a1_3, .slice A1_4 l1_4.length c1_4, .string a1_5, .string a1_6]) (t := 56) ?hr ?_; (case hd => rfl); (case hg => rfl); (case hr => first | (go_simp; done) | (go_simp; rfl)); intro gb335 hg w27 hbox hb; have n0_ := Aside0.mk (blk_below (g := gb334) (o := .cells #[.string a0_0, .int .i64 a0_1, .int .u8 a0_2, .bool a0_3, .slice A0_4 l0_4.length c0_4, .string a0_5, .string a0_6] 56 (0, 0)) (by (with_reducible repeat (first | refine blk_drewN ?_ _ | refine blk_drew ?_ | refine blk_alloc ?_ _)); exact BK334.out) hb); have n1_ := Aside0.mk (below_step (by repeat (first | (with_reducible first | exact HB.out | apply below_alloc | apply pw_below_drewN | apply below_drew1 | refine below_set ?_ GE334.out) | exact HB.out)) hb); have n2_ := Aside0.mk (hbox); have n3_ := Aside0.mk ((by rw [hg]; exact (below_size (by repeat (first | (with_reducible first | exact HB.out | apply below_alloc | apply pw_below_drewN | apply below_drew1 | refine below_set ?_ GE334.out) | exact HB.out))) : w.heap.size ≤ gb335)); have n4_ := Aside0.mk ((by rw [hg]; exact (below_size (by repeat (first | (with_reducible first | exact HB.out | apply below_alloc | apply pw_below_drewN | apply below_drew1 | refine below_set ?_ GE334.out) | exact HB.out))) : w.heap.size ≤ gb335)); have n5_ := Aside0.mk ((by rw [hg]; exact Nat.ne_of_lt (blk_lt (g := gb334) (o := .cells #[.string a0_0, .int .i64 a0_1, .int .u8 a0_2, .bool a0_3, .slice A0_4 l0_4.length c0_4, .string a0_5, .string a0_6] 56 (0, 0)) (by (with_reducible repeat (first | refine blk_drewN ?_ _ | refine blk_drew ?_ | refine blk_alloc ?_ _)); exact BK334.out)) : gb334 ≠ gb335)); have n6_ := Aside0.mk ((by rw [hg]; exact Nat.ne_of_gt (blk_lt (g := gb334) (o := .cells #[.string a0_0, .int .i64 a0_1, .int .u8 a0_2, .bool a0_3, .slice A0_4 l0_4.length c0_4, .string a0_5, .string a0_6] 56 (0, 0)) (by (with_reducible repeat (first | refine blk_drewN ?_ _ | refine blk_drew ?_ | refine blk_alloc ?_ _)); exact BK334.out)) : gb335 ≠ gb334)); clear BK334; clear HB; have BK334 := n0_; have HB := n1_; have BK335 := n2_; have GW335 := n3_; have GE335 := n4_; have NB334_335 := n5_; have NB335_334 := n6_; clear n0_ n1_ n2_ n3_ n4_ n5_ n6_; clear hb hbox hg; have hnb28 := NB334_335.out; have hnc28 := NB335_334.out; have hcz29_0 : w27.cell? ⟨gb334, 0, none⟩ = some (.string a0_0) := (blk_cell BK334.out 0).trans rfl; have hcz29_1 : w27.cell? ⟨gb334, 1, none⟩ = some (.int .i64 a0_1) := (blk_cell BK334.out 1).trans rfl; have hcz29_2 : w27.cell? ⟨gb334, 2, none⟩ = some (.int .u8 a0_2) := (blk_cell BK334.out 2).trans rfl; have hcz29_3 : w27.cell? ⟨gb334, 3, none⟩ = some (.bool a0_3) := (blk_cell BK334.out 3).trans rfl; have hcz29_4 : w27.cell? ⟨gb334, 4, none⟩ = some (.slice A0_4 l0_4.length c0_4) := (blk_cell BK334.out 4).trans rfl; have hcz29_5 : w27.cell? ⟨gb334, 5, none⟩ = some (.string a0_5) := (blk_cell BK334.out 5).trans rfl; have hcz29_6 : w27.cell? ⟨gb334, 6, none⟩ = some (.string a0_6) := (blk_cell BK334.out 6).trans rfl; have hfz29_0 := blk_frozen BK334.out 0; have hfz29_1 := blk_frozen BK334.out 1; have hfz29_2 := blk_frozen BK334.out 2; have hfz29_3 := blk_frozen BK334.out 3; have hfz29_4 := blk_frozen BK334.out 4; have hfz29_5 := blk_frozen BK334.out 5; have hfz29_6 := blk_frozen BK334.out 6; have hcz30_0 : w27.cell? ⟨gb335, 0, none⟩ = some (.string a1_0) := (blk_cell BK335.out 0).trans rfl; have hcz30_1 : w27.cell? ⟨gb335, 1, none⟩ = some (.int .i64 a1_1) := (blk_cell BK335.out 1).trans rfl; have hcz30_2 : w27.cell? ⟨gb335, 2, none⟩ = some (.int .u8 a1_2) := (blk_cell BK335.out 2).trans rfl; have hcz30_3 : w27.cell? ⟨gb335, 3, none⟩ = some (.bool a1_3) := (blk_cell BK335.out 3).trans rfl; have hcz30_4 : w27.cell? ⟨gb335, 4, none⟩ = some (.slice A1_4 l1_4.length c1_4) := (blk_cell BK335.out 4).trans rfl; have hcz30_5 : w27.cell? ⟨gb335, 5, none⟩ = some (.string a1_5) := (blk_cell BK335.out 5).trans rfl; have hcz30_6 : w27.cell? ⟨gb335, 6, none⟩ = some (.string a1_6) := (blk_cell BK335.out 6).trans rfl; have hfz30_0 := blk_frozen BK335.out 0; have hfz30_1 := blk_frozen BK335.out 1; have hfz30_2 := blk_frozen BK335.out 2; have hfz30_3 := blk_frozen BK335.out 3; have hfz30_4 := blk_frozen BK335.out 4; have hfz30_5 := blk_frozen BK335.out 5; have hfz30_6 := blk_frozen BK335.out 6) | (go_at_call 43; (with_reducible refine (switchboardref06_Props.calls k _ _ l0_4 _ _ l1_4 false _ ?side1 ?side2 ?side3 ?side4 A7.out).mono ?_); (case side1 => repeat (first | exact (Kd.C_below HR0_4.out HB.out) | (with_reducible refine Kd.C_alloc ?_ _) | (with_reducible refine Kd.C_drewN ?_ _) | (with_reducible refine Kd.C_drew ?_))); (case side2 => exact HC0_4.out); (case side3 => repeat (first | exact (Kd.C_below HR1_4.out HB.out) | (with_reducible refine Kd.C_alloc ?_ _) | (with_reducible refine Kd.C_drewN ?_ _) | (with_reducible refine Kd.C_drew ?_))); (case side4 => exact HC1_4.out); rintro e w' ⟨rfl, ⟨nd, rfl⟩⟩))
            go_ret
            exact ⟨by first | rfl | (simp [errW_none, errW_some] <;> rfl) | (simp [*, errW_none, errW_some] <;> rfl), by repeat (first | (with_reducible first | exact HB.out | apply below_alloc | apply pw_below_drewN | apply below_drew1 | refine below_set ?_ GE334.out | refine below_set ?_ GE335.out) | exact HB.out)⟩
        · rw [if_neg c6] at H
          have c6b0 : (a0_3 == a1_3) = false := by simpa using c6
          (try (have c6b1 : decide (a0_3 = a1_3) = false := by simpa using c6))
          (try (have c6b2 : (a0_3 == a1_3) = false := by simpa using c6))
          (try (have c6b3 : ¬ (a0_3 = a1_3) := by simpa using c6))
          clear c6
          obtain rfl := Option.some.inj H
          go_enter Tryd.func24, Tryd.ntmps24
          go_wp2_with (first | ((with_reducible refine gate_dst (N := 2) rfl ?_); refine box_event ?hg (N := 2) ?hd (cs := #[.string a0_0, .int .i64 a0_1, .int .u8 a0_2, .bool a0_3, .slice A0_4 l0_4.length c0_4, .string a0_5, .string a0_6]) (t := 56) ?hr ?_; (case hd => rfl); (case hg => rfl); (case hr => first | (go_simp; done) | (go_simp; rfl)); intro gb334 hg w31 hbox hb; have n0_ := Aside0.mk (below_step (by repeat (first | (with_reducible first | exact HB.out | apply below_alloc | apply pw_below_drewN | apply below_drew1) | exact HB.out)) hb); have n1_ := Aside0.mk (hbox); have n2_ := Aside0.mk ((by rw [hg]; exact (below_size (by repeat (first | (with_reducible first | exact HB.out | apply below_alloc | apply pw_below_drewN | apply below_drew1) | exact HB.out))) : w.heap.size ≤ gb334)); have n3_ := Aside0.mk ((by rw [hg]; exact (below_size (by repeat (first | (with_reducible first | exact HB.out | apply below_alloc | apply pw_below_drewN | apply below_drew1) | exact HB.out))) : w.heap.size ≤ gb334)); clear HB; have HB := n0_; have BK334 := n1_; have GW334 := n2_; have GE334 := n3_; clear n0_ n1_ n2_ n3_; clear hb hbox hg) | ((with_reducible refine gate_dst (N := 3) rfl ?_); refine box_event ?hg (N := 3) ?hd (cs := #[.string a1_0, .int .i64 a1_1, .int .u8 a1_2, .bool a1_3, .slice A1_4 l1_4.length c1_4, .string a1_5, .string a1_6]) (t := 56) ?hr ?_; (case hd => rfl); (case hg => rfl); (case hr => first | (go_simp; done) | (go_simp; rfl)); intro gb335 hg w32 hbox hb; have n0_ := Aside0.mk (blk_below (g := gb334) (o := .cells #[.string a0_0, .int .i64 a0_1, .int .u8 a0_2, .bool a0_3, .slice A0_4 l0_4.length c0_4, .string a0_5, .string a0_6] 56 (0, 0)) (by (with_reducible repeat (first | refine blk_drewN ?_ _ | refine blk_drew ?_ | refine blk_alloc ?_ _)); exact BK334.out) hb); have n1_ := Aside0.mk (below_step (by repeat (first | (with_reducible first | exact HB.out | apply below_alloc | apply pw_below_drewN | apply below_drew1 | refine below_set ?_ GE334.out) | exact HB.out)) hb); have n2_ := Aside0.mk (hbox); have n3_ := Aside0.mk ((by rw [hg]; exact (below_size (by repeat (first | (with_reducible first | exact HB.out | apply below_alloc | apply pw_below_drewN | apply below_drew1 | refine below_set ?_ GE334.out) | exact HB.out))) : w.heap.size ≤ gb335)); have n4_ := Aside0.mk ((by rw [hg]; exact (below_size (by repeat (first | (with_reducible first | exact HB.out | apply below_alloc | apply pw_below_drewN | apply below_drew1 | refine below_set ?_ GE334.out) | exact HB.out))) : w.heap.size ≤ gb335)); have n5_ := Aside0.mk ((by rw [hg]; exact Nat.ne_of_lt (blk_lt (g := gb334) (o := .cells #[.string a0_0, .int .i64 a0_1, .int .u8 a0_2, .bool a0_3, .slice A0_4 l0_4.length c0_4, .string a0_5, .string a0_6] 56 (0, 0)) (by (with_reducible repeat (first | refine blk_drewN ?_ _ | refine blk_drew ?_ | refine blk_alloc ?_ _)); exact BK334.out)) : gb334 ≠ gb335)); have n6_ := Aside0.mk ((by rw [hg]; exact Nat.ne_of_gt (blk_lt (g := gb334) (o := .cells #[.string a0_0, .int .i64 a0_1, .int .u8 a0_2, .bool a0_3, .slice A0_4 l0_4.length c0_4, .string a0_5, .string a0_6] 56 (0, 0)) (by (with_reducible repeat (first | refine blk_drewN ?_ _ | refine blk_drew ?_ | refine blk_alloc ?_ _)); exact BK334.out)) : gb335 ≠ gb334)); clear BK334; clear HB; have BK334 := n0_; have HB := n1_; have BK335 := n2_; have GW335 := n3_; have GE335 := n4_; have NB334_335 := n5_; have NB335_334 := n6_; clear n0_ n1_ n2_ n3_ n4_ n5_ n6_; clear hb hbox hg; have hnb33 := NB334_335.out; have hnc33 := NB335_334.out; have hcz34_0 : w32.cell? ⟨gb334, 0, none⟩ = some (.string a0_0) := (blk_cell BK334.out 0).trans rfl; have hcz34_1 : w32.cell? ⟨gb334, 1, none⟩ = some (.int .i64 a0_1) := (blk_cell BK334.out 1).trans rfl; have hcz34_2 : w32.cell? ⟨gb334, 2, none⟩ = some (.int .u8 a0_2) := (blk_cell BK334.out 2).trans rfl; have hcz34_3 : w32.cell? ⟨gb334, 3, none⟩ = some (.bool a0_3) := (blk_cell BK334.out 3).trans rfl; have hcz34_4 : w32.cell? ⟨gb334, 4, none⟩ = some (.slice A0_4 l0_4.length c0_4) := (blk_cell BK334.out 4).trans rfl; have hcz34_5 : w32.cell? ⟨gb334, 5, none⟩ = some (.string a0_5) := (blk_cell BK334.out 5).trans rfl; have hcz34_6 : w32.cell? ⟨gb334, 6, none⟩ = some (.string a0_6) := (blk_cell BK334.out 6).trans rfl; have hfz34_0 := blk_frozen BK334.out 0; have hfz34_1 := blk_frozen BK334.out 1; have hfz34_2 := blk_frozen BK334.out 2; have hfz34_3 := blk_frozen BK334.out 3; have hfz34_4 := blk_frozen BK334.out 4; have hfz34_5 := blk_frozen BK334.out 5; have hfz34_6 := blk_frozen BK334.out 6; have hcz35_0 : w32.cell? ⟨gb335, 0, none⟩ = some (.string a1_0) := (blk_cell BK335.out 0).trans rfl; have hcz35_1 : w32.cell? ⟨gb335, 1, none⟩ = some (.int .i64 a1_1) := (blk_cell BK335.out 1).trans rfl; have hcz35_2 : w32.cell? ⟨gb335, 2, none⟩ = some (.int .u8 a1_2) := (blk_cell BK335.out 2).trans rfl; have hcz35_3 : w32.cell? ⟨gb335, 3, none⟩ = some (.bool a1_3) := (blk_cell BK335.out 3).trans rfl; have hcz35_4 : w32.cell? ⟨gb335, 4, none⟩ = some (.slice A1_4 l1_4.length c1_4) := (blk_cell BK335.out 4).trans rfl; have hcz35_5 : w32.cell? ⟨gb335, 5, none⟩ = some (.string a1_5) := (blk_cell BK335.out 5).trans rfl; have hcz35_6 : w32.cell? ⟨gb335, 6, none⟩ = some (.string a1_6) := (blk_cell BK335.out 6).trans rfl; have hfz35_0 := blk_frozen BK335.out 0; have hfz35_1 := blk_frozen BK335.out 1; have hfz35_2 := blk_frozen BK335.out 2; have hfz35_3 := blk_frozen BK335.out 3; have hfz35_4 := blk_frozen BK335.out 4; have hfz35_5 := blk_frozen BK335.out 5; have hfz35_6 := blk_frozen BK335.out 6))
          go_ret
          exact ⟨by first | rfl | (simp [errW_none, errW_some] <;> rfl) | (simp [*, errW_none, errW_some] <;> rfl), by repeat (first | (with_reducible first | exact HB.out | apply below_alloc | apply pw_below_drewN | apply below_drew1 | refine below_set ?_ GE334.out | refine below_set ?_ GE335.out) | exact HB.out)⟩
      · rw [if_neg c5] at H
        have c5b0 : (a0_2 == a1_2) = false := beq_eq_false_iff_ne.mpr c5
        have c5b1 : (a0_2 != a1_2) = true := bne_iff_ne.mpr c5
        obtain rfl := Option.some.inj H
        go_enter Tryd.func24, Tryd.ntmps24
        go_wp2_with (first | ((with_reducible refine gate_dst (N := 2) rfl ?_); refine box_event ?hg (N := 2) ?hd (cs := #[.string a0_0, .int .i64 a0_1, .int .u8 a0_2, .bool a0_3, .slice A0_4 l0_4.length c0_4, .string a0_5, .string a0_6]) (t := 56) ?hr ?_; (case hd => rfl); (case hg => rfl); (case hr => first | (go_simp; done) | (go_simp; rfl)); intro gb334 hg w36 hbox hb; have n0_ := Aside0.mk (below_step (by repeat (first | (with_reducible first | exact HB.out | apply below_alloc | apply pw_below_drewN | apply below_drew1) | exact HB.out)) hb); have n1_ := Aside0.mk (hbox); have n2_ := Aside0.mk ((by rw [hg]; exact (below_size (by repeat (first | (with_reducible first | exact HB.out | apply below_alloc | apply pw_below_drewN | apply below_drew1) | exact HB.out))) : w.heap.size ≤ gb334)); have n3_ := Aside0.mk ((by rw [hg]; exact (below_size (by repeat (first | (with_reducible first | exact HB.out | apply below_alloc | apply pw_below_drewN | apply below_drew1) | exact HB.out))) : w.heap.size ≤ gb334)); clear HB; have HB := n0_; have BK334 := n1_; have GW334 := n2_; have GE334 := n3_; clear n0_ n1_ n2_ n3_; clear hb hbox hg) | ((with_reducible refine gate_dst (N := 3) rfl ?_); refine box_event ?hg (N := 3) ?hd (cs := #[.string a1_0, .int .i64 a1_1, .int .u8 a1_2, .bool a1_3, .slice A1_4 l1_4.length c1_4, .string a1_5, .string a1_6]) (t := 56) ?hr ?_; (case hd => rfl); (case hg => rfl); (case hr => first | (go_simp; done) | (go_simp; rfl)); intro gb335 hg w37 hbox hb; have n0_ := Aside0.mk (blk_below (g := gb334) (o := .cells #[.string a0_0, .int .i64 a0_1, .int .u8 a0_2, .bool a0_3, .slice A0_4 l0_4.length c0_4, .string a0_5, .string a0_6] 56 (0, 0)) (by (with_reducible repeat (first | refine blk_drewN ?_ _ | refine blk_drew ?_ | refine blk_alloc ?_ _)); exact BK334.out) hb); have n1_ := Aside0.mk (below_step (by repeat (first | (with_reducible first | exact HB.out | apply below_alloc | apply pw_below_drewN | apply below_drew1 | refine below_set ?_ GE334.out) | exact HB.out)) hb); have n2_ := Aside0.mk (hbox); have n3_ := Aside0.mk ((by rw [hg]; exact (below_size (by repeat (first | (with_reducible first | exact HB.out | apply below_alloc | apply pw_below_drewN | apply below_drew1 | refine below_set ?_ GE334.out) | exact HB.out))) : w.heap.size ≤ gb335)); have n4_ := Aside0.mk ((by rw [hg]; exact (below_size (by repeat (first | (with_reducible first | exact HB.out | apply below_alloc | apply pw_below_drewN | apply below_drew1 | refine below_set ?_ GE334.out) | exact HB.out))) : w.heap.size ≤ gb335)); have n5_ := Aside0.mk ((by rw [hg]; exact Nat.ne_of_lt (blk_lt (g := gb334) (o := .cells #[.string a0_0, .int .i64 a0_1, .int .u8 a0_2, .bool a0_3, .slice A0_4 l0_4.length c0_4, .string a0_5, .string a0_6] 56 (0, 0)) (by (with_reducible repeat (first | refine blk_drewN ?_ _ | refine blk_drew ?_ | refine blk_alloc ?_ _)); exact BK334.out)) : gb334 ≠ gb335)); have n6_ := Aside0.mk ((by rw [hg]; exact Nat.ne_of_gt (blk_lt (g := gb334) (o := .cells #[.string a0_0, .int .i64 a0_1, .int .u8 a0_2, .bool a0_3, .slice A0_4 l0_4.length c0_4, .string a0_5, .string a0_6] 56 (0, 0)) (by (with_reducible repeat (first | refine blk_drewN ?_ _ | refine blk_drew ?_ | refine blk_alloc ?_ _)); exact BK334.out)) : gb335 ≠ gb334)); clear BK334; clear HB; have BK334 := n0_; have HB := n1_; have BK335 := n2_; have GW335 := n3_; have GE335 := n4_; have NB334_335 := n5_; have NB335_334 := n6_; clear n0_ n1_ n2_ n3_ n4_ n5_ n6_; clear hb hbox hg; have hnb38 := NB334_335.out; have hnc38 := NB335_334.out; have hcz39_0 : w37.cell? ⟨gb334, 0, none⟩ = some (.string a0_0) := (blk_cell BK334.out 0).trans rfl; have hcz39_1 : w37.cell? ⟨gb334, 1, none⟩ = some (.int .i64 a0_1) := (blk_cell BK334.out 1).trans rfl; have hcz39_2 : w37.cell? ⟨gb334, 2, none⟩ = some (.int .u8 a0_2) := (blk_cell BK334.out 2).trans rfl; have hcz39_3 : w37.cell? ⟨gb334, 3, none⟩ = some (.bool a0_3) := (blk_cell BK334.out 3).trans rfl; have hcz39_4 : w37.cell? ⟨gb334, 4, none⟩ = some (.slice A0_4 l0_4.length c0_4) := (blk_cell BK334.out 4).trans rfl; have hcz39_5 : w37.cell? ⟨gb334, 5, none⟩ = some (.string a0_5) := (blk_cell BK334.out 5).trans rfl; have hcz39_6 : w37.cell? ⟨gb334, 6, none⟩ = some (.string a0_6) := (blk_cell BK334.out 6).trans rfl; have hfz39_0 := blk_frozen BK334.out 0; have hfz39_1 := blk_frozen BK334.out 1; have hfz39_2 := blk_frozen BK334.out 2; have hfz39_3 := blk_frozen BK334.out 3; have hfz39_4 := blk_frozen BK334.out 4; have hfz39_5 := blk_frozen BK334.out 5; have hfz39_6 := blk_frozen BK334.out 6; have hcz40_0 : w37.cell? ⟨gb335, 0, none⟩ = some (.string a1_0) := (blk_cell BK335.out 0).trans rfl; have hcz40_1 : w37.cell? ⟨gb335, 1, none⟩ = some (.int .i64 a1_1) := (blk_cell BK335.out 1).trans rfl; have hcz40_2 : w37.cell? ⟨gb335, 2, none⟩ = some (.int .u8 a1_2) := (blk_cell BK335.out 2).trans rfl; have hcz40_3 : w37.cell? ⟨gb335, 3, none⟩ = some (.bool a1_3) := (blk_cell BK335.out 3).trans rfl; have hcz40_4 : w37.cell? ⟨gb335, 4, none⟩ = some (.slice A1_4 l1_4.length c1_4) := (blk_cell BK335.out 4).trans rfl; have hcz40_5 : w37.cell? ⟨gb335, 5, none⟩ = some (.string a1_5) := (blk_cell BK335.out 5).trans rfl; have hcz40_6 : w37.cell? ⟨gb335, 6, none⟩ = some (.string a1_6) := (blk_cell BK335.out 6).trans rfl; have hfz40_0 := blk_frozen BK335.out 0; have hfz40_1 := blk_frozen BK335.out 1; have hfz40_2 := blk_frozen BK335.out 2; have hfz40_3 := blk_frozen BK335.out 3; have hfz40_4 := blk_frozen BK335.out 4; have hfz40_5 := blk_frozen BK335.out 5; have hfz40_6 := blk_frozen BK335.out 6))
        go_ret
        exact ⟨by first | rfl | (simp [errW_none, errW_some] <;> rfl) | (simp [*, errW_none, errW_some] <;> rfl), by repeat (first | (with_reducible first | exact HB.out | apply below_alloc | apply pw_below_drewN | apply below_drew1 | refine below_set ?_ GE334.out | refine below_set ?_ GE335.out) | exact HB.out)⟩
    · rw [if_neg c4] at H
      have c4b0 : (a0_1 == a1_1) = false := beq_eq_false_iff_ne.mpr c4
      have c4b1 : (a0_1 != a1_1) = true := bne_iff_ne.mpr c4
      obtain rfl := Option.some.inj H
      go_enter Tryd.func24, Tryd.ntmps24
      go_wp2_with (first | ((with_reducible refine gate_dst (N := 2) rfl ?_); refine box_event ?hg (N := 2) ?hd (cs := #[.string a0_0, .int .i64 a0_1, .int .u8 a0_2, .bool a0_3, .slice A0_4 l0_4.length c0_4, .string a0_5, .string a0_6]) (t := 56) ?hr ?_; (case hd => rfl); (case hg => rfl); (case hr => first | (go_simp; done) | (go_simp; rfl)); intro gb334 hg w41 hbox hb; have n0_ := Aside0.mk (below_step (by repeat (first | (with_reducible first | exact HB.out | apply below_alloc | apply pw_below_drewN | apply below_drew1) | exact HB.out)) hb); have n1_ := Aside0.mk (hbox); have n2_ := Aside0.mk ((by rw [hg]; exact (below_size (by repeat (first | (with_reducible first | exact HB.out | apply below_alloc | apply pw_below_drewN | apply below_drew1) | exact HB.out))) : w.heap.size ≤ gb334)); have n3_ := Aside0.mk ((by rw [hg]; exact (below_size (by repeat (first | (with_reducible first | exact HB.out | apply below_alloc | apply pw_below_drewN | apply below_drew1) | exact HB.out))) : w.heap.size ≤ gb334)); clear HB; have HB := n0_; have BK334 := n1_; have GW334 := n2_; have GE334 := n3_; clear n0_ n1_ n2_ n3_; clear hb hbox hg) | ((with_reducible refine gate_dst (N := 3) rfl ?_); refine box_event ?hg (N := 3) ?hd (cs := #[.string a1_0, .int .i64 a1_1, .int .u8 a1_2, .bool a1_3, .slice A1_4 l1_4.length c1_4, .string a1_5, .string a1_6]) (t := 56) ?hr ?_; (case hd => rfl); (case hg => rfl); (case hr => first | (go_simp; done) | (go_simp; rfl)); intro gb335 hg w42 hbox hb; have n0_ := Aside0.mk (blk_below (g := gb334) (o := .cells #[.string a0_0, .int .i64 a0_1, .int .u8 a0_2, .bool a0_3, .slice A0_4 l0_4.length c0_4, .string a0_5, .string a0_6] 56 (0, 0)) (by (with_reducible repeat (first | refine blk_drewN ?_ _ | refine blk_drew ?_ | refine blk_alloc ?_ _)); exact BK334.out) hb); have n1_ := Aside0.mk (below_step (by repeat (first | (with_reducible first | exact HB.out | apply below_alloc | apply pw_below_drewN | apply below_drew1 | refine below_set ?_ GE334.out) | exact HB.out)) hb); have n2_ := Aside0.mk (hbox); have n3_ := Aside0.mk ((by rw [hg]; exact (below_size (by repeat (first | (with_reducible first | exact HB.out | apply below_alloc | apply pw_below_drewN | apply below_drew1 | refine below_set ?_ GE334.out) | exact HB.out))) : w.heap.size ≤ gb335)); have n4_ := Aside0.mk ((by rw [hg]; exact (below_size (by repeat (first | (with_reducible first | exact HB.out | apply below_alloc | apply pw_below_drewN | apply below_drew1 | refine below_set ?_ GE334.out) | exact HB.out))) : w.heap.size ≤ gb335)); have n5_ := Aside0.mk ((by rw [hg]; exact Nat.ne_of_lt (blk_lt (g := gb334) (o := .cells #[.string a0_0, .int .i64 a0_1, .int .u8 a0_2, .bool a0_3, .slice A0_4 l0_4.length c0_4, .string a0_5, .string a0_6] 56 (0, 0)) (by (with_reducible repeat (first | refine blk_drewN ?_ _ | refine blk_drew ?_ | refine blk_alloc ?_ _)); exact BK334.out)) : gb334 ≠ gb335)); have n6_ := Aside0.mk ((by rw [hg]; exact Nat.ne_of_gt (blk_lt (g := gb334) (o := .cells #[.string a0_0, .int .i64 a0_1, .int .u8 a0_2, .bool a0_3, .slice A0_4 l0_4.length c0_4, .string a0_5, .string a0_6] 56 (0, 0)) (by (with_reducible repeat (first | refine blk_drewN ?_ _ | refine blk_drew ?_ | refine blk_alloc ?_ _)); exact BK334.out)) : gb335 ≠ gb334)); clear BK334; clear HB; have BK334 := n0_; have HB := n1_; have BK335 := n2_; have GW335 := n3_; have GE335 := n4_; have NB334_335 := n5_; have NB335_334 := n6_; clear n0_ n1_ n2_ n3_ n4_ n5_ n6_; clear hb hbox hg; have hnb43 := NB334_335.out; have hnc43 := NB335_334.out; have hcz44_0 : w42.cell? ⟨gb334, 0, none⟩ = some (.string a0_0) := (blk_cell BK334.out 0).trans rfl; have hcz44_1 : w42.cell? ⟨gb334, 1, none⟩ = some (.int .i64 a0_1) := (blk_cell BK334.out 1).trans rfl; have hcz44_2 : w42.cell? ⟨gb334, 2, none⟩ = some (.int .u8 a0_2) := (blk_cell BK334.out 2).trans rfl; have hcz44_3 : w42.cell? ⟨gb334, 3, none⟩ = some (.bool a0_3) := (blk_cell BK334.out 3).trans rfl; have hcz44_4 : w42.cell? ⟨gb334, 4, none⟩ = some (.slice A0_4 l0_4.length c0_4) := (blk_cell BK334.out 4).trans rfl; have hcz44_5 : w42.cell? ⟨gb334, 5, none⟩ = some (.string a0_5) := (blk_cell BK334.out 5).trans rfl; have hcz44_6 : w42.cell? ⟨gb334, 6, none⟩ = some (.string a0_6) := (blk_cell BK334.out 6).trans rfl; have hfz44_0 := blk_frozen BK334.out 0; have hfz44_1 := blk_frozen BK334.out 1; have hfz44_2 := blk_frozen BK334.out 2; have hfz44_3 := blk_frozen BK334.out 3; have hfz44_4 := blk_frozen BK334.out 4; have hfz44_5 := blk_frozen BK334.out 5; have hfz44_6 := blk_frozen BK334.out 6; have hcz45_0 : w42.cell? ⟨gb335, 0, none⟩ = some (.string a1_0) := (blk_cell BK335.out 0).trans rfl; have hcz45_1 : w42.cell? ⟨gb335, 1, none⟩ = some (.int .i64 a1_1) := (blk_cell BK335.out 1).trans rfl; have hcz45_2 : w42.cell? ⟨gb335, 2, none⟩ = some (.int .u8 a1_2) := (blk_cell BK335.out 2).trans rfl; have hcz45_3 : w42.cell? ⟨gb335, 3, none⟩ = some (.bool a1_3) := (blk_cell BK335.out 3).trans rfl; have hcz45_4 : w42.cell? ⟨gb335, 4, none⟩ = some (.slice A1_4 l1_4.length c1_4) := (blk_cell BK335.out 4).trans rfl; have hcz45_5 : w42.cell? ⟨gb335, 5, none⟩ = some (.string a1_5) := (blk_cell BK335.out 5).trans rfl; have hcz45_6 : w42.cell? ⟨gb335, 6, none⟩ = some (.string a1_6) := (blk_cell BK335.out 6).trans rfl; have hfz45_0 := blk_frozen BK335.out 0; have hfz45_1 := blk_frozen BK335.out 1; have hfz45_2 := blk_frozen BK335.out 2; have hfz45_3 := blk_frozen BK335.out 3; have hfz45_4 := blk_frozen BK335.out 4; have hfz45_5 := blk_frozen BK335.out 5; have hfz45_6 := blk_frozen BK335.out 6))
      go_ret
      exact ⟨by first | rfl | (simp [errW_none, errW_some] <;> rfl) | (simp [*, errW_none, errW_some] <;> rfl), by repeat (first | (with_reducible first | exact HB.out | apply below_alloc | apply pw_below_drewN | apply below_drew1 | refine below_set ?_ GE334.out | refine below_set ?_ GE335.out) | exact HB.out)⟩
  · rw [if_neg c3] at H
    have c3b0 : (a0_0.toList == a1_0.toList) = false := beq_eq_false_iff_ne.mpr c3
    have c3b1 : (a0_0.toList != a1_0.toList) = true := bne_iff_ne.mpr c3
    obtain rfl := Option.some.inj H
    go_enter Tryd.func24, Tryd.ntmps24
    go_wp2_with (first | ((with_reducible refine gate_dst (N := 2) rfl ?_); refine box_event ?hg (N := 2) ?hd (cs := #[.string a0_0, .int .i64 a0_1, .int .u8 a0_2, .bool a0_3, .slice A0_4 l0_4.length c0_4, .string a0_5, .string a0_6]) (t := 56) ?hr ?_; (case hd => rfl); (case hg => rfl); (case hr => first | (go_simp; done) | (go_simp; rfl)); intro gb334 hg w46 hbox hb; have n0_ := Aside0.mk (below_step (by repeat (first | (with_reducible first | exact HB.out | apply below_alloc | apply pw_below_drewN | apply below_drew1) | exact HB.out)) hb); have n1_ := Aside0.mk (hbox); have n2_ := Aside0.mk ((by rw [hg]; exact (below_size (by repeat (first | (with_reducible first | exact HB.out | apply below_alloc | apply pw_below_drewN | apply below_drew1) | exact HB.out))) : w.heap.size ≤ gb334)); have n3_ := Aside0.mk ((by rw [hg]; exact (below_size (by repeat (first | (with_reducible first | exact HB.out | apply below_alloc | apply pw_below_drewN | apply below_drew1) | exact HB.out))) : w.heap.size ≤ gb334)); clear HB; have HB := n0_; have BK334 := n1_; have GW334 := n2_; have GE334 := n3_; clear n0_ n1_ n2_ n3_; clear hb hbox hg) | ((with_reducible refine gate_dst (N := 3) rfl ?_); refine box_event ?hg (N := 3) ?hd (cs := #[.string a1_0, .int .i64 a1_1, .int .u8 a1_2, .bool a1_3, .slice A1_4 l1_4.length c1_4, .string a1_5, .string a1_6]) (t := 56) ?hr ?_; (case hd => rfl); (case hg => rfl); (case hr => first | (go_simp; done) | (go_simp; rfl)); intro gb335 hg w47 hbox hb; have n0_ := Aside0.mk (blk_below (g := gb334) (o := .cells #[.string a0_0, .int .i64 a0_1, .int .u8 a0_2, .bool a0_3, .slice A0_4 l0_4.length c0_4, .string a0_5, .string a0_6] 56 (0, 0)) (by (with_reducible repeat (first | refine blk_drewN ?_ _ | refine blk_drew ?_ | refine blk_alloc ?_ _)); exact BK334.out) hb); have n1_ := Aside0.mk (below_step (by repeat (first | (with_reducible first | exact HB.out | apply below_alloc | apply pw_below_drewN | apply below_drew1 | refine below_set ?_ GE334.out) | exact HB.out)) hb); have n2_ := Aside0.mk (hbox); have n3_ := Aside0.mk ((by rw [hg]; exact (below_size (by repeat (first | (with_reducible first | exact HB.out | apply below_alloc | apply pw_below_drewN | apply below_drew1 | refine below_set ?_ GE334.out) | exact HB.out))) : w.heap.size ≤ gb335)); have n4_ := Aside0.mk ((by rw [hg]; exact (below_size (by repeat (first | (with_reducible first | exact HB.out | apply below_alloc | apply pw_below_drewN | apply below_drew1 | refine below_set ?_ GE334.out) | exact HB.out))) : w.heap.size ≤ gb335)); have n5_ := Aside0.mk ((by rw [hg]; exact Nat.ne_of_lt (blk_lt (g := gb334) (o := .cells #[.string a0_0, .int .i64 a0_1, .int .u8 a0_2, .bool a0_3, .slice A0_4 l0_4.length c0_4, .string a0_5, .string a0_6] 56 (0, 0)) (by (with_reducible repeat (first | refine blk_drewN ?_ _ | refine blk_drew ?_ | refine blk_alloc ?_ _)); exact BK334.out)) : gb334 ≠ gb335)); have n6_ := Aside0.mk ((by rw [hg]; exact Nat.ne_of_gt (blk_lt (g := gb334) (o := .cells #[.string a0_0, .int .i64 a0_1, .int .u8 a0_2, .bool a0_3, .slice A0_4 l0_4.length c0_4, .string a0_5, .string a0_6] 56 (0, 0)) (by (with_reducible repeat (first | refine blk_drewN ?_ _ | refine blk_drew ?_ | refine blk_alloc ?_ _)); exact BK334.out)) : gb335 ≠ gb334)); clear BK334; clear HB; have BK334 := n0_; have HB := n1_; have BK335 := n2_; have GW335 := n3_; have GE335 := n4_; have NB334_335 := n5_; have NB335_334 := n6_; clear n0_ n1_ n2_ n3_ n4_ n5_ n6_; clear hb hbox hg; have hnb48 := NB334_335.out; have hnc48 := NB335_334.out; have hcz49_0 : w47.cell? ⟨gb334, 0, none⟩ = some (.string a0_0) := (blk_cell BK334.out 0).trans rfl; have hcz49_1 : w47.cell? ⟨gb334, 1, none⟩ = some (.int .i64 a0_1) := (blk_cell BK334.out 1).trans rfl; have hcz49_2 : w47.cell? ⟨gb334, 2, none⟩ = some (.int .u8 a0_2) := (blk_cell BK334.out 2).trans rfl; have hcz49_3 : w47.cell? ⟨gb334, 3, none⟩ = some (.bool a0_3) := (blk_cell BK334.out 3).trans rfl; have hcz49_4 : w47.cell? ⟨gb334, 4, none⟩ = some (.slice A0_4 l0_4.length c0_4) := (blk_cell BK334.out 4).trans rfl; have hcz49_5 : w47.cell? ⟨gb334, 5, none⟩ = some (.string a0_5) := (blk_cell BK334.out 5).trans rfl; have hcz49_6 : w47.cell? ⟨gb334, 6, none⟩ = some (.string a0_6) := (blk_cell BK334.out 6).trans rfl; have hfz49_0 := blk_frozen BK334.out 0; have hfz49_1 := blk_frozen BK334.out 1; have hfz49_2 := blk_frozen BK334.out 2; have hfz49_3 := blk_frozen BK334.out 3; have hfz49_4 := blk_frozen BK334.out 4; have hfz49_5 := blk_frozen BK334.out 5; have hfz49_6 := blk_frozen BK334.out 6; have hcz50_0 : w47.cell? ⟨gb335, 0, none⟩ = some (.string a1_0) := (blk_cell BK335.out 0).trans rfl; have hcz50_1 : w47.cell? ⟨gb335, 1, none⟩ = some (.int .i64 a1_1) := (blk_cell BK335.out 1).trans rfl; have hcz50_2 : w47.cell? ⟨gb335, 2, none⟩ = some (.int .u8 a1_2) := (blk_cell BK335.out 2).trans rfl; have hcz50_3 : w47.cell? ⟨gb335, 3, none⟩ = some (.bool a1_3) := (blk_cell BK335.out 3).trans rfl; have hcz50_4 : w47.cell? ⟨gb335, 4, none⟩ = some (.slice A1_4 l1_4.length c1_4) := (blk_cell BK335.out 4).trans rfl; have hcz50_5 : w47.cell? ⟨gb335, 5, none⟩ = some (.string a1_5) := (blk_cell BK335.out 5).trans rfl; have hcz50_6 : w47.cell? ⟨gb335, 6, none⟩ = some (.string a1_6) := (blk_cell BK335.out 6).trans rfl; have hfz50_0 := blk_frozen BK335.out 0; have hfz50_1 := blk_frozen BK335.out 1; have hfz50_2 := blk_frozen BK335.out 2; have hfz50_3 := blk_frozen BK335.out 3; have hfz50_4 := blk_frozen BK335.out 4; have hfz50_5 := blk_frozen BK335.out 5; have hfz50_6 := blk_frozen BK335.out 6))
    go_ret
    exact ⟨by first | rfl | (simp [errW_none, errW_some] <;> rfl) | (simp [*, errW_none, errW_some] <;> rfl), by repeat (first | (with_reducible first | exact HB.out | apply below_alloc | apply pw_below_drewN | apply below_drew1 | refine below_set ?_ GE334.out | refine below_set ?_ GE335.out) | exact HB.out)⟩
def switchboardlaw12_Is.l0 : Nat → List (S25) → List (S56) → Int → Int → Option (Int)
  | 0, _, _, _, _ => none
  | k + 1, x0, x1, x12, x13 => if x13 < x12 then (if 0 ≤ x13 then (if x13 < (x0.length : Int) then ((switchboardlaw12_Told.f k ((rd_T25 x0 x13).f0) ((rd_T25 x0 x13).f1) ((rd_T25 x0 x13).f2) ((rd_T25 x0 x13).f3) ((rd_T25 x0 x13).f4) ((rd_T25 x0 x13).f5) ((rd_T25 x0 x13).f6)).bind fun bt338 => (if x13 < (x1.length : Int) then ((switchboardlaw12_Same.f k bt338.1 bt338.2.1 bt338.2.2.1 bt338.2.2.2.1 bt338.2.2.2.2.1 bt338.2.2.2.2.2.1 bt338.2.2.2.2.2.2 ((rd_T56 x1 x13).f0) ((rd_T56 x1 x13).f1) ((rd_T56 x1 x13).f2) ((rd_T56 x1 x13).f3) ((rd_T56 x1 x13).f4) ((rd_T56 x1 x13).f5) ((rd_T56 x1 x13).f6)).bind fun t348 => (if t348 = 0 then (switchboardlaw12_Is.l0 k x0 x1 x12 (wrap64 (x13 + 1))) else (some (-1)))) else (none))) else (none)) else (none)) else (some 0)
def switchboardlaw12_Is.f (k : Nat) (l0 : List (S25)) (l1 : List (S56)) : Option (Int) := if (l0.length : Int) = (l1.length : Int) then (switchboardlaw12_Is.l0 k l0 l1 (l1.length : Int) 0) else (some (-1))
theorem switchboardlaw12_Is.mono_l : ∀ k, (∀ y0 y1 y2 y3, LeO (switchboardlaw12_Is.l0 k y0 y1 y2 y3) (switchboardlaw12_Is.l0 (k + 1) y0 y1 y2 y3))
  | 0 => fun _ _ _ _ r h => by simp [switchboardlaw12_Is.l0] at h
  | k + 1 => by
    have ih0 := switchboardlaw12_Is.mono_l k
    · intro y0 y1 y2 y3
      unfold switchboardlaw12_Is.l0
      repeat' first
      | (with_reducible exact ih0 _ _ _ _)
      | (with_reducible exact switchboardlaw12_Same.mono _ _ _ _ _ _ _ _ _ _ _ _ _ _ _)
      | (with_reducible exact switchboardlaw12_Told.mono _ _ _ _ _ _ _ _)
      | (with_reducible exact LeO.refl _)
      | (with_reducible exact LeO.none _)
      | (with_reducible refine LeO.ite ?_ ?_)
      | (with_reducible refine LeO.bind ?_ (fun _ => ?_))
      | exact ih0 _ _ _ _
      | exact switchboardlaw12_Same.mono _ _ _ _ _ _ _ _ _ _ _ _ _ _ _
      | exact switchboardlaw12_Told.mono _ _ _ _ _ _ _ _
      | exact LeO.none _
      | refine LeO.ite ?_ ?_
      | refine LeO.bind ?_ (fun _ => ?_)
theorem switchboardlaw12_Is.mono : ∀ a0 a1 k, LeO (switchboardlaw12_Is.f k a0 a1) (switchboardlaw12_Is.f (k + 1) a0 a1) := by
  intro a0 a1 k
  have ih0 := switchboardlaw12_Is.mono_l k
  unfold switchboardlaw12_Is.f
  repeat' first
      | (with_reducible exact ih0 _ _ _ _)
      | (with_reducible exact switchboardlaw12_Same.mono _ _ _ _ _ _ _ _ _ _ _ _ _ _ _)
      | (with_reducible exact switchboardlaw12_Told.mono _ _ _ _ _ _ _ _)
      | (with_reducible exact LeO.refl _)
      | (with_reducible exact LeO.none _)
      | (with_reducible refine LeO.ite ?_ ?_)
      | (with_reducible refine LeO.bind ?_ (fun _ => ?_))
      | exact ih0 _ _ _ _
      | exact switchboardlaw12_Same.mono _ _ _ _ _ _ _ _ _ _ _ _ _ _ _
      | exact switchboardlaw12_Told.mono _ _ _ _ _ _ _ _
      | exact LeO.none _
      | refine LeO.ite ?_ ?_
      | refine LeO.bind ?_ (fun _ => ?_)
def switchboardlaw12_Is.T6 : Bool × List (List Nat × List Nat) := (true, [([], []), ([], []), ([0, 1], [0, 1]), ([2], [2]), ([3], [3]), ([], []), ([], []), ([5, 6], [5, 6]), ([7], [7]), ([4, 8, 4], [4, 8]), ([9], [9])])
def switchboardlaw12_Is.B6 : List Nat := [0, 0, 3, 7, 15, 0, 0, 96, 224, 511, 1023]
theorem switchboardlaw12_Is.tab6 : rtab .any (opsOf Tryd.f33 6) = switchboardlaw12_Is.T6 := by kernel_rfl
theorem switchboardlaw12_Is.bits6 : waitsOk switchboardlaw12_Is.T6.2 switchboardlaw12_Is.B6 = true := by kernel_rfl
set_option maxHeartbeats 8000000 in
set_option maxRecDepth 100000 in
theorem switchboardlaw12_Is.calls (k : Nat) (A0 : Option Addr) (c0 : Nat) (l0 : List (S25)) (A1 : Option Addr) (c1 : Nat) (l1 : List (S56)) (r : Int) (w : World) (hr0 : Kd.C k25 w A0 l0.length l0) (hc0 : l0.length ≤ c0) (hr1 : Kd.C k56 w A1 l1.length l1) (hc1 : l1.length ≤ c1) (h : switchboardlaw12_Is.f k l0 l1 = some r) :
    Calls Tryd.prog 33 #[.slice A0 l0.length c0, .slice A1 l1.length c1] w fun e w' => e = .returned (.int .i64 r) ∧ Below w.heap.size w w' := by
  have hu25 := Tryd.underlying25
  have hu56 := Tryd.underlying56
  have HR0 := Aside0.mk hr0
  have HC0 := Aside0.mk hc0
  clear hr0 hc0
  have HR1 := Aside0.mk hr1
  have HC1 := Aside0.mk hc1
  clear hr1 hc1
  have HB := Aside0.mk (Below.refl w.heap.size w)
  have H : (if (l0.length : Int) = (l1.length : Int) then (switchboardlaw12_Is.l0 k l0 l1 (l1.length : Int) 0) else (some (-1))) = some r := h
  clear h
  by_cases c3 : (l0.length : Int) = (l1.length : Int)
  · rw [if_pos c3] at H
    have c3b0 : ((l0.length : Int) == (l1.length : Int)) = true := beq_iff_eq.mpr c3
    have c3b1 : ((l0.length : Int) != (l1.length : Int)) = false := bne_eq_false_iff_eq.mpr c3
    have c3b2 : (l0.length == l1.length) = true := by first | simpa using c3 | (simp at c3 ⊢; omega)
    clear c3
    have H' := Aside0.mk H
    clear H
    go_enter Tryd.func33, Tryd.ntmps33
    go_wp2
    go_loopg [13] k (fun kq v13 w' => ∃ (x13_1 : Int), v13 = .int .i64 x13_1 ∧ Aside0 (switchboardlaw12_Is.l0 kq l0 l1 (l1.length : Int) x13_1 = some r) ∧ Aside0 (kq ≤ k) ∧ Aside0 (Below w.heap.size w w'))
    case atStart => exact ⟨(0), (by first | rfl | (simp; done) | (simp [*]; done)), H', ⟨Nat.le_refl _⟩, ⟨by repeat (first | (with_reducible first | exact HB.out | apply below_alloc | apply pw_below_drewN | apply below_drew1) | exact HB.out)⟩⟩
    case round =>
      clear H'
      try clear c1
      try clear p2
      try clear c3
      try clear c3b0
      try clear c3b1
      try clear c3b2
      obtain ⟨x13_1, rfl, HA, HK1, HB⟩ := hrel
      cases gk with
      | zero => exact absurd HA.out (by simp [switchboardlaw12_Is.l0])
      | succ k1 =>
        have H := HA.out
        clear HA
        simp only [switchboardlaw12_Is.l0] at H
        by_cases c4 : x13_1 < (l1.length : Int)
        · rw [if_pos c4] at H
          have c4b0 : decide (x13_1 < (l1.length : Int)) = true := decide_eq_true c4
          clear c4
          by_cases c5 : 0 ≤ x13_1
          · rw [if_pos c5] at H
            have c5b0 : decide (0 ≤ x13_1) = true := decide_eq_true c5
            clear c5
            by_cases c6 : x13_1 < (l0.length : Int)
            · rw [if_pos c6] at H
              have c6b0 : decide (x13_1 < (l0.length : Int)) = true := decide_eq_true c6
              clear c6
              replace H := Option.bind_eq_some_iff.mp H
              obtain ⟨⟨t338, t339, t340, t341, t342, t345, t346⟩, A70, H⟩ := H
              replace H : (if x13_1 < (l1.length : Int) then ((switchboardlaw12_Same.f k1 t338 t339 t340 t341 t342 t345 t346 ((rd_T56 l1 x13_1).f0) ((rd_T56 l1 x13_1).f1) ((rd_T56 l1 x13_1).f2) ((rd_T56 l1 x13_1).f3) ((rd_T56 l1 x13_1).f4) ((rd_T56 l1 x13_1).f5) ((rd_T56 l1 x13_1).f6)).bind fun t348 => (if t348 = 0 then (switchboardlaw12_Is.l0 k1 l0 l1 (l1.length : Int) (wrap64 (x13_1 + 1))) else (some (-1)))) else (none)) = some r := H
              have A7 := Aside0.mk A70
              clear A70
              by_cases c8 : x13_1 < (l1.length : Int)
              · rw [if_pos c8] at H
                have c8b0 : decide (x13_1 < (l1.length : Int)) = true := decide_eq_true c8
                clear c8
                replace H := Option.bind_eq_some_iff.mp H
                obtain ⟨t348, A90, H⟩ := H
                replace H : (if t348 = 0 then (switchboardlaw12_Is.l0 k1 l0 l1 (l1.length : Int) (wrap64 (x13_1 + 1))) else (some (-1))) = some r := H
                have A9 := Aside0.mk A90
                clear A90
                by_cases c10 : t348 = 0
                · rw [if_pos c10] at H
                  have c10b0 : (t348 == 0) = true := beq_iff_eq.mpr c10
                  have c10b1 : (t348 != 0) = false := bne_eq_false_iff_eq.mpr c10
                  clear c10
                  have H' := Aside0.mk H
                  clear H
                  try go_wp2
                  have n0_ := Aside0.mk (below_drew1 HB.out)
                  clear HB
                  have HB := n0_
                  clear n0_
                  have p337 : 0 ≤ (x13_1 : Int) := of_decide_eq_true (by first | (with_reducible assumption) | assumption)
                  have q337 : x13_1 < (l0.length : Int) := of_decide_eq_true (by first | (with_reducible assumption) | assumption)
                  obtain ⟨ad337, A337_4, c337_4, e337, hx337_0, hx337_1, hx337_2, hx337_3, hx337_4, hx337_5, hx337_6, hl337_4, hi337_4⟩ := at_T25 HR0.out x13_1 p337 q337
                  have hw337_6 := hx337_6
                  have hw337_5 := hx337_5
                  have hw337_4 := hx337_4
                  have hw337_3 := hx337_3
                  have hw337_2 := hx337_2
                  have hw337_1 := hx337_1
                  have hw337_0 := hx337_0
                  cases e337
                  replace hx337_0 := (HB.out.cell (World.block_lt_of_cell? w _ hx337_0)).trans hx337_0
                  replace hx337_1 := (HB.out.cell (World.block_lt_of_cell? w _ hx337_1)).trans hx337_1
                  replace hx337_2 := (HB.out.cell (World.block_lt_of_cell? w _ hx337_2)).trans hx337_2
                  replace hx337_3 := (HB.out.cell (World.block_lt_of_cell? w _ hx337_3)).trans hx337_3
                  replace hx337_4 := (HB.out.cell (World.block_lt_of_cell? w _ hx337_4)).trans hx337_4
                  replace hx337_5 := (HB.out.cell (World.block_lt_of_cell? w _ hx337_5)).trans hx337_5
                  replace hx337_6 := (HB.out.cell (World.block_lt_of_cell? w _ hx337_6)).trans hx337_6
                  have HR337_4 := Aside0.mk hi337_4
                  have HC337_4 := Aside0.mk hl337_4
                  clear hi337_4 hl337_4
                  replace p337 := eq_true p337
                  replace q337 := eq_true q337
                  have p347 : 0 ≤ (x13_1 : Int) := of_decide_eq_true (by first | (with_reducible assumption) | assumption)
                  have q347 : x13_1 < (l1.length : Int) := of_decide_eq_true (by first | (with_reducible assumption) | assumption)
                  obtain ⟨ad347, A347_4, c347_4, e347, hx347_0, hx347_1, hx347_2, hx347_3, hx347_4, hx347_5, hx347_6, hl347_4, hi347_4⟩ := at_T56 HR1.out x13_1 p347 q347
                  have hw347_6 := hx347_6
                  have hw347_5 := hx347_5
                  have hw347_4 := hx347_4
                  have hw347_3 := hx347_3
                  have hw347_2 := hx347_2
                  have hw347_1 := hx347_1
                  have hw347_0 := hx347_0
                  cases e347
                  replace hx347_0 := (HB.out.cell (World.block_lt_of_cell? w _ hx347_0)).trans hx347_0
                  replace hx347_1 := (HB.out.cell (World.block_lt_of_cell? w _ hx347_1)).trans hx347_1
                  replace hx347_2 := (HB.out.cell (World.block_lt_of_cell? w _ hx347_2)).trans hx347_2
                  replace hx347_3 := (HB.out.cell (World.block_lt_of_cell? w _ hx347_3)).trans hx347_3
                  replace hx347_4 := (HB.out.cell (World.block_lt_of_cell? w _ hx347_4)).trans hx347_4
                  replace hx347_5 := (HB.out.cell (World.block_lt_of_cell? w _ hx347_5)).trans hx347_5
                  replace hx347_6 := (HB.out.cell (World.block_lt_of_cell? w _ hx347_6)).trans hx347_6
                  have HR347_4 := Aside0.mk hi347_4
                  have HC347_4 := Aside0.mk hl347_4
                  clear hi347_4 hl347_4
                  replace p347 := eq_true p347
                  replace q347 := eq_true q347
                  refine start_ (n := 11) (S := fun w' => w'.cell? (ad337.add ((x13_1).toNat * 7)) = some (.string ((rd_T25 l0 x13_1).f0)) ∧ w'.cell? ⟨(ad337.add ((x13_1).toNat * 7)).block, (ad337.add ((x13_1).toNat * 7)).off + 1, none⟩ = some (.int .i64 ((rd_T25 l0 x13_1).f1)) ∧ w'.cell? ⟨(ad337.add ((x13_1).toNat * 7)).block, (ad337.add ((x13_1).toNat * 7)).off + 2, none⟩ = some (.int .u8 ((rd_T25 l0 x13_1).f2)) ∧ w'.cell? ⟨(ad337.add ((x13_1).toNat * 7)).block, (ad337.add ((x13_1).toNat * 7)).off + 3, none⟩ = some (.bool ((rd_T25 l0 x13_1).f3)) ∧ w'.cell? ⟨(ad337.add ((x13_1).toNat * 7)).block, (ad337.add ((x13_1).toNat * 7)).off + 4, none⟩ = some (.slice A337_4 ((rd_T25 l0 x13_1).f4).length c337_4) ∧ w'.cell? ⟨(ad337.add ((x13_1).toNat * 7)).block, (ad337.add ((x13_1).toNat * 7)).off + 5, none⟩ = some (.string ((rd_T25 l0 x13_1).f5)) ∧ w'.cell? ⟨(ad337.add ((x13_1).toNat * 7)).block, (ad337.add ((x13_1).toNat * 7)).off + 6, none⟩ = some (.string ((rd_T25 l0 x13_1).f6)) ∧ w'.cell? (ad347.add ((x13_1).toNat * 7)) = some (.string ((rd_T56 l1 x13_1).f0)) ∧ w'.cell? ⟨(ad347.add ((x13_1).toNat * 7)).block, (ad347.add ((x13_1).toNat * 7)).off + 1, none⟩ = some (.int .i64 ((rd_T56 l1 x13_1).f1)) ∧ w'.cell? ⟨(ad347.add ((x13_1).toNat * 7)).block, (ad347.add ((x13_1).toNat * 7)).off + 2, none⟩ = some (.int .u8 ((rd_T56 l1 x13_1).f2)) ∧ w'.cell? ⟨(ad347.add ((x13_1).toNat * 7)).block, (ad347.add ((x13_1).toNat * 7)).off + 3, none⟩ = some (.bool ((rd_T56 l1 x13_1).f3)) ∧ w'.cell? ⟨(ad347.add ((x13_1).toNat * 7)).block, (ad347.add ((x13_1).toNat * 7)).off + 4, none⟩ = some (.slice A347_4 ((rd_T56 l1 x13_1).f4).length c347_4) ∧ w'.cell? ⟨(ad347.add ((x13_1).toNat * 7)).block, (ad347.add ((x13_1).toNat * 7)).off + 5, none⟩ = some (.string ((rd_T56 l1 x13_1).f5)) ∧ w'.cell? ⟨(ad347.add ((x13_1).toNat * 7)).block, (ad347.add ((x13_1).toNat * 7)).off + 6, none⟩ = some (.string ((rd_T56 l1 x13_1).f6))) (ds := []) #[false, false, false, false, false, false, false, false, false, false, false] (by kernel_rfl) rfl rfl ⟨((HB.out.cell (World.block_lt_of_cell? w _ hw337_0)).trans hw337_0), ((HB.out.cell (World.block_lt_of_cell? w _ hw337_1)).trans hw337_1), ((HB.out.cell (World.block_lt_of_cell? w _ hw337_2)).trans hw337_2), ((HB.out.cell (World.block_lt_of_cell? w _ hw337_3)).trans hw337_3), ((HB.out.cell (World.block_lt_of_cell? w _ hw337_4)).trans hw337_4), ((HB.out.cell (World.block_lt_of_cell? w _ hw337_5)).trans hw337_5), ((HB.out.cell (World.block_lt_of_cell? w _ hw337_6)).trans hw337_6), ((HB.out.cell (World.block_lt_of_cell? w _ hw347_0)).trans hw347_0), ((HB.out.cell (World.block_lt_of_cell? w _ hw347_1)).trans hw347_1), ((HB.out.cell (World.block_lt_of_cell? w _ hw347_2)).trans hw347_2), ((HB.out.cell (World.block_lt_of_cell? w _ hw347_3)).trans hw347_3), ((HB.out.cell (World.block_lt_of_cell? w _ hw347_4)).trans hw347_4), ((HB.out.cell (World.block_lt_of_cell? w _ hw347_5)).trans hw347_5), ((HB.out.cell (World.block_lt_of_cell? w _ hw347_6)).trans hw347_6)⟩ (fun hHeld => ?_); refine with_tabW switchboardlaw12_Is.tab6 switchboardlaw12_Is.bits6 (fun HT_ HW_ => ?_)
                  generalize wr.drew = w11 at HB HR337_4 HR347_4 hx337_0 hx337_1 hx337_2 hx337_3 hx337_4 hx337_5 hx337_6 hx347_0 hx347_1 hx347_2 hx347_3 hx347_4 hx347_5 hx347_6 hHeld ⊢
                  refine pure_ (i := 0) (N := some 16) (v := ?_) (a' := ?_) #[true, false, false, false, false, false, false, false, false, false, false] rfl rfl (any_of HT_.out (by kernel_rfl)) (fun _ _ _ h => h) (Or.inl ⟨by rfl, ?_⟩) ?_ ?_
                  rotate_left
                  · intro w'
                    go_simp
                    with_reducible rfl
                  rotate_left
                  · simp only [Act.put, List.setIfInBounds_toArray, List.set_cons_zero, List.set_cons_succ, i64_w, i32_w]
                    rfl
                  refine pure_ (i := 1) (N := some 17) (v := ?_) (a' := ?_) #[true, true, false, false, false, false, false, false, false, false, false] rfl rfl (any_of HT_.out (by kernel_rfl)) (fun _ _ _ h => h) (Or.inl ⟨by rfl, ?_⟩) ?_ ?_
                  rotate_left
                  · intro w'
                    go_simp
                    with_reducible rfl
                  rotate_left
                  · simp only [Act.put, List.setIfInBounds_toArray, List.set_cons_zero, List.set_cons_succ, i64_w, i32_w]
                    rfl
                  refine pure_ (i := 2) (N := some 18) (v := ?_) (a' := ?_) #[true, true, true, false, false, false, false, false, false, false, false] rfl rfl (any_of HT_.out (by kernel_rfl)) (fun _ _ _ h => h) (Or.inl ⟨by rfl, ?_⟩) ?_ ?_
                  rotate_left
                  · intro w'
                    go_simp
                    with_reducible rfl
                  rotate_left
                  · simp only [Act.put, List.setIfInBounds_toArray, List.set_cons_zero, List.set_cons_succ, i64_w, i32_w]
                    rfl
                  refine pure_ (i := 5) (N := some 21) (v := ?_) (a' := ?_) #[true, true, true, false, false, true, false, false, false, false, false] rfl rfl (any_of HT_.out (by kernel_rfl)) (fun _ _ _ h => h) (Or.inl ⟨by rfl, ?_⟩) ?_ ?_
                  rotate_left
                  · intro w'
                    go_simp
                    with_reducible rfl
                  rotate_left
                  · simp only [Act.put, List.setIfInBounds_toArray, List.set_cons_zero, List.set_cons_succ, i64_w, i32_w]
                    rfl
                  refine pure_ (i := 6) (N := some 22) (v := ?_) (a' := ?_) #[true, true, true, false, false, true, true, false, false, false, false] rfl rfl (any_of HT_.out (by kernel_rfl)) (fun _ _ _ h => h) (Or.inl ⟨by rfl, ?_⟩) ?_ ?_
                  rotate_left
                  · intro w'
                    go_simp
                    with_reducible rfl
                  rotate_left
                  · simp only [Act.put, List.setIfInBounds_toArray, List.set_cons_zero, List.set_cons_succ, i64_w, i32_w]
                    rfl
                  refine pure_ (i := 7) (N := some 23) (v := ?_) (a' := ?_) #[true, true, true, false, false, true, true, true, false, false, false] rfl rfl (any_of HT_.out (by kernel_rfl)) (fun _ _ _ h => h) (Or.inl ⟨by rfl, ?_⟩) ?_ ?_
                  rotate_left
                  · intro w'
                    go_simp
                    with_reducible rfl
                  rotate_left
                  · simp only [Act.put, List.setIfInBounds_toArray, List.set_cons_zero, List.set_cons_succ, i64_w, i32_w]
                    rfl
                  refine take_ (i := 3) (N := some 19) (v := ?_) (a' := ?_) #[true, true, true, true, false, true, true, true, false, false, false] rfl rfl (take_ofW HT_.out HW_.out (by kernel_rfl)) (fun _ _ _ h => h) (Or.inl ⟨by rfl, ?_⟩) hHeld ?_ ?_
                  rotate_left
                  · rintro w' ⟨s0, s1, s2, s3, s4, s5, s6, s7, s8, s9, s10, s11, s12, s13⟩
                    go_simp
                    with_reducible rfl
                  rotate_left
                  · simp only [Act.put, List.setIfInBounds_toArray, List.set_cons_zero, List.set_cons_succ, i64_w, i32_w]
                    rfl
                  refine take_ (i := 8) (N := some 24) (v := ?_) (a' := ?_) #[true, true, true, true, false, true, true, true, true, false, false] rfl rfl (take_ofW HT_.out HW_.out (by kernel_rfl)) (fun _ _ _ h => h) (Or.inl ⟨by rfl, ?_⟩) hHeld ?_ ?_
                  rotate_left
                  · rintro w' ⟨s0, s1, s2, s3, s4, s5, s6, s7, s8, s9, s10, s11, s12, s13⟩
                    go_simp
                    with_reducible rfl
                  rotate_left
                  · simp only [Act.put, List.setIfInBounds_toArray, List.set_cons_zero, List.set_cons_succ, i64_w, i32_w]
                    rfl
                  refine one_ (i := 4) (N := some 20) #[true, true, true, true, true, true, true, true, true, false, false] rfl rfl (one_of HT_.out (by kernel_rfl)) (by decide) (fun K hK => ?_)
                  refine goes_ Tryd.func23 (by kernel_rfl) rfl #[.agg #[.string ((rd_T25 l0 x13_1).f0), .int .i64 ((rd_T25 l0 x13_1).f1), .int .u8 ((rd_T25 l0 x13_1).f2), .bool ((rd_T25 l0 x13_1).f3), .slice A337_4 ((rd_T25 l0 x13_1).f4).length c337_4, .string ((rd_T25 l0 x13_1).f5), .string ((rd_T25 l0 x13_1).f6)]] (by rfl) rfl rfl (by (try simp only [List.map_toArray, List.map_cons, List.map_nil]); first | done | rfl | (simp only [List.length_drop, List.length_take]; rfl)) ?_
                  with_reducible refine (switchboardlaw12_Told.calls k1 ((rd_T25 l0 x13_1).f0) ((rd_T25 l0 x13_1).f1) ((rd_T25 l0 x13_1).f2) ((rd_T25 l0 x13_1).f3) _ _ ((rd_T25 l0 x13_1).f4) ((rd_T25 l0 x13_1).f5) ((rd_T25 l0 x13_1).f6) t338 t339 t340 t341 t342 t345 t346 _ ?side1 ?side2 A7.out).mono ?_
                  (case side1 => repeat (first | exact (Kd.C_below HR337_4.out HB.out) | (with_reducible refine Kd.C_alloc ?_ _) | (with_reducible refine Kd.C_drewN ?_ _) | (with_reducible refine Kd.C_drew ?_)))
                  (case side2 => exact HC337_4.out)
                  rintro e w12 ⟨v343, rfl, ho0, hb⟩
                  refine ⟨_, rfl, ?_⟩
                  have n0_ := Aside0.mk (Kd.R_lower ho0 (below_size (by repeat (first | (with_reducible first | exact HB.out | apply below_alloc | apply pw_below_drewN | apply below_drew1) | exact HB.out))))
                  have n1_ := Aside0.mk (below_step (by repeat (first | (with_reducible first | exact HB.out | apply below_alloc | apply pw_below_drewN | apply below_drew1) | exact HB.out)) hb)
                  clear HB
                  have HO344 := n0_
                  have HB := n1_
                  clear n0_ n1_
                  (try clear hb)
                  (try clear hb2)
                  (try clear hk)
                  (try clear hi)
                  (try clear ho0)
                  obtain ⟨Ao13, co13, eo13⟩ := Kd.R_slice HO344.out
                  (first | subst eo13 | (injection eo13 with f1_ f2_ f3_; have f4_ := f1_.symm; have f5_ := f3_.symm; clear f1_ f2_ f3_; subst f4_; subst f5_))
                  refine hK.out _ _ ⟨((HB.out.cell (World.block_lt_of_cell? w _ hw337_0)).trans hw337_0), ((HB.out.cell (World.block_lt_of_cell? w _ hw337_1)).trans hw337_1), ((HB.out.cell (World.block_lt_of_cell? w _ hw337_2)).trans hw337_2), ((HB.out.cell (World.block_lt_of_cell? w _ hw337_3)).trans hw337_3), ((HB.out.cell (World.block_lt_of_cell? w _ hw337_4)).trans hw337_4), ((HB.out.cell (World.block_lt_of_cell? w _ hw337_5)).trans hw337_5), ((HB.out.cell (World.block_lt_of_cell? w _ hw337_6)).trans hw337_6), ((HB.out.cell (World.block_lt_of_cell? w _ hw347_0)).trans hw347_0), ((HB.out.cell (World.block_lt_of_cell? w _ hw347_1)).trans hw347_1), ((HB.out.cell (World.block_lt_of_cell? w _ hw347_2)).trans hw347_2), ((HB.out.cell (World.block_lt_of_cell? w _ hw347_3)).trans hw347_3), ((HB.out.cell (World.block_lt_of_cell? w _ hw347_4)).trans hw347_4), ((HB.out.cell (World.block_lt_of_cell? w _ hw347_5)).trans hw347_5), ((HB.out.cell (World.block_lt_of_cell? w _ hw347_6)).trans hw347_6)⟩ (fun hHeld => ?_)
                  clear hK K
                  refine norm_ (a' := ?_) ?_ ?_
                  rotate_left
                  · show Act.put _ (some 20) _ = _
                    simp only [Act.put, List.setIfInBounds_toArray, List.set_cons_zero, List.set_cons_succ, i64_w, i32_w]
                    rfl
                  refine one_ (i := 9) (N := some 25) #[true, true, true, true, true, true, true, true, true, true, false] rfl rfl (one_of HT_.out (by kernel_rfl)) (by decide) (fun K hK => ?_)
                  refine goes_ Tryd.func24 (by kernel_rfl) rfl #[.agg #[.string t338, .int .i64 t339, .int .u8 t340, .bool t341, .slice Ao13 t342.length co13, .string t345, .string t346], .agg #[.string ((rd_T56 l1 x13_1).f0), .int .i64 ((rd_T56 l1 x13_1).f1), .int .u8 ((rd_T56 l1 x13_1).f2), .bool ((rd_T56 l1 x13_1).f3), .slice A347_4 ((rd_T56 l1 x13_1).f4).length c347_4, .string ((rd_T56 l1 x13_1).f5), .string ((rd_T56 l1 x13_1).f6)]] (by rfl) rfl rfl (by (try simp only [List.map_toArray, List.map_cons, List.map_nil]); first | done | rfl | (simp only [List.length_drop, List.length_take]; rfl)) ?_
                  with_reducible refine (switchboardlaw12_Same.calls k1 t338 t339 t340 t341 _ _ t342 t345 t346 ((rd_T56 l1 x13_1).f0) ((rd_T56 l1 x13_1).f1) ((rd_T56 l1 x13_1).f2) ((rd_T56 l1 x13_1).f3) _ _ ((rd_T56 l1 x13_1).f4) ((rd_T56 l1 x13_1).f5) ((rd_T56 l1 x13_1).f6) t348 _ ?side1 ?side2 ?side3 ?side4 A9.out).mono ?_
                  (case side1 => repeat (first | exact (Kd.R_reads' HO344.out).2.2 | (with_reducible refine Kd.C_alloc ?_ _) | (with_reducible refine Kd.C_drewN ?_ _) | (with_reducible refine Kd.C_drew ?_)))
                  (case side2 => exact (Kd.R_reads' HO344.out).2.1)
                  (case side3 => repeat (first | exact (Kd.C_below HR347_4.out HB.out) | (with_reducible refine Kd.C_alloc ?_ _) | (with_reducible refine Kd.C_drewN ?_ _) | (with_reducible refine Kd.C_drew ?_)))
                  (case side4 => exact HC347_4.out)
                  rintro e w14 ⟨rfl, hb⟩
                  refine ⟨_, rfl, ?_⟩
                  have n0_ := Aside0.mk (Kd.R_below (by (with_reducible repeat (first | apply Kd.R_alloc | apply Kd.R_drewN | apply Kd.R_drew)); exact HO344.out) hb)
                  have n1_ := Aside0.mk (below_step (by repeat (first | (with_reducible first | exact HB.out | apply below_alloc | apply pw_below_drewN | apply below_drew1) | exact HB.out)) hb)
                  clear HO344
                  clear HB
                  have HO344 := n0_
                  have HB := n1_
                  clear n0_ n1_
                  (try clear hb)
                  (try clear hb2)
                  (try clear hk)
                  (try clear hi)
                  refine hK.out _ _ ⟨((HB.out.cell (World.block_lt_of_cell? w _ hw337_0)).trans hw337_0), ((HB.out.cell (World.block_lt_of_cell? w _ hw337_1)).trans hw337_1), ((HB.out.cell (World.block_lt_of_cell? w _ hw337_2)).trans hw337_2), ((HB.out.cell (World.block_lt_of_cell? w _ hw337_3)).trans hw337_3), ((HB.out.cell (World.block_lt_of_cell? w _ hw337_4)).trans hw337_4), ((HB.out.cell (World.block_lt_of_cell? w _ hw337_5)).trans hw337_5), ((HB.out.cell (World.block_lt_of_cell? w _ hw337_6)).trans hw337_6), ((HB.out.cell (World.block_lt_of_cell? w _ hw347_0)).trans hw347_0), ((HB.out.cell (World.block_lt_of_cell? w _ hw347_1)).trans hw347_1), ((HB.out.cell (World.block_lt_of_cell? w _ hw347_2)).trans hw347_2), ((HB.out.cell (World.block_lt_of_cell? w _ hw347_3)).trans hw347_3), ((HB.out.cell (World.block_lt_of_cell? w _ hw347_4)).trans hw347_4), ((HB.out.cell (World.block_lt_of_cell? w _ hw347_5)).trans hw347_5), ((HB.out.cell (World.block_lt_of_cell? w _ hw347_6)).trans hw347_6)⟩ (fun hHeld => ?_)
                  clear hK K
                  refine norm_ (a' := ?_) ?_ ?_
                  rotate_left
                  · show Act.put _ (some 25) _ = _
                    simp only [Act.put, List.setIfInBounds_toArray, List.set_cons_zero, List.set_cons_succ, i64_w, i32_w]
                    rfl
                  refine pure_ (i := 10) (N := some 26) (v := ?_) (a' := ?_) #[true, true, true, true, true, true, true, true, true, true, true] rfl rfl (any_of HT_.out (by kernel_rfl)) (fun _ _ _ h => h) (Or.inl ⟨by rfl, ?_⟩) ?_ ?_
                  rotate_left
                  · intro w'
                    go_simp
                    with_reducible rfl
                  rotate_left
                  · simp only [Act.put, List.setIfInBounds_toArray, List.set_cons_zero, List.set_cons_succ, i64_w, i32_w]
                    rfl
                  refine done_ (done_of HT_.out (by kernel_rfl)) ?_
                  try go_wp2
                  go_roundg k1
                  case measure => have := HK1.out; omega
                  case rel => exact ⟨(wrap64 (x13_1 + 1)), (by first | rfl | (simp; done) | (simp [*]; done)), H', ⟨by have := HK1.out; omega⟩, ⟨by repeat (first | (with_reducible first | exact HB.out | apply below_alloc | apply pw_below_drewN | apply below_drew1) | exact HB.out)⟩⟩
                · rw [if_neg c10] at H
                  have c10b0 : (t348 == 0) = false := beq_eq_false_iff_ne.mpr c10
                  have c10b1 : (t348 != 0) = true := bne_iff_ne.mpr c10
                  obtain rfl := Option.some.inj H
                  try go_wp2
                  have n0_ := Aside0.mk (below_drew1 HB.out)
                  clear HB
                  have HB := n0_
                  clear n0_
                  have p337 : 0 ≤ (x13_1 : Int) := of_decide_eq_true (by first | (with_reducible assumption) | assumption)
                  have q337 : x13_1 < (l0.length : Int) := of_decide_eq_true (by first | (with_reducible assumption) | assumption)
                  obtain ⟨ad337, A337_4, c337_4, e337, hx337_0, hx337_1, hx337_2, hx337_3, hx337_4, hx337_5, hx337_6, hl337_4, hi337_4⟩ := at_T25 HR0.out x13_1 p337 q337
                  have hw337_6 := hx337_6
                  have hw337_5 := hx337_5
                  have hw337_4 := hx337_4
                  have hw337_3 := hx337_3
                  have hw337_2 := hx337_2
                  have hw337_1 := hx337_1
                  have hw337_0 := hx337_0
                  cases e337
                  replace hx337_0 := (HB.out.cell (World.block_lt_of_cell? w _ hx337_0)).trans hx337_0
                  replace hx337_1 := (HB.out.cell (World.block_lt_of_cell? w _ hx337_1)).trans hx337_1
                  replace hx337_2 := (HB.out.cell (World.block_lt_of_cell? w _ hx337_2)).trans hx337_2
                  replace hx337_3 := (HB.out.cell (World.block_lt_of_cell? w _ hx337_3)).trans hx337_3
                  replace hx337_4 := (HB.out.cell (World.block_lt_of_cell? w _ hx337_4)).trans hx337_4
                  replace hx337_5 := (HB.out.cell (World.block_lt_of_cell? w _ hx337_5)).trans hx337_5
                  replace hx337_6 := (HB.out.cell (World.block_lt_of_cell? w _ hx337_6)).trans hx337_6
                  have HR337_4 := Aside0.mk hi337_4
                  have HC337_4 := Aside0.mk hl337_4
                  clear hi337_4 hl337_4
                  replace p337 := eq_true p337
                  replace q337 := eq_true q337
                  have p347 : 0 ≤ (x13_1 : Int) := of_decide_eq_true (by first | (with_reducible assumption) | assumption)
                  have q347 : x13_1 < (l1.length : Int) := of_decide_eq_true (by first | (with_reducible assumption) | assumption)
                  obtain ⟨ad347, A347_4, c347_4, e347, hx347_0, hx347_1, hx347_2, hx347_3, hx347_4, hx347_5, hx347_6, hl347_4, hi347_4⟩ := at_T56 HR1.out x13_1 p347 q347
                  have hw347_6 := hx347_6
                  have hw347_5 := hx347_5
                  have hw347_4 := hx347_4
                  have hw347_3 := hx347_3
                  have hw347_2 := hx347_2
                  have hw347_1 := hx347_1
                  have hw347_0 := hx347_0
                  cases e347
                  replace hx347_0 := (HB.out.cell (World.block_lt_of_cell? w _ hx347_0)).trans hx347_0
                  replace hx347_1 := (HB.out.cell (World.block_lt_of_cell? w _ hx347_1)).trans hx347_1
                  replace hx347_2 := (HB.out.cell (World.block_lt_of_cell? w _ hx347_2)).trans hx347_2
                  replace hx347_3 := (HB.out.cell (World.block_lt_of_cell? w _ hx347_3)).trans hx347_3
                  replace hx347_4 := (HB.out.cell (World.block_lt_of_cell? w _ hx347_4)).trans hx347_4
                  replace hx347_5 := (HB.out.cell (World.block_lt_of_cell? w _ hx347_5)).trans hx347_5
                  replace hx347_6 := (HB.out.cell (World.block_lt_of_cell? w _ hx347_6)).trans hx347_6
                  have HR347_4 := Aside0.mk hi347_4
                  have HC347_4 := Aside0.mk hl347_4
                  clear hi347_4 hl347_4
                  replace p347 := eq_true p347
                  replace q347 := eq_true q347
                  refine start_ (n := 11) (S := fun w' => w'.cell? (ad337.add ((x13_1).toNat * 7)) = some (.string ((rd_T25 l0 x13_1).f0)) ∧ w'.cell? ⟨(ad337.add ((x13_1).toNat * 7)).block, (ad337.add ((x13_1).toNat * 7)).off + 1, none⟩ = some (.int .i64 ((rd_T25 l0 x13_1).f1)) ∧ w'.cell? ⟨(ad337.add ((x13_1).toNat * 7)).block, (ad337.add ((x13_1).toNat * 7)).off + 2, none⟩ = some (.int .u8 ((rd_T25 l0 x13_1).f2)) ∧ w'.cell? ⟨(ad337.add ((x13_1).toNat * 7)).block, (ad337.add ((x13_1).toNat * 7)).off + 3, none⟩ = some (.bool ((rd_T25 l0 x13_1).f3)) ∧ w'.cell? ⟨(ad337.add ((x13_1).toNat * 7)).block, (ad337.add ((x13_1).toNat * 7)).off + 4, none⟩ = some (.slice A337_4 ((rd_T25 l0 x13_1).f4).length c337_4) ∧ w'.cell? ⟨(ad337.add ((x13_1).toNat * 7)).block, (ad337.add ((x13_1).toNat * 7)).off + 5, none⟩ = some (.string ((rd_T25 l0 x13_1).f5)) ∧ w'.cell? ⟨(ad337.add ((x13_1).toNat * 7)).block, (ad337.add ((x13_1).toNat * 7)).off + 6, none⟩ = some (.string ((rd_T25 l0 x13_1).f6)) ∧ w'.cell? (ad347.add ((x13_1).toNat * 7)) = some (.string ((rd_T56 l1 x13_1).f0)) ∧ w'.cell? ⟨(ad347.add ((x13_1).toNat * 7)).block, (ad347.add ((x13_1).toNat * 7)).off + 1, none⟩ = some (.int .i64 ((rd_T56 l1 x13_1).f1)) ∧ w'.cell? ⟨(ad347.add ((x13_1).toNat * 7)).block, (ad347.add ((x13_1).toNat * 7)).off + 2, none⟩ = some (.int .u8 ((rd_T56 l1 x13_1).f2)) ∧ w'.cell? ⟨(ad347.add ((x13_1).toNat * 7)).block, (ad347.add ((x13_1).toNat * 7)).off + 3, none⟩ = some (.bool ((rd_T56 l1 x13_1).f3)) ∧ w'.cell? ⟨(ad347.add ((x13_1).toNat * 7)).block, (ad347.add ((x13_1).toNat * 7)).off + 4, none⟩ = some (.slice A347_4 ((rd_T56 l1 x13_1).f4).length c347_4) ∧ w'.cell? ⟨(ad347.add ((x13_1).toNat * 7)).block, (ad347.add ((x13_1).toNat * 7)).off + 5, none⟩ = some (.string ((rd_T56 l1 x13_1).f5)) ∧ w'.cell? ⟨(ad347.add ((x13_1).toNat * 7)).block, (ad347.add ((x13_1).toNat * 7)).off + 6, none⟩ = some (.string ((rd_T56 l1 x13_1).f6))) (ds := []) #[false, false, false, false, false, false, false, false, false, false, false] (by kernel_rfl) rfl rfl ⟨((HB.out.cell (World.block_lt_of_cell? w _ hw337_0)).trans hw337_0), ((HB.out.cell (World.block_lt_of_cell? w _ hw337_1)).trans hw337_1), ((HB.out.cell (World.block_lt_of_cell? w _ hw337_2)).trans hw337_2), ((HB.out.cell (World.block_lt_of_cell? w _ hw337_3)).trans hw337_3), ((HB.out.cell (World.block_lt_of_cell? w _ hw337_4)).trans hw337_4), ((HB.out.cell (World.block_lt_of_cell? w _ hw337_5)).trans hw337_5), ((HB.out.cell (World.block_lt_of_cell? w _ hw337_6)).trans hw337_6), ((HB.out.cell (World.block_lt_of_cell? w _ hw347_0)).trans hw347_0), ((HB.out.cell (World.block_lt_of_cell? w _ hw347_1)).trans hw347_1), ((HB.out.cell (World.block_lt_of_cell? w _ hw347_2)).trans hw347_2), ((HB.out.cell (World.block_lt_of_cell? w _ hw347_3)).trans hw347_3), ((HB.out.cell (World.block_lt_of_cell? w _ hw347_4)).trans hw347_4), ((HB.out.cell (World.block_lt_of_cell? w _ hw347_5)).trans hw347_5), ((HB.out.cell (World.block_lt_of_cell? w _ hw347_6)).trans hw347_6)⟩ (fun hHeld => ?_); refine with_tabW switchboardlaw12_Is.tab6 switchboardlaw12_Is.bits6 (fun HT_ HW_ => ?_)
                  generalize wr.drew = w15 at HB HR337_4 HR347_4 hx337_0 hx337_1 hx337_2 hx337_3 hx337_4 hx337_5 hx337_6 hx347_0 hx347_1 hx347_2 hx347_3 hx347_4 hx347_5 hx347_6 hHeld ⊢
                  refine pure_ (i := 0) (N := some 16) (v := ?_) (a' := ?_) #[true, false, false, false, false, false, false, false, false, false, false] rfl rfl (any_of HT_.out (by kernel_rfl)) (fun _ _ _ h => h) (Or.inl ⟨by rfl, ?_⟩) ?_ ?_
                  rotate_left
                  · intro w'
                    go_simp
                    with_reducible rfl
                  rotate_left
                  · simp only [Act.put, List.setIfInBounds_toArray, List.set_cons_zero, List.set_cons_succ, i64_w, i32_w]
                    rfl
                  refine pure_ (i := 1) (N := some 17) (v := ?_) (a' := ?_) #[true, true, false, false, false, false, false, false, false, false, false] rfl rfl (any_of HT_.out (by kernel_rfl)) (fun _ _ _ h => h) (Or.inl ⟨by rfl, ?_⟩) ?_ ?_
                  rotate_left
                  · intro w'
                    go_simp
                    with_reducible rfl
                  rotate_left
                  · simp only [Act.put, List.setIfInBounds_toArray, List.set_cons_zero, List.set_cons_succ, i64_w, i32_w]
                    rfl
                  refine pure_ (i := 2) (N := some 18) (v := ?_) (a' := ?_) #[true, true, true, false, false, false, false, false, false, false, false] rfl rfl (any_of HT_.out (by kernel_rfl)) (fun _ _ _ h => h) (Or.inl ⟨by rfl, ?_⟩) ?_ ?_
                  rotate_left
                  · intro w'
                    go_simp
                    with_reducible rfl
                  rotate_left
                  · simp only [Act.put, List.setIfInBounds_toArray, List.set_cons_zero, List.set_cons_succ, i64_w, i32_w]
                    rfl
                  refine pure_ (i := 5) (N := some 21) (v := ?_) (a' := ?_) #[true, true, true, false, false, true, false, false, false, false, false] rfl rfl (any_of HT_.out (by kernel_rfl)) (fun _ _ _ h => h) (Or.inl ⟨by rfl, ?_⟩) ?_ ?_
                  rotate_left
                  · intro w'
                    go_simp
                    with_reducible rfl
                  rotate_left
                  · simp only [Act.put, List.setIfInBounds_toArray, List.set_cons_zero, List.set_cons_succ, i64_w, i32_w]
                    rfl
                  refine pure_ (i := 6) (N := some 22) (v := ?_) (a' := ?_) #[true, true, true, false, false, true, true, false, false, false, false] rfl rfl (any_of HT_.out (by kernel_rfl)) (fun _ _ _ h => h) (Or.inl ⟨by rfl, ?_⟩) ?_ ?_
                  rotate_left
                  · intro w'
                    go_simp
                    with_reducible rfl
                  rotate_left
                  · simp only [Act.put, List.setIfInBounds_toArray, List.set_cons_zero, List.set_cons_succ, i64_w, i32_w]
                    rfl
                  refine pure_ (i := 7) (N := some 23) (v := ?_) (a' := ?_) #[true, true, true, false, false, true, true, true, false, false, false] rfl rfl (any_of HT_.out (by kernel_rfl)) (fun _ _ _ h => h) (Or.inl ⟨by rfl, ?_⟩) ?_ ?_
                  rotate_left
                  · intro w'
                    go_simp
                    with_reducible rfl
                  rotate_left
                  · simp only [Act.put, List.setIfInBounds_toArray, List.set_cons_zero, List.set_cons_succ, i64_w, i32_w]
                    rfl
                  refine take_ (i := 3) (N := some 19) (v := ?_) (a' := ?_) #[true, true, true, true, false, true, true, true, false, false, false] rfl rfl (take_ofW HT_.out HW_.out (by kernel_rfl)) (fun _ _ _ h => h) (Or.inl ⟨by rfl, ?_⟩) hHeld ?_ ?_
                  rotate_left
                  · rintro w' ⟨s0, s1, s2, s3, s4, s5, s6, s7, s8, s9, s10, s11, s12, s13⟩
                    go_simp
                    with_reducible rfl
                  rotate_left
                  · simp only [Act.put, List.setIfInBounds_toArray, List.set_cons_zero, List.set_cons_succ, i64_w, i32_w]
                    rfl
                  refine take_ (i := 8) (N := some 24) (v := ?_) (a' := ?_) #[true, true, true, true, false, true, true, true, true, false, false] rfl rfl (take_ofW HT_.out HW_.out (by kernel_rfl)) (fun _ _ _ h => h) (Or.inl ⟨by rfl, ?_⟩) hHeld ?_ ?_
                  rotate_left
                  · rintro w' ⟨s0, s1, s2, s3, s4, s5, s6, s7, s8, s9, s10, s11, s12, s13⟩
                    go_simp
                    with_reducible rfl
                  rotate_left
                  · simp only [Act.put, List.setIfInBounds_toArray, List.set_cons_zero, List.set_cons_succ, i64_w, i32_w]
                    rfl
                  refine one_ (i := 4) (N := some 20) #[true, true, true, true, true, true, true, true, true, false, false] rfl rfl (one_of HT_.out (by kernel_rfl)) (by decide) (fun K hK => ?_)
                  refine goes_ Tryd.func23 (by kernel_rfl) rfl #[.agg #[.string ((rd_T25 l0 x13_1).f0), .int .i64 ((rd_T25 l0 x13_1).f1), .int .u8 ((rd_T25 l0 x13_1).f2), .bool ((rd_T25 l0 x13_1).f3), .slice A337_4 ((rd_T25 l0 x13_1).f4).length c337_4, .string ((rd_T25 l0 x13_1).f5), .string ((rd_T25 l0 x13_1).f6)]] (by rfl) rfl rfl (by (try simp only [List.map_toArray, List.map_cons, List.map_nil]); first | done | rfl | (simp only [List.length_drop, List.length_take]; rfl)) ?_
                  with_reducible refine (switchboardlaw12_Told.calls k1 ((rd_T25 l0 x13_1).f0) ((rd_T25 l0 x13_1).f1) ((rd_T25 l0 x13_1).f2) ((rd_T25 l0 x13_1).f3) _ _ ((rd_T25 l0 x13_1).f4) ((rd_T25 l0 x13_1).f5) ((rd_T25 l0 x13_1).f6) t338 t339 t340 t341 t342 t345 t346 _ ?side1 ?side2 A7.out).mono ?_
                  (case side1 => repeat (first | exact (Kd.C_below HR337_4.out HB.out) | (with_reducible refine Kd.C_alloc ?_ _) | (with_reducible refine Kd.C_drewN ?_ _) | (with_reducible refine Kd.C_drew ?_)))
                  (case side2 => exact HC337_4.out)
                  rintro e w16 ⟨v343, rfl, ho0, hb⟩
                  refine ⟨_, rfl, ?_⟩
                  have n0_ := Aside0.mk (Kd.R_lower ho0 (below_size (by repeat (first | (with_reducible first | exact HB.out | apply below_alloc | apply pw_below_drewN | apply below_drew1) | exact HB.out))))
                  have n1_ := Aside0.mk (below_step (by repeat (first | (with_reducible first | exact HB.out | apply below_alloc | apply pw_below_drewN | apply below_drew1) | exact HB.out)) hb)
                  clear HB
                  have HO344 := n0_
                  have HB := n1_
                  clear n0_ n1_
                  (try clear hb)
                  (try clear hb2)
                  (try clear hk)
                  (try clear hi)
                  (try clear ho0)
                  obtain ⟨Ao17, co17, eo17⟩ := Kd.R_slice HO344.out
                  (first | subst eo17 | (injection eo17 with f1_ f2_ f3_; have f4_ := f1_.symm; have f5_ := f3_.symm; clear f1_ f2_ f3_; subst f4_; subst f5_))
                  refine hK.out _ _ ⟨((HB.out.cell (World.block_lt_of_cell? w _ hw337_0)).trans hw337_0), ((HB.out.cell (World.block_lt_of_cell? w _ hw337_1)).trans hw337_1), ((HB.out.cell (World.block_lt_of_cell? w _ hw337_2)).trans hw337_2), ((HB.out.cell (World.block_lt_of_cell? w _ hw337_3)).trans hw337_3), ((HB.out.cell (World.block_lt_of_cell? w _ hw337_4)).trans hw337_4), ((HB.out.cell (World.block_lt_of_cell? w _ hw337_5)).trans hw337_5), ((HB.out.cell (World.block_lt_of_cell? w _ hw337_6)).trans hw337_6), ((HB.out.cell (World.block_lt_of_cell? w _ hw347_0)).trans hw347_0), ((HB.out.cell (World.block_lt_of_cell? w _ hw347_1)).trans hw347_1), ((HB.out.cell (World.block_lt_of_cell? w _ hw347_2)).trans hw347_2), ((HB.out.cell (World.block_lt_of_cell? w _ hw347_3)).trans hw347_3), ((HB.out.cell (World.block_lt_of_cell? w _ hw347_4)).trans hw347_4), ((HB.out.cell (World.block_lt_of_cell? w _ hw347_5)).trans hw347_5), ((HB.out.cell (World.block_lt_of_cell? w _ hw347_6)).trans hw347_6)⟩ (fun hHeld => ?_)
                  clear hK K
                  refine norm_ (a' := ?_) ?_ ?_
                  rotate_left
                  · show Act.put _ (some 20) _ = _
                    simp only [Act.put, List.setIfInBounds_toArray, List.set_cons_zero, List.set_cons_succ, i64_w, i32_w]
                    rfl
                  refine one_ (i := 9) (N := some 25) #[true, true, true, true, true, true, true, true, true, true, false] rfl rfl (one_of HT_.out (by kernel_rfl)) (by decide) (fun K hK => ?_)
                  refine goes_ Tryd.func24 (by kernel_rfl) rfl #[.agg #[.string t338, .int .i64 t339, .int .u8 t340, .bool t341, .slice Ao17 t342.length co17, .string t345, .string t346], .agg #[.string ((rd_T56 l1 x13_1).f0), .int .i64 ((rd_T56 l1 x13_1).f1), .int .u8 ((rd_T56 l1 x13_1).f2), .bool ((rd_T56 l1 x13_1).f3), .slice A347_4 ((rd_T56 l1 x13_1).f4).length c347_4, .string ((rd_T56 l1 x13_1).f5), .string ((rd_T56 l1 x13_1).f6)]] (by rfl) rfl rfl (by (try simp only [List.map_toArray, List.map_cons, List.map_nil]); first | done | rfl | (simp only [List.length_drop, List.length_take]; rfl)) ?_
                  with_reducible refine (switchboardlaw12_Same.calls k1 t338 t339 t340 t341 _ _ t342 t345 t346 ((rd_T56 l1 x13_1).f0) ((rd_T56 l1 x13_1).f1) ((rd_T56 l1 x13_1).f2) ((rd_T56 l1 x13_1).f3) _ _ ((rd_T56 l1 x13_1).f4) ((rd_T56 l1 x13_1).f5) ((rd_T56 l1 x13_1).f6) t348 _ ?side1 ?side2 ?side3 ?side4 A9.out).mono ?_
                  (case side1 => repeat (first | exact (Kd.R_reads' HO344.out).2.2 | (with_reducible refine Kd.C_alloc ?_ _) | (with_reducible refine Kd.C_drewN ?_ _) | (with_reducible refine Kd.C_drew ?_)))
                  (case side2 => exact (Kd.R_reads' HO344.out).2.1)
                  (case side3 => repeat (first | exact (Kd.C_below HR347_4.out HB.out) | (with_reducible refine Kd.C_alloc ?_ _) | (with_reducible refine Kd.C_drewN ?_ _) | (with_reducible refine Kd.C_drew ?_)))
                  (case side4 => exact HC347_4.out)
                  rintro e w18 ⟨rfl, hb⟩
                  refine ⟨_, rfl, ?_⟩
                  have n0_ := Aside0.mk (Kd.R_below (by (with_reducible repeat (first | apply Kd.R_alloc | apply Kd.R_drewN | apply Kd.R_drew)); exact HO344.out) hb)
                  have n1_ := Aside0.mk (below_step (by repeat (first | (with_reducible first | exact HB.out | apply below_alloc | apply pw_below_drewN | apply below_drew1) | exact HB.out)) hb)
                  clear HO344
                  clear HB
                  have HO344 := n0_
                  have HB := n1_
                  clear n0_ n1_
                  (try clear hb)
                  (try clear hb2)
                  (try clear hk)
                  (try clear hi)
                  refine hK.out _ _ ⟨((HB.out.cell (World.block_lt_of_cell? w _ hw337_0)).trans hw337_0), ((HB.out.cell (World.block_lt_of_cell? w _ hw337_1)).trans hw337_1), ((HB.out.cell (World.block_lt_of_cell? w _ hw337_2)).trans hw337_2), ((HB.out.cell (World.block_lt_of_cell? w _ hw337_3)).trans hw337_3), ((HB.out.cell (World.block_lt_of_cell? w _ hw337_4)).trans hw337_4), ((HB.out.cell (World.block_lt_of_cell? w _ hw337_5)).trans hw337_5), ((HB.out.cell (World.block_lt_of_cell? w _ hw337_6)).trans hw337_6), ((HB.out.cell (World.block_lt_of_cell? w _ hw347_0)).trans hw347_0), ((HB.out.cell (World.block_lt_of_cell? w _ hw347_1)).trans hw347_1), ((HB.out.cell (World.block_lt_of_cell? w _ hw347_2)).trans hw347_2), ((HB.out.cell (World.block_lt_of_cell? w _ hw347_3)).trans hw347_3), ((HB.out.cell (World.block_lt_of_cell? w _ hw347_4)).trans hw347_4), ((HB.out.cell (World.block_lt_of_cell? w _ hw347_5)).trans hw347_5), ((HB.out.cell (World.block_lt_of_cell? w _ hw347_6)).trans hw347_6)⟩ (fun hHeld => ?_)
                  clear hK K
                  refine norm_ (a' := ?_) ?_ ?_
                  rotate_left
                  · show Act.put _ (some 25) _ = _
                    simp only [Act.put, List.setIfInBounds_toArray, List.set_cons_zero, List.set_cons_succ, i64_w, i32_w]
                    rfl
                  refine pure_ (i := 10) (N := some 26) (v := ?_) (a' := ?_) #[true, true, true, true, true, true, true, true, true, true, true] rfl rfl (any_of HT_.out (by kernel_rfl)) (fun _ _ _ h => h) (Or.inl ⟨by rfl, ?_⟩) ?_ ?_
                  rotate_left
                  · intro w'
                    go_simp
                    with_reducible rfl
                  rotate_left
                  · simp only [Act.put, List.setIfInBounds_toArray, List.set_cons_zero, List.set_cons_succ, i64_w, i32_w]
                    rfl
                  refine done_ (done_of HT_.out (by kernel_rfl)) ?_
                  try go_wp2
                  go_ret
                  exact ⟨by first | rfl | (simp [errW_none, errW_some] <;> rfl) | (simp [*, errW_none, errW_some] <;> rfl), by repeat (first | (with_reducible first | exact HB.out | apply below_alloc | apply pw_below_drewN | apply below_drew1) | exact HB.out)⟩
              · rw [if_neg c8] at H
                exact absurd H (by simp)
            · rw [if_neg c6] at H
              exact absurd H (by simp)
          · rw [if_neg c5] at H
            exact absurd H (by simp)
        · rw [if_neg c4] at H
          have c4b0 : decide (x13_1 < (l1.length : Int)) = false := decide_eq_false c4
          clear c4
          obtain rfl := Option.some.inj H
          go_wp2
          go_ret
          exact ⟨by first | rfl | (simp [errW_none, errW_some] <;> rfl) | (simp [*, errW_none, errW_some] <;> rfl), by repeat (first | (with_reducible first | exact HB.out | apply below_alloc | apply pw_below_drewN | apply below_drew1) | exact HB.out)⟩
  · rw [if_neg c3] at H
    have c3b0 : ((l0.length : Int) == (l1.length : Int)) = false := beq_eq_false_iff_ne.mpr c3
    have c3b1 : ((l0.length : Int) != (l1.length : Int)) = true := bne_iff_ne.mpr c3
    have c3b2 : (l0.length == l1.length) = false := by first | simpa using c3 | (simp at c3 ⊢; omega)
    obtain rfl := Option.some.inj H
    go_enter Tryd.func33, Tryd.ntmps33
    go_wp2
    go_ret
    exact ⟨by first | rfl | (simp [errW_none, errW_some] <;> rfl) | (simp [*, errW_none, errW_some] <;> rfl), by repeat (first | (with_reducible first | exact HB.out | apply below_alloc | apply pw_below_drewN | apply below_drew1) | exact HB.out)⟩
end Go.Proofs.YtbgondiibnjcgaaDoor.PRetainPlays
