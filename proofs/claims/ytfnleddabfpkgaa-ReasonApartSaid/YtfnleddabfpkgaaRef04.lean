/- The document's codes (switchboardref04): what they answer. -/
import Derived.Test.YtfnleddabfpkgaaRsn
namespace Go.Proofs.Ytfnleddabfpkgaa
open Go.RowKit
set_option maxRecDepth 10000
set_option linter.unusedVariables false
set_option maxHeartbeats 1000000

theorem among_any (n : Int) (l : List Int) (r : Bool) (b cap : Nat) (w : World) (hl : l.length < 1000) (hr : l.contains n = r) (hB : Blk w b (l.map (Value.int .i64)).toArray 3) :
    Calls Try.prog 46 #[.int .i64 n, .slice (some ⟨b, 0, none⟩) l.length cap] w fun e w' => e = .returned (.bool r) ∧ w = w' := by
  have HR := hide hr
  clear hr
  have hc : ∀ i, i < l.length → w.cell? ⟨b, i, none⟩ = some (.int .i64 (l.getD i 0)) := by
    intro i hi
    rw [hB.cell i, List.getD_eq_getElem?_getD, List.getElem?_eq_getElem hi]
    simp [List.getElem?_eq_getElem hi]
  go_enter Try.func46, Try.ntmps46
  go_wp2
  go_loop [9] (fun i => ∃ k : Nat, k ≤ l.length ∧ i = .int .i64 k ∧ Hid (∀ j, j < k → l.getD j 0 ≠ n)) (fun i => l.length - (intOf i).toNat)
  case atStart => exact ⟨0, by omega, rfl, hide (fun j hj => by omega)⟩
  case round =>
    obtain ⟨k, hk, rfl, hno⟩ := hrel
    by_cases hlt : k < l.length
    · have hcell := hc k hlt
      have hcell' : w.cell? ⟨b, 0 + k, none⟩ = some (.int .i64 (l.getD k 0)) := by simpa using hcell
      clear hc
      by_cases he : l.getD k 0 = n
      · have hb : (l.getD k 0 == n) = true := by simpa using he
        have hin : l.contains n = true := by
          have : l.getD k 0 ∈ l := by
            rw [List.getD_eq_getElem?_getD, List.getElem?_eq_getElem hlt]; simp
          rw [he] at this
          simpa using this
        obtain rfl : r = true := HR.out.symm.trans hin
        clear he hin
        generalize l.getD k 0 = x at *
        go_wp2
        go_ret
        exact ⟨rfl, rfl⟩
      · have hb : (l.getD k 0 == n) = false := by simpa using he
        have HN := hide (show ∀ j, j < k + 1 → l.getD j 0 ≠ n by
          intro j hj
          by_cases e : j = k
          · rw [e]; exact he
          · exact hno.out j (by omega))
        clear he
        generalize l.getD k 0 = x at *
        go_wp2
        go_round
        case rel => exact ⟨k + 1, by omega, by go_num, HN⟩
        case measure => simp [intOf]; omega
    · have hn : l.contains n = false := by
        rw [← Bool.not_eq_true, List.contains_iff_mem]
        intro hm
        obtain ⟨j, hj, e⟩ := List.getElem_of_mem hm
        exact hno.out j (by omega) (by rw [List.getD_eq_getElem?_getD, List.getElem?_eq_getElem hj]; exact e)
      obtain rfl : r = false := HR.out.symm.trans hn
      clear hn hc
      go_wp2
      go_ret
      exact ⟨rfl, rfl⟩

theorem may2 (c : Int) (h0 : 0 ≤ c) (h1 : c ≤ 255) : Rsn.may 2 c = (c == 0 || (decide (128 ≤ c) && decide (c ≤ 138)) || ([140, 144, 149, 151, 153, 154, 155, 156, 157, 159] : List Int).contains c) := by
  have h : ∀ n : Fin 256, Rsn.may 2 (n.val : Int) = ((n.val : Int) == 0 || (decide (128 ≤ (n.val : Int)) && decide ((n.val : Int) ≤ 138)) || ([140, 144, 149, 151, 153, 154, 155, 156, 157, 159] : List Int).contains (n.val : Int)) := by decide +kernel
  obtain ⟨n, rfl⟩ := Int.eq_ofNat_of_zero_le h0
  exact h ⟨n, by omega⟩

theorem may4 (c : Int) (h0 : 0 ≤ c) (h1 : c ≤ 255) : Rsn.may 4 c = (([0, 16, 128, 131, 135, 144, 145, 151, 153] : List Int).contains c) := by
  have h : ∀ n : Fin 256, Rsn.may 4 (n.val : Int) = (([0, 16, 128, 131, 135, 144, 145, 151, 153] : List Int).contains (n.val : Int)) := by decide +kernel
  obtain ⟨n, rfl⟩ := Int.eq_ofNat_of_zero_le h0
  exact h ⟨n, by omega⟩

theorem may5 (c : Int) (h0 : 0 ≤ c) (h1 : c ≤ 255) : Rsn.may 5 c = (([0, 16, 128, 131, 135, 144, 145, 151, 153] : List Int).contains c) := by
  have h : ∀ n : Fin 256, Rsn.may 5 (n.val : Int) = (([0, 16, 128, 131, 135, 144, 145, 151, 153] : List Int).contains (n.val : Int)) := by decide +kernel
  obtain ⟨n, rfl⟩ := Int.eq_ofNat_of_zero_le h0
  exact h ⟨n, by omega⟩

theorem may6 (c : Int) (h0 : 0 ≤ c) (h1 : c ≤ 255) : Rsn.may 6 c = (c == 0 || c == 146) := by
  have h : ∀ n : Fin 256, Rsn.may 6 (n.val : Int) = ((n.val : Int) == 0 || (n.val : Int) == 146) := by decide +kernel
  obtain ⟨n, rfl⟩ := Int.eq_ofNat_of_zero_le h0
  exact h ⟨n, by omega⟩

theorem may7 (c : Int) (h0 : 0 ≤ c) (h1 : c ≤ 255) : Rsn.may 7 c = (c == 0 || c == 146) := by
  have h : ∀ n : Fin 256, Rsn.may 7 (n.val : Int) = ((n.val : Int) == 0 || (n.val : Int) == 146) := by decide +kernel
  obtain ⟨n, rfl⟩ := Int.eq_ofNat_of_zero_le h0
  exact h ⟨n, by omega⟩

theorem may9 (c : Int) (h0 : 0 ≤ c) (h1 : c ≤ 255) : Rsn.may 9 c = (decide (c ≤ 2) || ([128, 131, 135, 143, 145, 151, 158, 161, 162] : List Int).contains c) := by
  have h : ∀ n : Fin 256, Rsn.may 9 (n.val : Int) = (decide ((n.val : Int) ≤ 2) || ([128, 131, 135, 143, 145, 151, 158, 161, 162] : List Int).contains (n.val : Int)) := by decide +kernel
  obtain ⟨n, rfl⟩ := Int.eq_ofNat_of_zero_le h0
  exact h ⟨n, by omega⟩

theorem may11 (c : Int) (h0 : 0 ≤ c) (h1 : c ≤ 255) : Rsn.may 11 c = (([0, 17, 128, 131, 135, 143, 145] : List Int).contains c) := by
  have h : ∀ n : Fin 256, Rsn.may 11 (n.val : Int) = (([0, 17, 128, 131, 135, 143, 145] : List Int).contains (n.val : Int)) := by decide +kernel
  obtain ⟨n, rfl⟩ := Int.eq_ofNat_of_zero_le h0
  exact h ⟨n, by omega⟩

theorem may14 (c : Int) (h0 : 0 ≤ c) (h1 : c ≤ 255) : Rsn.may 14 c = (c == 0 || c == 4 || (decide (128 ≤ c) && decide (c ≤ 131)) || (decide (147 ≤ c) && decide (c ≤ 162)) || ([135, 137, 139, 141, 142, 143, 144] : List Int).contains c) := by
  have h : ∀ n : Fin 256, Rsn.may 14 (n.val : Int) = ((n.val : Int) == 0 || (n.val : Int) == 4 || (decide (128 ≤ (n.val : Int)) && decide ((n.val : Int) ≤ 131)) || (decide (147 ≤ (n.val : Int)) && decide ((n.val : Int) ≤ 162)) || ([135, 137, 139, 141, 142, 143, 144] : List Int).contains (n.val : Int)) := by decide +kernel
  obtain ⟨n, rfl⟩ := Int.eq_ofNat_of_zero_le h0
  exact h ⟨n, by omega⟩

theorem may15 (c : Int) (h0 : 0 ≤ c) (h1 : c ≤ 255) : Rsn.may 15 c = (([0, 24, 25] : List Int).contains c) := by
  have h : ∀ n : Fin 256, Rsn.may 15 (n.val : Int) = (([0, 24, 25] : List Int).contains (n.val : Int)) := by decide +kernel
  obtain ⟨n, rfl⟩ := Int.eq_ofNat_of_zero_le h0
  exact h ⟨n, by omega⟩

theorem mayElse (k c : Int) (n2 n4 n5 n6 n7 n9 n11 n14 n15 : True) (h : k ≠ 2 ∧ k ≠ 4 ∧ k ≠ 5 ∧ k ≠ 6 ∧ k ≠ 7 ∧ k ≠ 9 ∧ k ≠ 11 ∧ k ≠ 14 ∧ k ≠ 15) : Rsn.may k c = false := by
  obtain ⟨m2, m4, m5, m6, m7, m9, m11, m14, m15⟩ := h
  unfold Rsn.may Rsn.codes; simp [m2, m4, m5, m6, m7, m9, m11, m14, m15]

theorem refMay2 (c : Int) (h0 : 0 ≤ c) (h1 : c ≤ 255) (w : World) : Calls Try.prog 31 #[.int .i64 2, .int .i64 c] w fun e w' => e = .returned (.bool (Rsn.may 2 c)) ∧ Keep [] w w' := by
  have HM := hide (may2 c h0 h1)
  have hs : (c = 0) ∨ (c ≠ 0 ∧ 128 ≤ c ∧ c ≤ 138) ∨ (c ≠ 0 ∧ 128 ≤ c ∧ 138 < c) ∨ (c ≠ 0 ∧ c < 128) := by omega
  rcases hs with h | h | h | h
  · obtain rfl : c = 0 := h
    have HX := hide (show ∀ X : Bool, ((0 : Int) == 0 || (decide (128 ≤ (0 : Int)) && decide ((0 : Int) ≤ 138)) || X) = true by intro X; cases X <;> simp <;> try omega)
    go_enter Try.func31, Try.ntmps31
    go_wp2
    go_ret
    exact ⟨congrArg (fun b => Ending.returned (Value.bool b)) (HM.out.trans (HX.out _)).symm, Keep.refl _ _⟩
  · obtain ⟨h0, h1, h2⟩ := h; have b0 : (c == 0) = false := by simpa using h0
    have HX := hide (show ∀ X : Bool, (c == 0 || (decide (128 ≤ c) && decide (c ≤ 138)) || X) = true by intro X; cases X <;> simp <;> try omega)
    go_enter Try.func31, Try.ntmps31
    go_wp2
    go_ret
    exact ⟨congrArg (fun b => Ending.returned (Value.bool b)) (HM.out.trans (HX.out _)).symm, Keep.refl _ _⟩
  · obtain ⟨h0, h1, h2⟩ := h; have b0 : (c == 0) = false := (by simpa using h0); have b1 : decide (c ≤ 138) = false := decide_eq_false (by omega)
    have HX := hide (show ∀ X : Bool, (c == 0 || (decide (128 ≤ c) && decide (c ≤ 138)) || X) = X by intro X; cases X <;> simp <;> try omega)
    go_enter Try.func31, Try.ntmps31
    go_wp2_with fail
    refine (among_any _ [140, 144, 149, 151, 153, 154, 155, 156, 157, 159] (Rsn.may 2 c) _ _ _ (by decide) (HM.out.trans (HX.out _)).symm (Blk.new _ _ _)).mono ?_
    rintro e w1 ⟨rfl, rfl⟩
    go_wp2_with fail
    go_ret
    exact ⟨rfl, (Keep.refl _ _).alloc _⟩
  · obtain ⟨h0, h1⟩ := h; have b0 : (c == 0) = false := by simpa using h0
    have HX := hide (show ∀ X : Bool, (c == 0 || (decide (128 ≤ c) && decide (c ≤ 138)) || X) = X by intro X; cases X <;> simp <;> try omega)
    go_enter Try.func31, Try.ntmps31
    go_wp2_with fail
    refine (among_any _ [140, 144, 149, 151, 153, 154, 155, 156, 157, 159] (Rsn.may 2 c) _ _ _ (by decide) (HM.out.trans (HX.out _)).symm (Blk.new _ _ _)).mono ?_
    rintro e w1 ⟨rfl, rfl⟩
    go_wp2_with fail
    go_ret
    exact ⟨rfl, (Keep.refl _ _).alloc _⟩

theorem refMay4 (c : Int) (h0 : 0 ≤ c) (h1 : c ≤ 255) (w : World) : Calls Try.prog 31 #[.int .i64 4, .int .i64 c] w fun e w' => e = .returned (.bool (Rsn.may 4 c)) ∧ Keep [] w w' := by
  have HB := hide (may4 c h0 h1)
  go_enter Try.func31, Try.ntmps31
  go_wp2_with fail
  refine (among_any _ [0, 16, 128, 131, 135, 144, 145, 151, 153] (Rsn.may 4 c) _ _ _ (by decide) HB.out.symm (Blk.new _ _ _)).mono ?_
  rintro e w1 ⟨rfl, rfl⟩
  go_wp2_with fail
  go_ret
  exact ⟨rfl, (Keep.refl _ _).alloc _⟩

theorem refMay5 (c : Int) (h0 : 0 ≤ c) (h1 : c ≤ 255) (w : World) : Calls Try.prog 31 #[.int .i64 5, .int .i64 c] w fun e w' => e = .returned (.bool (Rsn.may 5 c)) ∧ Keep [] w w' := by
  have HB := hide (may5 c h0 h1)
  go_enter Try.func31, Try.ntmps31
  go_wp2_with fail
  refine (among_any _ [0, 16, 128, 131, 135, 144, 145, 151, 153] (Rsn.may 5 c) _ _ _ (by decide) HB.out.symm (Blk.new _ _ _)).mono ?_
  rintro e w1 ⟨rfl, rfl⟩
  go_wp2_with fail
  go_ret
  exact ⟨rfl, (Keep.refl _ _).alloc _⟩

theorem refMay6 (c : Int) (h0 : 0 ≤ c) (h1 : c ≤ 255) (w : World) : Calls Try.prog 31 #[.int .i64 6, .int .i64 c] w fun e w' => e = .returned (.bool (Rsn.may 6 c)) ∧ Keep [] w w' := by
  have HM := hide (may6 c h0 h1)
  have hs : (c = 0) ∨ (c ≠ 0) := by omega
  rcases hs with h | h
  · obtain rfl : c = 0 := h
    have HX := hide (show ((0 : Int) == 0 || (0 : Int) == 146) = true by simp)
    go_enter Try.func31, Try.ntmps31
    go_wp2
    go_ret
    exact ⟨congrArg (fun b => Ending.returned (Value.bool b)) (HM.out.trans HX.out).symm, Keep.refl _ _⟩
  · have b0 : (c == 0) = false := by simpa using h
    have HX := hide (show (c == 0 || c == 146) = (c == 146) by rw [b0]; rfl)
    go_enter Try.func31, Try.ntmps31
    go_wp2
    go_ret
    exact ⟨congrArg (fun b => Ending.returned (Value.bool b)) (HM.out.trans HX.out).symm, Keep.refl _ _⟩

theorem refMay7 (c : Int) (h0 : 0 ≤ c) (h1 : c ≤ 255) (w : World) : Calls Try.prog 31 #[.int .i64 7, .int .i64 c] w fun e w' => e = .returned (.bool (Rsn.may 7 c)) ∧ Keep [] w w' := by
  have HM := hide (may7 c h0 h1)
  have hs : (c = 0) ∨ (c ≠ 0) := by omega
  rcases hs with h | h
  · obtain rfl : c = 0 := h
    have HX := hide (show ((0 : Int) == 0 || (0 : Int) == 146) = true by simp)
    go_enter Try.func31, Try.ntmps31
    go_wp2
    go_ret
    exact ⟨congrArg (fun b => Ending.returned (Value.bool b)) (HM.out.trans HX.out).symm, Keep.refl _ _⟩
  · have b0 : (c == 0) = false := by simpa using h
    have HX := hide (show (c == 0 || c == 146) = (c == 146) by rw [b0]; rfl)
    go_enter Try.func31, Try.ntmps31
    go_wp2
    go_ret
    exact ⟨congrArg (fun b => Ending.returned (Value.bool b)) (HM.out.trans HX.out).symm, Keep.refl _ _⟩

theorem refMay9 (c : Int) (h0 : 0 ≤ c) (h1 : c ≤ 255) (w : World) : Calls Try.prog 31 #[.int .i64 9, .int .i64 c] w fun e w' => e = .returned (.bool (Rsn.may 9 c)) ∧ Keep [] w w' := by
  have HM := hide (may9 c h0 h1)
  have hs : (c ≤ 2) ∨ (2 < c) := by omega
  rcases hs with h | h
  · have HX := hide (show ∀ X : Bool, (decide (c ≤ 2) || X) = true by intro X; cases X <;> simp <;> try omega)
    go_enter Try.func31, Try.ntmps31
    go_wp2
    go_ret
    exact ⟨congrArg (fun b => Ending.returned (Value.bool b)) (HM.out.trans (HX.out _)).symm, Keep.refl _ _⟩
  · have b1 : decide (c ≤ 2) = false := decide_eq_false (by omega)
    have HX := hide (show ∀ X : Bool, (decide (c ≤ 2) || X) = X by intro X; cases X <;> simp <;> try omega)
    go_enter Try.func31, Try.ntmps31
    go_wp2_with fail
    refine (among_any _ [128, 131, 135, 143, 145, 151, 158, 161, 162] (Rsn.may 9 c) _ _ _ (by decide) (HM.out.trans (HX.out _)).symm (Blk.new _ _ _)).mono ?_
    rintro e w1 ⟨rfl, rfl⟩
    go_wp2_with fail
    go_ret
    exact ⟨rfl, (Keep.refl _ _).alloc _⟩

theorem refMay11 (c : Int) (h0 : 0 ≤ c) (h1 : c ≤ 255) (w : World) : Calls Try.prog 31 #[.int .i64 11, .int .i64 c] w fun e w' => e = .returned (.bool (Rsn.may 11 c)) ∧ Keep [] w w' := by
  have HB := hide (may11 c h0 h1)
  go_enter Try.func31, Try.ntmps31
  go_wp2_with fail
  refine (among_any _ [0, 17, 128, 131, 135, 143, 145] (Rsn.may 11 c) _ _ _ (by decide) HB.out.symm (Blk.new _ _ _)).mono ?_
  rintro e w1 ⟨rfl, rfl⟩
  go_wp2_with fail
  go_ret
  exact ⟨rfl, (Keep.refl _ _).alloc _⟩

theorem refMay14 (c : Int) (h0 : 0 ≤ c) (h1 : c ≤ 255) (w : World) : Calls Try.prog 31 #[.int .i64 14, .int .i64 c] w fun e w' => e = .returned (.bool (Rsn.may 14 c)) ∧ Keep [] w w' := by
  have HM := hide (may14 c h0 h1)
  have hs : (c = 0) ∨ (c = 4) ∨ (c ≠ 0 ∧ c ≠ 4 ∧ 128 ≤ c ∧ c ≤ 131) ∨ (c ≠ 0 ∧ c ≠ 4 ∧ 131 < c ∧ c < 147) ∨ (c ≠ 0 ∧ c ≠ 4 ∧ 147 ≤ c ∧ c ≤ 162) ∨ (c ≠ 0 ∧ c ≠ 4 ∧ 162 < c ∧ 147 ≤ c) ∨ (c ≠ 0 ∧ c ≠ 4 ∧ c < 128 ∧ c < 147) := by omega
  rcases hs with h | h | h | h | h | h | h
  · obtain rfl : c = 0 := h
    have HX := hide (show ∀ X : Bool, ((0 : Int) == 0 || (0 : Int) == 4 || (decide (128 ≤ (0 : Int)) && decide ((0 : Int) ≤ 131)) || (decide (147 ≤ (0 : Int)) && decide ((0 : Int) ≤ 162)) || X) = true by intro X; cases X <;> simp <;> try omega)
    go_enter Try.func31, Try.ntmps31
    go_wp2
    go_ret
    exact ⟨congrArg (fun b => Ending.returned (Value.bool b)) (HM.out.trans (HX.out _)).symm, Keep.refl _ _⟩
  · obtain rfl : c = 4 := h
    have HX := hide (show ∀ X : Bool, ((4 : Int) == 0 || (4 : Int) == 4 || (decide (128 ≤ (4 : Int)) && decide ((4 : Int) ≤ 131)) || (decide (147 ≤ (4 : Int)) && decide ((4 : Int) ≤ 162)) || X) = true by intro X; cases X <;> simp <;> try omega)
    go_enter Try.func31, Try.ntmps31
    go_wp2
    go_ret
    exact ⟨congrArg (fun b => Ending.returned (Value.bool b)) (HM.out.trans (HX.out _)).symm, Keep.refl _ _⟩
  · obtain ⟨h0, h4, h1, h2⟩ := h; have b0 : (c == 0) = false := (by simpa using h0); have b4 : (c == 4) = false := by simpa using h4
    have HX := hide (show ∀ X : Bool, (c == 0 || c == 4 || (decide (128 ≤ c) && decide (c ≤ 131)) || (decide (147 ≤ c) && decide (c ≤ 162)) || X) = true by intro X; cases X <;> simp <;> try omega)
    go_enter Try.func31, Try.ntmps31
    go_wp2
    go_ret
    exact ⟨congrArg (fun b => Ending.returned (Value.bool b)) (HM.out.trans (HX.out _)).symm, Keep.refl _ _⟩
  · obtain ⟨h0, h4, h1, h2⟩ := h; have b0 : (c == 0) = false := (by simpa using h0); have b4 : (c == 4) = false := (by simpa using h4); have b5 : 128 ≤ c := (by omega); have b6 : decide (c ≤ 131) = false := decide_eq_false (by omega)
    have HX := hide (show ∀ X : Bool, (c == 0 || c == 4 || (decide (128 ≤ c) && decide (c ≤ 131)) || (decide (147 ≤ c) && decide (c ≤ 162)) || X) = X by intro X; cases X <;> simp <;> try omega)
    go_enter Try.func31, Try.ntmps31
    go_wp2_with fail
    refine (among_any _ [135, 137, 139, 141, 142, 143, 144] (Rsn.may 14 c) _ _ _ (by decide) (HM.out.trans (HX.out _)).symm (Blk.new _ _ _)).mono ?_
    rintro e w1 ⟨rfl, rfl⟩
    go_wp2_with fail
    go_ret
    exact ⟨rfl, (Keep.refl _ _).alloc _⟩
  · obtain ⟨h0, h4, h1, h2⟩ := h; have b0 : (c == 0) = false := (by simpa using h0); have b4 : (c == 4) = false := (by simpa using h4); have b5 : 128 ≤ c := (by omega); have b6 : decide (c ≤ 131) = false := decide_eq_false (by omega)
    have HX := hide (show ∀ X : Bool, (c == 0 || c == 4 || (decide (128 ≤ c) && decide (c ≤ 131)) || (decide (147 ≤ c) && decide (c ≤ 162)) || X) = true by intro X; cases X <;> simp <;> try omega)
    go_enter Try.func31, Try.ntmps31
    go_wp2
    go_ret
    exact ⟨congrArg (fun b => Ending.returned (Value.bool b)) (HM.out.trans (HX.out _)).symm, Keep.refl _ _⟩
  · obtain ⟨h0, h4, h1, h2⟩ := h; have b0 : (c == 0) = false := (by simpa using h0); have b4 : (c == 4) = false := (by simpa using h4); have b5 : 128 ≤ c := (by omega); have b6 : decide (c ≤ 131) = false := decide_eq_false (by omega); have b7 : decide (c ≤ 162) = false := decide_eq_false (by omega)
    have HX := hide (show ∀ X : Bool, (c == 0 || c == 4 || (decide (128 ≤ c) && decide (c ≤ 131)) || (decide (147 ≤ c) && decide (c ≤ 162)) || X) = X by intro X; cases X <;> simp <;> try omega)
    go_enter Try.func31, Try.ntmps31
    go_wp2_with fail
    refine (among_any _ [135, 137, 139, 141, 142, 143, 144] (Rsn.may 14 c) _ _ _ (by decide) (HM.out.trans (HX.out _)).symm (Blk.new _ _ _)).mono ?_
    rintro e w1 ⟨rfl, rfl⟩
    go_wp2_with fail
    go_ret
    exact ⟨rfl, (Keep.refl _ _).alloc _⟩
  · obtain ⟨h0, h4, h1, h2⟩ := h; have b0 : (c == 0) = false := (by simpa using h0); have b4 : (c == 4) = false := by simpa using h4
    have HX := hide (show ∀ X : Bool, (c == 0 || c == 4 || (decide (128 ≤ c) && decide (c ≤ 131)) || (decide (147 ≤ c) && decide (c ≤ 162)) || X) = X by intro X; cases X <;> simp <;> try omega)
    go_enter Try.func31, Try.ntmps31
    go_wp2_with fail
    refine (among_any _ [135, 137, 139, 141, 142, 143, 144] (Rsn.may 14 c) _ _ _ (by decide) (HM.out.trans (HX.out _)).symm (Blk.new _ _ _)).mono ?_
    rintro e w1 ⟨rfl, rfl⟩
    go_wp2_with fail
    go_ret
    exact ⟨rfl, (Keep.refl _ _).alloc _⟩

theorem refMay15 (c : Int) (h0 : 0 ≤ c) (h1 : c ≤ 255) (w : World) : Calls Try.prog 31 #[.int .i64 15, .int .i64 c] w fun e w' => e = .returned (.bool (Rsn.may 15 c)) ∧ Keep [] w w' := by
  have HB := hide (may15 c h0 h1)
  go_enter Try.func31, Try.ntmps31
  go_wp2_with fail
  refine (among_any _ [0, 24, 25] (Rsn.may 15 c) _ _ _ (by decide) HB.out.symm (Blk.new _ _ _)).mono ?_
  rintro e w1 ⟨rfl, rfl⟩
  go_wp2_with fail
  go_ret
  exact ⟨rfl, (Keep.refl _ _).alloc _⟩

theorem refMay_any (k c : Int) (h0 : 0 ≤ c) (h1 : c ≤ 255) (w : World) : Calls Try.prog 31 #[.int .i64 k, .int .i64 c] w fun e w' => e = .returned (.bool (Rsn.may k c)) ∧ Keep [] w w' := by
  have hk : k = 2 ∨ k = 4 ∨ k = 5 ∨ k = 6 ∨ k = 7 ∨ k = 9 ∨ k = 11 ∨ k = 14 ∨ k = 15 ∨ (k ≠ 2 ∧ k ≠ 4 ∧ k ≠ 5 ∧ k ≠ 6 ∧ k ≠ 7 ∧ k ≠ 9 ∧ k ≠ 11 ∧ k ≠ 14 ∧ k ≠ 15) := by omega
  rcases hk with rfl | rfl | rfl | rfl | rfl | rfl | rfl | rfl | rfl | ⟨n2, n4, n5, n6, n7, n9, n11, n14, n15⟩
  · exact refMay2 c h0 h1 w
  · exact refMay4 c h0 h1 w
  · exact refMay5 c h0 h1 w
  · exact refMay6 c h0 h1 w
  · exact refMay7 c h0 h1 w
  · exact refMay9 c h0 h1 w
  · exact refMay11 c h0 h1 w
  · exact refMay14 c h0 h1 w
  · exact refMay15 c h0 h1 w
  · rw [mayElse k c trivial trivial trivial trivial trivial trivial trivial trivial trivial ⟨n2, n4, n5, n6, n7, n9, n11, n14, n15⟩]
    have b2 : (k == 2) = false := by simpa using n2
    have b4 : (k == 4) = false := by simpa using n4
    have b5 : (k == 5) = false := by simpa using n5
    have b6 : (k == 6) = false := by simpa using n6
    have b7 : (k == 7) = false := by simpa using n7
    have b9 : (k == 9) = false := by simpa using n9
    have b11 : (k == 11) = false := by simpa using n11
    have b14 : (k == 14) = false := by simpa using n14
    have b15 : (k == 15) = false := by simpa using n15
    go_enter Try.func31, Try.ntmps31
    go_wp2
    go_ret
    exact ⟨rfl, Keep.refl _ _⟩

theorem refOf_any (x : Int) (w : World) : Calls Try.prog 35 #[.int .i64 x] w fun e w' => e = .returned (.int .i64 (Rsn.of x)) ∧ w = w' := by
  have hk : x = 0 ∨ x = 1 ∨ x = 2 ∨ x = 3 ∨ x = 4 ∨ x = 9 ∨ x = 10 ∨ x = 11 ∨ x = 12 ∨ x = 14 ∨ (x ≠ 0 ∧ x ≠ 1 ∧ x ≠ 2 ∧ x ≠ 3 ∧ x ≠ 4 ∧ x ≠ 9 ∧ x ≠ 10 ∧ x ≠ 11 ∧ x ≠ 12 ∧ x ≠ 14) := by omega
  rcases hk with rfl | rfl | rfl | rfl | rfl | rfl | rfl | rfl | rfl | rfl | ⟨n0, n1, n2, n3, n4, n9, n10, n11, n12, n14⟩
  case' inr.inr.inr.inr.inr.inr.inr.inr.inr.inr =>
    have hc : Rsn.of x = 128 := by unfold Rsn.of; simp [n0, n1, n2, n3, n4, n9, n10, n11, n12, n14]
    rw [hc]
    clear hc
    have b0 : (x == 0) = false := by simpa using n0
    have b1 : (x == 1) = false := by simpa using n1
    have b2 : (x == 2) = false := by simpa using n2
    have b3 : (x == 3) = false := by simpa using n3
    have b4 : (x == 4) = false := by simpa using n4
    have b9 : (x == 9) = false := by simpa using n9
    have b10 : (x == 10) = false := by simpa using n10
    have b11 : (x == 11) = false := by simpa using n11
    have b12 : (x == 12) = false := by simpa using n12
    have b14 : (x == 14) = false := by simpa using n14

  all_goals
    go_enter Try.func35, Try.ntmps35
    go_wp2
    go_ret
    exact ⟨rfl, rfl⟩
end Go.Proofs.Ytfnleddabfpkgaa
