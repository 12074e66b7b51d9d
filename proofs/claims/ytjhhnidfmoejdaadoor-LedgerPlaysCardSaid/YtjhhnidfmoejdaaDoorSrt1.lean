import Derived.Test.YtjhhnidfmoejdaaDoorRows
import Derived.Test.YtjhhnidfmoejdaaDoorArr
namespace Go.Proofs.YtjhhnidfmoejdaaDoor
open Go.RowKit
set_option maxRecDepth 10000
set_option linter.unusedVariables false
set_option maxHeartbeats 1000000
theorem nan_any (x : Int) (w : World) : Calls Tryd.prog 64 #[.int .u32 x] w fun e w' => e = .returned (.bool false) ∧ w = w' := by
  have hb : (x != x) = false := by simp
  go_enter Tryd.func64, Tryd.ntmps64
  go_wp2
  go_ret
  exact ⟨rfl, rfl⟩
theorem less_any (x y : Int) (w : World) : Calls Tryd.prog 50 #[.int .u32 x, .int .u32 y] w fun e w' => e = .returned (.bool (decide (x < y))) ∧ w = w' := by
  go_enter Tryd.func50, Tryd.ntmps50
  go_wp2_with fail
  refine (nan_any x _).mono ?_
  rintro e w1 ⟨rfl, rfl⟩
  go_wp2_with fail
  go_ret
  exact ⟨rfl, rfl⟩
theorem less_q (x y : Int) (r : Bool) (w : World) (h : decide (x < y) = r) : Calls Tryd.prog 50 #[.int .u32 x, .int .u32 y] w fun e w' => e = .returned (.bool r) ∧ w' = w :=
  (less_any x y w).mono fun e w' ⟨h1, h2⟩ => ⟨by rw [h1, h], h2.symm⟩
def revRel (w : World) (blk n : Nat) (d : Nat → Int) (rest : List Value) (a b : Nat) (i j : Value) (wr : World) : Prop :=
  ∃ (k l : Nat) (d' : Nat → Int), i = .int .i64 k ∧ j = .int .i64 (l - 1) ∧ a ≤ k ∧ l ≤ b ∧ k ≤ b ∧ Arr wr blk n d' 22 rest ∧ SwR a b d d' ∧ Keep [blk] w wr
theorem reverse_any (blk n cap a b : Nat) (d : Nat → Int) (rest : List Value) (w : World) (hA : Arr w blk n d 22 rest) (hab : a ≤ b) (hb : b ≤ n) (hn : n < 1000000000) :
    Calls Tryd.prog 48 #[.slice (some ⟨blk, 0, none⟩) n cap, .int .i64 a, .int .i64 b] w (Px fun (d' : Nat → Int) e w' => e = .returned (.tuple #[]) ∧ Arr w' blk n d' 22 rest ∧ SwR a b d d' ∧ Keep [blk] w w') := by
  go_enter Tryd.func48, Tryd.ntmps48
  go_wp2
  go_loopw [6, 7] (fun i j wr => revRel w blk n d rest a b i j wr) (fun i j _ => (intOf j - intOf i + 1).toNat)
  case atStart => exact ⟨a, b, d, rfl, rfl, by omega, by omega, by omega, hA, .refl, Keep.refl _ _⟩
  case round =>
    obtain ⟨k, l, d', rfl, rfl, h1, h2, h3, hA1, hS, hK⟩ := hrel
    by_cases hlt : (k : Int) < (l : Int) - 1
    · obtain ⟨m, rfl⟩ : ∃ m, l = m + 1 := ⟨l - 1, by omega⟩
      have e1 : (((m + 1 : Nat) : Int) - 1) = (m : Int) := by omega
      rw [e1] at hlt ⊢
      have hkm : k < m := by omega
      have c1 := hA1.cell (show k < n by omega)
      have c2 := hA1.cell (show m < n by omega)
      have f1 := hA1.frozen (show k < n by omega)
      have f2 := hA1.frozen (show m < n by omega)
      obtain ⟨v, hv⟩ := cell?_setCell_some (w := wr.drew) (p := ⟨blk, k, none⟩) (x := .int .u32 (d' m)) (q := ⟨blk, m, none⟩) (v := .int .u32 (d' m)) (by go_simp)
      clear e1
      go_wp2
      go_region
      go_wp2
      refine ⟨⟨k + 1, m, swp d' k m, rfl, rfl, by omega, by omega, by omega, hA1.drew.swap (by omega) (by omega), .step d' k m hS (by omega) (by omega) (by omega) (by omega), (hK.drew.setCell (by simp) _).setCell (by simp) _⟩, by simp [intOf] <;> omega⟩
    · go_wp2
      go_end0
      exact ⟨d', rfl, hA1, hS, hK⟩
def InsAt (d : Nat → Int) (a i j : Nat) : Prop := (∀ p q, a ≤ p → p ≤ q → q ≤ i → p ≠ j → q ≠ j → d p ≤ d q) ∧ (∀ q, j < q → q ≤ i → d j ≤ d q)
theorem InsAt.start {d : Nat → Int} {a i : Nat} (h : Ris d a i) : InsAt d a i i :=
  ⟨fun p q h1 h2 h3 h4 h5 => h p q h1 h2 (by omega), fun q h1 h2 => by omega⟩
theorem InsAt.done {d : Nat → Int} {a i j : Nat} (h : InsAt d a i j) (hj : j ≤ i) (hs : j = a ∨ (a < j ∧ d (j - 1) ≤ d j)) (ha : a ≤ j) : Ris d a (i + 1) := by
  intro p q h1 h2 h3
  by_cases hp : p = j
  · by_cases hq : q = j
    · rw [hp, hq]; exact Int.le_refl _
    · rw [hp]; exact h.2 q (by omega) (by omega)
  · by_cases hq : q = j
    · rw [hq]
      rcases hs with e | ⟨h4, h5⟩
      · omega
      · exact Int.le_trans (h.1 p (j - 1) h1 (by omega) (by omega) hp (by omega)) h5
    · exact h.1 p q h1 h2 (by omega) hp hq
theorem InsAt.step {d : Nat → Int} {a i j : Nat} (h : InsAt d a i (j + 1)) (hj : j + 1 ≤ i) (ha : a ≤ j) (hlt : d (j + 1) < d j) : InsAt (swp d (j + 1) j) a i j := by
  have e : ∀ k, k ≠ j → k ≠ j + 1 → swp d (j + 1) j k = d k := fun k h1 h2 => by unfold swp; rw [if_neg h2, if_neg h1]
  have e1 : swp d (j + 1) j (j + 1) = d j := by unfold swp; rw [if_pos rfl]
  have e0 : swp d (j + 1) j j = d (j + 1) := by unfold swp; rw [if_neg (by omega), if_pos rfl]
  refine ⟨fun p q h1 h2 h3 h4 h5 => ?_, fun q h1 h2 => ?_⟩
  · by_cases hp : p = j + 1
    · rw [hp, e1]
      by_cases hq : q = j + 1
      · rw [hq, e1]; exact Int.le_refl _
      · rw [e q h5 hq]; exact h.1 j q ha (by omega) h3 (by omega) hq
    · rw [e p h4 hp]
      by_cases hq : q = j + 1
      · rw [hq, e1]; exact h.1 p j h1 (by omega) (by omega) hp (by omega)
      · rw [e q h5 hq]; exact h.1 p q h1 h2 h3 hp hq
  · rw [e0]
    by_cases hq : q = j + 1
    · rw [hq, e1]; omega
    · rw [e q (by omega) hq]; exact h.2 q (by omega) h2
theorem Ris.one (d : Nat → Int) (a : Nat) : Ris d a (a + 1) := fun i j h1 h2 h3 => by
  have : i = j := by omega
  rw [this]; exact Int.le_refl _
def insRel (w : World) (blk n : Nat) (d : Nat → Int) (rest : List Value) (a b : Nat) (i : Value) (wr : World) : Prop :=
  ∃ (k : Nat) (d' : Nat → Int), i = .int .i64 k ∧ a + 1 ≤ k ∧ Arr wr blk n d' 22 rest ∧ SwR a b d d' ∧ Keep [blk] w wr ∧ (k ≤ b ∨ b ≤ a) ∧ Ris d' a (min k b)
def insRel2 (w : World) (blk n : Nat) (d : Nat → Int) (rest : List Value) (a b i : Nat) (j : Value) (wr : World) : Prop :=
  ∃ (k : Nat) (d' : Nat → Int), j = .int .i64 k ∧ a ≤ k ∧ k ≤ i ∧ Arr wr blk n d' 22 rest ∧ SwR a b d d' ∧ Keep [blk] w wr ∧ InsAt d' a i k
theorem insertion_any (blk n cap a b : Nat) (d : Nat → Int) (rest : List Value) (w : World) (hA : Arr w blk n d 22 rest) (hab : a ≤ b) (hb : b ≤ n) (hn : n < 1000000000) :
    Calls Tryd.prog 44 #[.slice (some ⟨blk, 0, none⟩) n cap, .int .i64 a, .int .i64 b] w (Px fun (d' : Nat → Int) e w' => e = .returned (.tuple #[]) ∧ Arr w' blk n d' 22 rest ∧ SwR a b d d' ∧ Keep [blk] w w' ∧ Ris d' a b) := by
  go_enter Tryd.func44, Tryd.ntmps44
  go_wp2
  go_loopw [6] (fun i wr => insRel w blk n d rest a b i wr) (fun i _ => (b - intOf i).toNat)
  case atStart =>
    refine ⟨a + 1, d, rfl, by omega, hA, .refl, Keep.refl _ _, by omega, ?_⟩
    intro i j h1 h2 h3
    have : i = j := by omega
    rw [this]; exact Int.le_refl _
  case round =>
    obtain ⟨k, d', rfl, h1, hA1, hS, hK, hkb, hR⟩ := hrel
    by_cases hlt : k < b
    · rw [show min k b = k by omega] at hR
      have HI := hide (InsAt.start hR)
      clear hR
      go_wp2
      go_loopw [7] (fun j wr => insRel2 w blk n d rest a b k j wr) (fun j _ => (intOf j).toNat)
      case atStart => exact ⟨k, d', rfl, by omega, by omega, hA1, hS, hK, HI.out⟩
      case round =>
        obtain ⟨l, e', rfl, g1, g2, hA2, hS2, hK2, hI2⟩ := hrel
        have HI2 := hide hI2
        clear hI2
        by_cases hla : a < l
        · obtain ⟨m, rfl⟩ : ∃ m, l = m + 1 := ⟨l - 1, by omega⟩
          have c1 := hA2.cell (show m + 1 < n by omega)
          have c2 := hA2.cell (show m < n by omega)
          have b1 : ((m : Int) + 1) < (n : Int) := by omega
          have b2 : (m : Int) < (n : Int) := by omega
          have b3 : (a : Int) < ((m : Int) + 1) := by omega
          by_cases hless : e' (m + 1) < e' m
          · have HD := hide (show decide (e' (m + 1) < e' m) = true from decide_eq_true hless)
            have HL := hide hless
            clear hless
            have f1 := hA2.frozen (show m + 1 < n by omega)
            have f2 := hA2.frozen (show m < n by omega)
            go_wp2
            go_quiet ((go_at_call 50; exact Calls.quiet_of_same (less_q _ _ _ _ HD.out)))
            go_wp2
            go_region
            go_wp2
            refine ⟨⟨m, swp e' (m + 1) m, rfl, by omega, by omega, (hA2.drewN _).drew.swap (by omega) (by omega), .step e' (m + 1) m hS2 (by omega) (by omega) (by omega) (by omega), (((hK2.drewN _).drew.setCell (by simp) _).setCell (by simp) _), HI2.out.step (by omega) (by omega) HL.out⟩, by simp [intOf] <;> omega⟩
          · have HD := hide (show decide (e' (m + 1) < e' m) = false from decide_eq_false hless)
            have HL := hide (show e' m ≤ e' (m + 1) by omega)
            clear hless
            go_wp2
            go_quiet ((go_at_call 50; exact Calls.quiet_of_same (less_q _ _ _ _ HD.out)))
            go_wp2
            refine ⟨⟨k + 1, e', rfl, by omega, hA2, hS2, hK2.drewN _, by omega, ?_⟩, by simp [intOf] <;> omega⟩
            rw [show min (k + 1) b = k + 1 by omega]
            exact HI2.out.done (by omega) (Or.inr ⟨by omega, HL.out⟩) (by omega)
        · have hla' : l = a := by omega
          subst hla'
          have hdec : decide ((l : Int) < (l : Int)) = false := by simp
          go_wp2
          go_quiet (fail)
          go_wp2
          refine ⟨⟨k + 1, e', rfl, by omega, hA2, hS2, hK2.drewN _, by omega, ?_⟩, by simp [intOf] <;> omega⟩
          rw [show min (k + 1) b = k + 1 by omega]
          exact HI2.out.done (by omega) (Or.inl rfl) (by omega)
    · go_wp2
      go_end0
      refine ⟨d', rfl, hA1, hS, hK, ?_⟩
      rw [show min k b = b by omega] at hR
      exact hR
end Go.Proofs.YtjhhnidfmoejdaaDoor
