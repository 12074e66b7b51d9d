/- The laws of layer 4: the walks. -/
import Derived.Test.YtfnleddabfpkgaaRef04
import Derived.OpenShut
import Derived.Deep.QuietTactic
import Derived.BigQuiet
namespace Go.Proofs.Ytfnleddabfpkgaa
open Go.RowKit
open Go.ChangeShapes
set_option maxRecDepth 10000
set_option linter.unusedVariables false
set_option maxHeartbeats 1000000

theorem awake04 (w : World) : Calls Try.prog 29 #[] w fun e w' => e = .returned (.bool true) ∧ Keep [] w w' := by
  have m1 : Rsn.may 4 16 = true := by decide
  have m2 : Rsn.may 6 16 = false := by decide
  have m3 : Rsn.of 3 = 130 := by decide
  have m4 : (Rsn.codes 15).length = 3 := by decide
  have M := hide (And.intro m1 (And.intro m2 (And.intro m3 m4)))
  clear m1 m2 m3 m4
  go_enter Try.func29, Try.ntmps29
  go_wp2_with fail
  refine (rsnMay_any 4 16 _).mono ?_
  rintro e w1 ⟨rfl, rfl⟩
  rw [M.out.1]
  go_wp2_with fail
  refine (rsnMay_any 6 16 _).mono ?_
  rintro e w1 ⟨rfl, rfl⟩
  rw [M.out.2.1]
  go_wp2_with fail
  refine (rsnOf_any 3 _).mono ?_
  rintro e w1 ⟨rfl, rfl⟩
  rw [M.out.2.2.1]
  go_wp2_with fail
  refine (rsnGood_any 128 _).mono ?_
  rintro e w1 ⟨rfl, rfl⟩
  go_wp2_with fail
  refine (rsnCodes_any 15 _).mono ?_
  rintro e w1 ⟨x, rfl, hB, hc, hx, hK⟩
  rw [M.out.2.2.2]
  go_wp2_with fail
  go_ret
  exact ⟨rfl, hK⟩

theorem of_ok (x : Int) (h : x ≠ 0) : 128 ≤ Rsn.of x ∧ Rsn.of x ≤ 255 ∧ (Rsn.may 14 (Rsn.of x) = true ∨ Rsn.may 2 (Rsn.of x) = true) := by
  have hk : x = 1 ∨ x = 2 ∨ x = 3 ∨ x = 4 ∨ x = 9 ∨ x = 10 ∨ x = 11 ∨ x = 12 ∨ x = 14 ∨ (x ≠ 1 ∧ x ≠ 2 ∧ x ≠ 3 ∧ x ≠ 4 ∧ x ≠ 9 ∧ x ≠ 10 ∧ x ≠ 11 ∧ x ≠ 12 ∧ x ≠ 14) := by omega
  rcases hk with rfl | rfl | rfl | rfl | rfl | rfl | rfl | rfl | rfl | ⟨n1, n2, n3, n4, n5, n6, n7, n8, n9⟩
  case' inr.inr.inr.inr.inr.inr.inr.inr.inr =>
    have hc : Rsn.of x = 128 := by unfold Rsn.of; simp [h, n1, n2, n3, n4, n5, n6, n7, n8, n9]
    rw [hc]
  all_goals decide

theorem rsnOf_walk (a0 : Int) (w : World) (w0 : (Lit.int .i64 a0).wf = true) :
    Calls Try.prog 10 #[.int .i64 a0] w fun e w' => e = .returned (.bool true) ∧ Below w.heap.size w w' := by
  by_cases h : a0 = 0
  · subst h
    have M := hide (show Rsn.of 0 = 0 by decide)
    go_enter Try.func10, Try.ntmps10
    go_wp2_with fail
    refine (rsnOf_any 0 _).mono ?_
    rintro e w1 ⟨rfl, rfl⟩
    rw [M.out]
    go_wp2_with fail
    refine (awake04 _).mono ?_
    rintro e w1 ⟨rfl, hK⟩
    go_wp2_with fail
    refine (refOf_any 0 _).mono ?_
    rintro e w1 ⟨rfl, rfl⟩
    rw [M.out]
    go_wp2_with fail
    go_ret
    exact ⟨rfl, hK.below⟩
  · have hb : (a0 == 0) = false := by simpa using h
    obtain ⟨o1, o2, o3⟩ := of_ok a0 h
    obtain ⟨c, hc⟩ : ∃ c, Rsn.of a0 = c := ⟨_, rfl⟩
    rw [hc] at o1 o2 o3
    have M := hide hc
    clear hc
    have hg : decide (c < 128) = false := decide_eq_false (by omega)
    by_cases h14 : Rsn.may 14 c = true
    · clear o3
      have M14 := hide h14
      clear h14
      go_enter Try.func10, Try.ntmps10
      go_wp2_with fail
      refine (rsnOf_any a0 _).mono ?_
      rintro e w1 ⟨rfl, rfl⟩
      rw [M.out]
      go_wp2_with fail
      refine (awake04 _).mono ?_
      rintro e w1 ⟨rfl, hK⟩
      go_wp2_with fail
      refine (refOf_any a0 _).mono ?_
      rintro e w1 ⟨rfl, rfl⟩
      rw [M.out]
      go_wp2_with fail
      refine (rsnGood_any c _).mono ?_
      rintro e w1 ⟨rfl, rfl⟩
      rw [hg]
      go_wp2_with fail
      refine (rsnMay_any 14 c _).mono ?_
      rintro e w1 ⟨rfl, rfl⟩
      rw [M14.out]
      go_wp2_with fail
      go_ret
      exact ⟨rfl, hK.below⟩
    · have M2 := hide (show Rsn.may 2 c = true from o3.resolve_left h14)
      have M14 := hide (Bool.eq_false_iff.2 h14)
      clear h14 o3
      go_enter Try.func10, Try.ntmps10
      go_wp2_with fail
      refine (rsnOf_any a0 _).mono ?_
      rintro e w1 ⟨rfl, rfl⟩
      rw [M.out]
      go_wp2_with fail
      refine (awake04 _).mono ?_
      rintro e w1 ⟨rfl, hK⟩
      go_wp2_with fail
      refine (refOf_any a0 _).mono ?_
      rintro e w1 ⟨rfl, rfl⟩
      rw [M.out]
      go_wp2_with fail
      refine (rsnGood_any c _).mono ?_
      rintro e w1 ⟨rfl, rfl⟩
      rw [hg]
      go_wp2_with fail
      refine (rsnMay_any 14 c _).mono ?_
      rintro e w1 ⟨rfl, rfl⟩
      rw [M14.out]
      go_wp2_with fail
      refine (rsnMay_any 2 c _).mono ?_
      rintro e w1 ⟨rfl, rfl⟩
      rw [M2.out]
      go_wp2_with fail
      go_ret
      exact ⟨rfl, hK.below⟩

/-- What the lists of codes are: rising, 0 first. -/
def CodesOk (l : List UInt8) : Prop :=
  (∀ c : Fin 256, if l.contains c.val.toUInt8 = true then (l.filter fun b => decide (b.toNat < c.val)).length < l.length ∧ (l[(l.filter fun b => decide (b.toNat < c.val)).length]?).map (·.toNat) = some c.val ∧ (l.filter fun b => decide (b.toNat < c.val + 1)).length = (l.filter fun b => decide (b.toNat < c.val)).length + 1
    else (l.filter fun b => decide (b.toNat < c.val + 1)).length = (l.filter fun b => decide (b.toNat < c.val)).length) ∧ (l.filter fun b => decide (b.toNat < 256)).length = l.length ∧ l.length < 256 ∧
  (l = [] ∨ (l[0]?).map (·.toNat) = some 0) ∧ (∀ i : Fin 255, i.val + 1 < l.length → ((l[i.val]?).map (·.toNat)).getD 0 < ((l[i.val + 1]?).map (·.toNat)).getD 0)

instance (l : List UInt8) : Decidable (CodesOk l) := by unfold CodesOk; exact inferInstance

theorem codes_ok (k : Int) : CodesOk (Rsn.codes k) := by
  have hk : k = 2 ∨ k = 4 ∨ k = 5 ∨ k = 6 ∨ k = 7 ∨ k = 9 ∨ k = 11 ∨ k = 14 ∨ k = 15 ∨ (k ≠ 2 ∧ k ≠ 4 ∧ k ≠ 5 ∧ k ≠ 6 ∧ k ≠ 7 ∧ k ≠ 9 ∧ k ≠ 11 ∧ k ≠ 14 ∧ k ≠ 15) := by omega
  rcases hk with rfl | rfl | rfl | rfl | rfl | rfl | rfl | rfl | rfl | ⟨n1, n2, n3, n4, n5, n6, n7, n8, n9⟩
  case' inr.inr.inr.inr.inr.inr.inr.inr.inr =>
    have hc : Rsn.codes k = [] := by unfold Rsn.codes; simp [n1, n2, n3, n4, n5, n6, n7, n8, n9]
    rw [hc]
  all_goals decide +kernel

def zeroRel (w : World) (l : List UInt8) (i : Value) : Prop := ∃ k : Nat, i = .int .i64 k ∧ k ≤ l.length

theorem rsnZero_walk (a0 : Int) (w : World) (w0 : (Lit.int .i64 a0).wf = true) :
    Calls Try.prog 12 #[.int .i64 a0] w fun e w' => e = .returned (.bool true) ∧ Below w.heap.size w w' := by
  obtain ⟨_, _, hlen, hz, _⟩ := codes_ok a0
  go_enter Try.func12, Try.ntmps12
  go_wp2_with fail
  refine (rsnCodes_any a0 _).mono ?_
  rintro e w1 ⟨⟨b, cap, cs⟩, rfl, hB, hc, hx, hK⟩
  simp only at hB hc hx
  generalize Rsn.codes a0 = l at *
  have HC := hide hc
  clear hc
  go_wp2_with fail
  refine (awake04 _).mono ?_
  rintro e w2 ⟨rfl, hK2⟩
  have hB2 : Blk w2 b cs 5 := hB.keep hK2 (by simp)
  have hcell : ∀ i, i < l.length → w2.cell? ⟨b, i, none⟩ = some (.int .u8 ((l.getD i 0).toNat : Int)) := by
    intro i hi
    rw [hB2.cell i, HC.out i hi, List.getD_eq_getElem?_getD, List.getElem?_eq_getElem hi]; rfl
  have HCC := hide hcell
  clear hcell
  have hKK := hK.then hK2
  have key : ∀ P : Prop, (l.length = 0 → P) → (0 < l.length → P) → P := fun P h1 h2 => by
    rcases Nat.eq_zero_or_pos l.length with h | h
    · exact h1 h
    · exact h2 h
  have HZ := hide hz
  clear hz
  refine key _ (fun h0 => ?_) (fun h0 => ?_)
  · rw [h0]
    go_wp2_with fail
    refine wp_loop_rounds 1 ?_
    rw [rounds_succ]
    go_wp2_with fail
    go_ret
    exact ⟨rfl, hKK.below⟩
  · have h00 : w2.cell? ⟨b, 0, none⟩ = some (.int .u8 0) := by
      rw [HCC.out 0 h0]
      have := HZ.out
      rcases this with h | h
      · rw [h] at h0; simp at h0
      · rw [List.getElem?_eq_getElem h0] at h
        rw [List.getD_eq_getElem?_getD, List.getElem?_eq_getElem h0]
        simp at h
        simp [h]
    go_wp2_with fail
    go_loop [23] (fun i => zeroRel w l i) (fun i => l.length - (intOf i).toNat)
    case atStart => exact ⟨0, rfl, by omega⟩
    case round =>
      obtain ⟨k, rfl, hk⟩ := hrel
      by_cases hlt : k < l.length
      · have hcell := HCC.out k hlt
        have hbd : ((l.getD k 0).toNat : Int) < 256 := by have := (l.getD k 0).toNat_lt; omega
        generalize ((l.getD k 0).toNat : Int) = x at hcell hbd
        go_wp2_with fail
        refine (rsnGood_any x _).mono ?_
        rintro e w3 ⟨rfl, rfl⟩
        go_wp2_with fail
        all_goals exact ⟨⟨k + 1, rfl, by omega⟩, by simp [intOf]; omega⟩
      · go_wp2_with fail
        go_ret
        exact ⟨rfl, hKK.below⟩
end Go.Proofs.Ytfnleddabfpkgaa
