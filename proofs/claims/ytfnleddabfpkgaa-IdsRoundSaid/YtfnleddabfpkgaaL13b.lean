/- IdsRound, IdsGreat, IdsHole. -/
import Derived.Test.YtfnleddabfpkgaaL13a
namespace Go.Proofs.Ytfnleddabfpkgaa
open Go.RowKit
set_option maxRecDepth 10000
set_option linter.unusedVariables false
set_option maxHeartbeats 1000000

def roundRel (w : World) (p mb : Nat) (most n : Int) (i : Value) (wr : World) : Prop :=
  ∃ (k : Nat) (last : Int), i = .int .i64 k ∧ (k : Int) ≤ n ∧ 0 ≤ last ∧ last ≤ most ∧ (k : Int) % most + 1 = Ids.step most last ∧ PoolAt wr p mb [] last most ∧ Keep [] w wr

theorem mod_succ {k m : Int} (hm : 1 ≤ m) (hk : 0 ≤ k) : (k + 1) % m + 1 = if m < k % m + 1 + 1 then 1 else k % m + 1 + 1 := by
  have h1 := Int.emod_nonneg k (show m ≠ 0 by omega)
  have h2 := Int.emod_lt_of_pos k (show 0 < m by omega)
  have h3 := Int.mul_ediv_add_emod k m
  generalize k % m = a at *
  generalize k / m = q at *
  split
  · have : k + 1 = m * (q + 1) := by rw [Int.mul_add]; omega
    rw [this, Int.mul_emod_right]; rfl
  · have : k + 1 = (a + 1) + m * q := by omega
    rw [this, Int.add_mul_emod_self_left, Int.emod_eq_of_lt (by omega) (by omega)]

theorem round_walk (a0 : Int) (a1 : Int) (w : World) (w0 : (Lit.int .u32 a0).wf = true) (w1 : (Lit.int .i64 a1).wf = true) :
    Calls Try.prog 6 #[.int .u32 a0, .int .i64 a1] w fun e w' => e = .returned (.bool true) ∧ Below w.heap.size w w' := by
  obtain ⟨x0, x1⟩ := bounds_u32 w0
  by_cases hs : a0 < 1 ∨ 300 < a0 ∨ a1 < 0 ∨ 700 < a1
  · have hs' : a0 < 1 ∨ (¬ a0 < 1 ∧ 300 < a0) ∨ (¬ a0 < 1 ∧ ¬ 300 < a0 ∧ a1 < 0) ∨ (¬ a0 < 1 ∧ ¬ 300 < a0 ∧ ¬ a1 < 0 ∧ 700 < a1) := by omega
    clear hs
    rcases hs' with h0 | ⟨h0, h1⟩ | ⟨h0, h1, h2⟩ | ⟨h0, h1, h2, h3⟩
    all_goals
      go_enter Try.func6, Try.ntmps6
      go_wp2_with fail
      refine (awake13 _).mono ?_
      rintro e w2 ⟨rfl, hK2⟩
      go_wp2_with fail
      refine (awake13 _).mono ?_
      rintro e w3 ⟨rfl, hK3⟩
      go_wp2_with fail
      go_ret
      exact ⟨rfl, (hK2.then hK3).below⟩
  have h0 : ¬ a0 < 1 := by omega
  have h1 : ¬ 300 < a0 := by omega
  have h2 : ¬ a1 < 0 := by omega
  have h3 : ¬ 700 < a1 := by omega
  clear hs
  go_enter Try.func6, Try.ntmps6
  go_wp2_with fail
  refine (awake13 _).mono ?_
  rintro e w2 ⟨rfl, hK2⟩
  go_wp2_with fail
  refine (idsNew_any a0 (by omega) (by omega) _).mono ?_
  rintro e w3 ⟨⟨p, mb⟩, rfl, hS, hp, hmb, hK3⟩
  rw [show max 1 (min a0 65535) = a0 by omega] at hS
  have hKw : Keep [] w w3 := hK2.then hK3
  have hsz := hK2.size
  have NX := hide (show ∀ a b : World, Keep [p, mb] a b → Keep [] w a → Keep [] w b from fun a b h k => k.trans h (by simp) (by simp; simp at hp hmb; omega))
  simp only at hp hmb hS
  go_wp2_with fail
  go_loopw [6] (fun i wr => roundRel w p mb a0 a1 i wr) (fun i _ => (a1 - intOf i).toNat)
  case atStart =>
    refine ⟨0, 0, rfl, by omega, by omega, by omega, ?_, hS, hKw⟩
    have : (0 : Int) % a0 = 0 := Int.zero_emod _
    unfold Ids.step
    rw [if_neg (by omega)]
    simp
  case round =>
    obtain ⟨k, last, rfl, hk, hl0, hl1, hst, hS1, hK1⟩ := hrel
    by_cases hlt : (k : Int) < a1
    · have e1 := mod_succ (m := a0) (by omega) (show (0 : Int) ≤ k by omega)
      have b1 := Int.emod_nonneg k (show a0 ≠ 0 by omega)
      have b2 := Int.emod_lt_of_pos k (show 0 < a0 by omega)
      have HH := hide (And.intro hst e1)
      clear hst e1
      go_wp2_with fail
      refine (idsNext_any p mb [] last a0 ((k : Int) % a0 + 1) 0 wr hS1 (by omega) (by omega) (by omega) (by omega) (by simp; omega) (Ids.Seek.here' HH.out.1.symm rfl)).mono ?_
      rintro e w4 ⟨rfl, hS4, hK4⟩
      have hfr : Ids.free (AL.set [] ((k : Int) % a0 + 1) 1) ((k : Int) % a0 + 1) = (0, []) := by
        unfold Ids.free Ids.has; simp [AL.set, AL.get, AL.del]
      have HF := hide hfr
      clear hfr
      go_wp2_with fail
      refine (idsFree_any p mb _ _ a0 _ _ w4 hS4 HF.out).mono ?_
      rintro e w5 ⟨rfl, hS5, hK5⟩
      go_wp2_with fail
      refine (idsLen_any p mb _ _ a0 w5 hS5).mono ?_
      rintro e w7 ⟨rfl, rfl⟩
      go_wp2_with fail
      refine ⟨⟨k + 1, _, rfl, by omega, ?_, ?_, ?_, hS5, NX.out _ _ (hK5.mono (by simp)) (NX.out _ _ hK4 hK1)⟩, by simp [intOf]; omega⟩
      · omega
      · omega
      · unfold Ids.step; exact HH.out.2
    · go_wp2_with fail
      go_ret
      exact ⟨rfl, hK1.below⟩

theorem great_walk (a0 : Int) (a1 : Int) (w : World) (w0 : (Lit.int .u32 a0).wf = true) (w1 : (Lit.int .u32 a1).wf = true) :
    Calls Try.prog 7 #[.int .u32 a0, .int .u32 a1] w fun e w' => e = .returned (.bool true) ∧ Below w.heap.size w w' := by
  obtain ⟨x0, x1⟩ := bounds_u32 w0
  obtain ⟨y0, y1⟩ := bounds_u32 w1
  obtain ⟨top, htop⟩ : ∃ top, max 1 (min a0 65535) = top := ⟨_, rfl⟩
  have t1 : 1 ≤ top := by omega
  have t2 : top ≤ 65535 := by omega
  have hcase : (a0 ≤ 1 ∧ a0 ≤ 65535 ∧ top = 1) ∨ (1 < a0 ∧ a0 ≤ 65535 ∧ top = a0) ∨ (1 < a0 ∧ 65535 < a0 ∧ top = 65535) := by omega
  have HT := hide htop
  clear htop
  have hr1 : a1 < 1 → Ids.take [] top a1 = (5, []) := fun h => by unfold Ids.take; rw [if_pos (Or.inl h)]
  have hr2 : top < a1 → Ids.take [] top a1 = (5, []) := fun h => by unfold Ids.take; rw [if_pos (Or.inr h)]
  have hr3 : ¬ a1 < 1 → ¬ top < a1 → Ids.take [] top a1 = (0, [(a1, 1)]) := fun h h' => by unfold Ids.take; rw [if_neg (by omega)]; rfl
  have hh0 : Ids.has [] a1 = false := rfl
  have hh1 : Ids.has [(a1, 1)] a1 = true := by unfold Ids.has; simp [AL.get]
  have HR := hide (And.intro hr1 (And.intro hr2 (And.intro hr3 (And.intro hh0 hh1))))
  clear hr1 hr2 hr3 hh0 hh1
  rcases hcase with ⟨c0, c1, rfl⟩ | ⟨c0, c1, rfl⟩ | ⟨c0, c1, rfl⟩
  · by_cases r1 : a1 < 1
    · go_enter Try.func7, Try.ntmps7
      go_wp2_with fail
      refine (idsNew_any a0 (by omega) (by omega) _).mono ?_
      rintro e w2 ⟨⟨p, mb⟩, rfl, hS, hp, hmb, hK2⟩
      rw [HT.out] at hS
      simp only at hS hp hmb
      have NX := hide (show ∀ a b : World, Keep [p, mb] a b → Keep [] w a → Keep [] w b from fun a b h k => k.trans h (by simp) (by simp; omega))
      go_wp2_with fail
      refine (awake13 _).mono ?_
      rintro e w3 ⟨rfl, hK3⟩
      have hS3 : PoolAt w3 p mb [] 0 (1) := ⟨hS.1.keep hK3 (by simp), hS.2.keep hK3 (by simp)⟩
      go_wp2_with fail
      all_goals
        refine (idsTake_any p mb [] 0 (1) a1 (5, []) w3 hS3 (HR.out.1 r1)).mono ?_
        rintro e w4 ⟨rfl, hS4, hK4⟩
        simp only at hS4
        go_wp2_with fail
        refine (idsHas_op p mb [] 0 (1) a1 false w4 hS4 HR.out.2.2.2.1).mono ?_
        rintro e w5 ⟨rfl, hS5, hK5⟩
        go_wp2_with fail
        go_ret
        exact ⟨rfl, (NX.out _ _ (hK5.mono (by simp)) (NX.out _ _ (hK4.mono (by simp)) (hK2.then hK3))).below⟩
    · by_cases r2 : (1) < a1
      · have g2 : decide (a1 ≤ 1) = false := decide_eq_false (by omega)
        go_enter Try.func7, Try.ntmps7
        go_wp2_with fail
        refine (idsNew_any a0 (by omega) (by omega) _).mono ?_
        rintro e w2 ⟨⟨p, mb⟩, rfl, hS, hp, hmb, hK2⟩
        rw [HT.out] at hS
        simp only at hS hp hmb
        have NX := hide (show ∀ a b : World, Keep [p, mb] a b → Keep [] w a → Keep [] w b from fun a b h k => k.trans h (by simp) (by simp; omega))
        go_wp2_with fail
        refine (awake13 _).mono ?_
        rintro e w3 ⟨rfl, hK3⟩
        have hS3 : PoolAt w3 p mb [] 0 (1) := ⟨hS.1.keep hK3 (by simp), hS.2.keep hK3 (by simp)⟩
        go_wp2_with fail
        all_goals
          refine (idsTake_any p mb [] 0 (1) a1 (5, []) w3 hS3 (HR.out.2.1 r2)).mono ?_
          rintro e w4 ⟨rfl, hS4, hK4⟩
          simp only at hS4
          go_wp2_with fail
          refine (idsHas_op p mb [] 0 (1) a1 false w4 hS4 HR.out.2.2.2.1).mono ?_
          rintro e w5 ⟨rfl, hS5, hK5⟩
          go_wp2_with fail
          go_ret
          exact ⟨rfl, (NX.out _ _ (hK5.mono (by simp)) (NX.out _ _ (hK4.mono (by simp)) (hK2.then hK3))).below⟩
      · obtain rfl : a1 = 1 := by omega
        go_enter Try.func7, Try.ntmps7
        go_wp2_with fail
        refine (idsNew_any a0 (by omega) (by omega) _).mono ?_
        rintro e w2 ⟨⟨p, mb⟩, rfl, hS, hp, hmb, hK2⟩
        rw [HT.out] at hS
        simp only at hS hp hmb
        have NX := hide (show ∀ a b : World, Keep [p, mb] a b → Keep [] w a → Keep [] w b from fun a b h k => k.trans h (by simp) (by simp; omega))
        go_wp2_with fail
        refine (awake13 _).mono ?_
        rintro e w3 ⟨rfl, hK3⟩
        have hS3 : PoolAt w3 p mb [] 0 (1) := ⟨hS.1.keep hK3 (by simp), hS.2.keep hK3 (by simp)⟩
        go_wp2_with fail
        all_goals
          refine (idsTake_any p mb [] 0 (1) 1 (0, [(1, 1)]) w3 hS3 (HR.out.2.2.1 r1 r2)).mono ?_
          rintro e w4 ⟨rfl, hS4, hK4⟩
          simp only at hS4
          go_wp2_with fail
          refine (idsHas_op p mb [(1, 1)] 0 (1) 1 true w4 hS4 HR.out.2.2.2.2).mono ?_
          rintro e w5 ⟨rfl, hS5, hK5⟩
          go_wp2_with fail
          go_ret
          exact ⟨rfl, (NX.out _ _ (hK5.mono (by simp)) (NX.out _ _ (hK4.mono (by simp)) (hK2.then hK3))).below⟩
  · by_cases r1 : a1 < 1
    · go_enter Try.func7, Try.ntmps7
      go_wp2_with fail
      refine (idsNew_any top (by omega) (by omega) _).mono ?_
      rintro e w2 ⟨⟨p, mb⟩, rfl, hS, hp, hmb, hK2⟩
      rw [HT.out] at hS
      simp only at hS hp hmb
      have NX := hide (show ∀ a b : World, Keep [p, mb] a b → Keep [] w a → Keep [] w b from fun a b h k => k.trans h (by simp) (by simp; omega))
      go_wp2_with fail
      refine (awake13 _).mono ?_
      rintro e w3 ⟨rfl, hK3⟩
      have hS3 : PoolAt w3 p mb [] 0 (top) := ⟨hS.1.keep hK3 (by simp), hS.2.keep hK3 (by simp)⟩
      go_wp2_with fail
      all_goals
        refine (idsTake_any p mb [] 0 (top) a1 (5, []) w3 hS3 (HR.out.1 r1)).mono ?_
        rintro e w4 ⟨rfl, hS4, hK4⟩
        simp only at hS4
        go_wp2_with fail
        refine (idsHas_op p mb [] 0 (top) a1 false w4 hS4 HR.out.2.2.2.1).mono ?_
        rintro e w5 ⟨rfl, hS5, hK5⟩
        go_wp2_with fail
        go_ret
        exact ⟨rfl, (NX.out _ _ (hK5.mono (by simp)) (NX.out _ _ (hK4.mono (by simp)) (hK2.then hK3))).below⟩
    · by_cases r2 : (top) < a1
      · have g2 : decide (a1 ≤ top) = false := decide_eq_false (by omega)
        go_enter Try.func7, Try.ntmps7
        go_wp2_with fail
        refine (idsNew_any top (by omega) (by omega) _).mono ?_
        rintro e w2 ⟨⟨p, mb⟩, rfl, hS, hp, hmb, hK2⟩
        rw [HT.out] at hS
        simp only at hS hp hmb
        have NX := hide (show ∀ a b : World, Keep [p, mb] a b → Keep [] w a → Keep [] w b from fun a b h k => k.trans h (by simp) (by simp; omega))
        go_wp2_with fail
        refine (awake13 _).mono ?_
        rintro e w3 ⟨rfl, hK3⟩
        have hS3 : PoolAt w3 p mb [] 0 (top) := ⟨hS.1.keep hK3 (by simp), hS.2.keep hK3 (by simp)⟩
        go_wp2_with fail
        all_goals
          refine (idsTake_any p mb [] 0 (top) a1 (5, []) w3 hS3 (HR.out.2.1 r2)).mono ?_
          rintro e w4 ⟨rfl, hS4, hK4⟩
          simp only at hS4
          go_wp2_with fail
          refine (idsHas_op p mb [] 0 (top) a1 false w4 hS4 HR.out.2.2.2.1).mono ?_
          rintro e w5 ⟨rfl, hS5, hK5⟩
          go_wp2_with fail
          go_ret
          exact ⟨rfl, (NX.out _ _ (hK5.mono (by simp)) (NX.out _ _ (hK4.mono (by simp)) (hK2.then hK3))).below⟩
      · have g1 : 1 ≤ a1 := by omega
        have g2 : a1 ≤ top := by omega
        go_enter Try.func7, Try.ntmps7
        go_wp2_with fail
        refine (idsNew_any top (by omega) (by omega) _).mono ?_
        rintro e w2 ⟨⟨p, mb⟩, rfl, hS, hp, hmb, hK2⟩
        rw [HT.out] at hS
        simp only at hS hp hmb
        have NX := hide (show ∀ a b : World, Keep [p, mb] a b → Keep [] w a → Keep [] w b from fun a b h k => k.trans h (by simp) (by simp; omega))
        go_wp2_with fail
        refine (awake13 _).mono ?_
        rintro e w3 ⟨rfl, hK3⟩
        have hS3 : PoolAt w3 p mb [] 0 (top) := ⟨hS.1.keep hK3 (by simp), hS.2.keep hK3 (by simp)⟩
        go_wp2_with fail
        all_goals
          refine (idsTake_any p mb [] 0 (top) a1 (0, [(a1, 1)]) w3 hS3 (HR.out.2.2.1 r1 r2)).mono ?_
          rintro e w4 ⟨rfl, hS4, hK4⟩
          simp only at hS4
          go_wp2_with fail
          refine (idsHas_op p mb [(a1, 1)] 0 (top) a1 true w4 hS4 HR.out.2.2.2.2).mono ?_
          rintro e w5 ⟨rfl, hS5, hK5⟩
          go_wp2_with fail
          go_ret
          exact ⟨rfl, (NX.out _ _ (hK5.mono (by simp)) (NX.out _ _ (hK4.mono (by simp)) (hK2.then hK3))).below⟩
  · by_cases r1 : a1 < 1
    · go_enter Try.func7, Try.ntmps7
      go_wp2_with fail
      refine (idsNew_any a0 (by omega) (by omega) _).mono ?_
      rintro e w2 ⟨⟨p, mb⟩, rfl, hS, hp, hmb, hK2⟩
      rw [HT.out] at hS
      simp only at hS hp hmb
      have NX := hide (show ∀ a b : World, Keep [p, mb] a b → Keep [] w a → Keep [] w b from fun a b h k => k.trans h (by simp) (by simp; omega))
      go_wp2_with fail
      refine (awake13 _).mono ?_
      rintro e w3 ⟨rfl, hK3⟩
      have hS3 : PoolAt w3 p mb [] 0 (65535) := ⟨hS.1.keep hK3 (by simp), hS.2.keep hK3 (by simp)⟩
      go_wp2_with fail
      all_goals
        refine (idsTake_any p mb [] 0 (65535) a1 (5, []) w3 hS3 (HR.out.1 r1)).mono ?_
        rintro e w4 ⟨rfl, hS4, hK4⟩
        simp only at hS4
        go_wp2_with fail
        refine (idsHas_op p mb [] 0 (65535) a1 false w4 hS4 HR.out.2.2.2.1).mono ?_
        rintro e w5 ⟨rfl, hS5, hK5⟩
        go_wp2_with fail
        go_ret
        exact ⟨rfl, (NX.out _ _ (hK5.mono (by simp)) (NX.out _ _ (hK4.mono (by simp)) (hK2.then hK3))).below⟩
    · by_cases r2 : (65535) < a1
      · have g2 : decide (a1 ≤ 65535) = false := decide_eq_false (by omega)
        go_enter Try.func7, Try.ntmps7
        go_wp2_with fail
        refine (idsNew_any a0 (by omega) (by omega) _).mono ?_
        rintro e w2 ⟨⟨p, mb⟩, rfl, hS, hp, hmb, hK2⟩
        rw [HT.out] at hS
        simp only at hS hp hmb
        have NX := hide (show ∀ a b : World, Keep [p, mb] a b → Keep [] w a → Keep [] w b from fun a b h k => k.trans h (by simp) (by simp; omega))
        go_wp2_with fail
        refine (awake13 _).mono ?_
        rintro e w3 ⟨rfl, hK3⟩
        have hS3 : PoolAt w3 p mb [] 0 (65535) := ⟨hS.1.keep hK3 (by simp), hS.2.keep hK3 (by simp)⟩
        go_wp2_with fail
        all_goals
          refine (idsTake_any p mb [] 0 (65535) a1 (5, []) w3 hS3 (HR.out.2.1 r2)).mono ?_
          rintro e w4 ⟨rfl, hS4, hK4⟩
          simp only at hS4
          go_wp2_with fail
          refine (idsHas_op p mb [] 0 (65535) a1 false w4 hS4 HR.out.2.2.2.1).mono ?_
          rintro e w5 ⟨rfl, hS5, hK5⟩
          go_wp2_with fail
          go_ret
          exact ⟨rfl, (NX.out _ _ (hK5.mono (by simp)) (NX.out _ _ (hK4.mono (by simp)) (hK2.then hK3))).below⟩
      · have g1 : 1 ≤ a1 := by omega
        have g2 : a1 ≤ 65535 := by omega
        go_enter Try.func7, Try.ntmps7
        go_wp2_with fail
        refine (idsNew_any a0 (by omega) (by omega) _).mono ?_
        rintro e w2 ⟨⟨p, mb⟩, rfl, hS, hp, hmb, hK2⟩
        rw [HT.out] at hS
        simp only at hS hp hmb
        have NX := hide (show ∀ a b : World, Keep [p, mb] a b → Keep [] w a → Keep [] w b from fun a b h k => k.trans h (by simp) (by simp; omega))
        go_wp2_with fail
        refine (awake13 _).mono ?_
        rintro e w3 ⟨rfl, hK3⟩
        have hS3 : PoolAt w3 p mb [] 0 (65535) := ⟨hS.1.keep hK3 (by simp), hS.2.keep hK3 (by simp)⟩
        go_wp2_with fail
        all_goals
          refine (idsTake_any p mb [] 0 (65535) a1 (0, [(a1, 1)]) w3 hS3 (HR.out.2.2.1 r1 r2)).mono ?_
          rintro e w4 ⟨rfl, hS4, hK4⟩
          simp only at hS4
          go_wp2_with fail
          refine (idsHas_op p mb [(a1, 1)] 0 (65535) a1 true w4 hS4 HR.out.2.2.2.2).mono ?_
          rintro e w5 ⟨rfl, hS5, hK5⟩
          go_wp2_with fail
          go_ret
          exact ⟨rfl, (NX.out _ _ (hK5.mono (by simp)) (NX.out _ _ (hK4.mono (by simp)) (hK2.then hK3))).below⟩
end Go.Proofs.Ytfnleddabfpkgaa
