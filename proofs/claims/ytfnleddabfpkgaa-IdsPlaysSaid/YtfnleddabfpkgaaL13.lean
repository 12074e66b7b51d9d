/- Layer 13: plain facts on pools of identifiers; the answers that the document fixes. -/
import Derived.Test.YtfnleddabfpkgaaIds
namespace Go.Proofs.Ytfnleddabfpkgaa
open Go.RowKit
set_option maxRecDepth 10000
set_option linter.unusedVariables false
set_option maxHeartbeats 1000000

namespace Ids
theorem Seek.here' {used : List (Int × Int)} {most x y : Int} (h : step most x = y) (h2 : has used y = false) : Seek used most x y 0 := by
  subst h; exact Seek.here x h2

theorem Seek.on' {used : List (Int × Int)} {most x y z : Int} {n : Nat} (h : step most x = y) (h2 : has used y = true) (hs : Seek used most y z n) : Seek used most x z (n + 1) := by
  subst h; exact Seek.on x z n h2 hs

/-- From x on all up to y - 1 are in use, y isn't. -/
theorem Seek.run {used : List (Int × Int)} {most y : Int} (hy : y ≤ most) (hf : has used y = false) : ∀ (n : Nat) (x : Int), x + 1 + n = y → (∀ z, x < z → z < y → has used z = true) → Seek used most x y n := by
  intro n
  induction n with
  | zero => intro x hx h; exact Seek.here' (by unfold step; rw [if_neg (by omega)]; omega) hf
  | succ n ih =>
    intro x hx h
    exact Seek.on' (y := x + 1) (by unfold step; rw [if_neg (by omega)]) (h _ (by omega) (by omega)) (ih (x + 1) (by omega) (fun z h1 h2 => h z (by omega) h2))

/-- .. behind the greatest it goes on at 1. -/
theorem Seek.wrap {used : List (Int × Int)} {most y : Int} (h1 : 1 ≤ y) (hy : y ≤ most) (hf : has used y = false) (h : ∀ z, 1 ≤ z → z < y → has used z = true) : ∃ n, Seek used most most y n := by
  by_cases e : y = 1
  · exact ⟨0, Seek.here' (by unfold step; rw [if_pos (by omega), e]) hf⟩
  · obtain ⟨n, hn⟩ : ∃ n : Nat, (1 : Int) + 1 + n = y := ⟨(y - 2).toNat, by omega⟩
    exact ⟨n + 1, Seek.on' (y := 1) (by unfold step; rw [if_pos (by omega)]) (h 1 (by omega) (by omega)) (Seek.run hy hf n 1 hn (fun z a b => h z (by omega) b))⟩
end Ids

theorem awake13 (w : World) : Calls Try.prog 22 #[] w fun e w' => e = .returned (.bool true) ∧ Keep [] w w' := by
  go_enter Try.func22, Try.ntmps22
  go_wp2_with fail
  refine (idsNew_any 9 (by decide) (by decide) _).mono ?_
  rintro e w1 ⟨⟨p, mb⟩, rfl, hS, hp, hmb, hK⟩
  go_wp2_with fail
  refine (idsNext_any p mb [] 0 9 1 0 w1 hS (by decide) (by decide) (by decide) (by decide) (by decide) (Ids.Seek.here' (by decide) (by decide))).mono ?_
  rintro e w2 ⟨rfl, hS2, hK2⟩
  go_wp2_with fail
  refine (idsNext_any p mb [(1, 1)] 1 9 2 0 w2 hS2 (by decide) (by decide) (by decide) (by decide) (by decide) (Ids.Seek.here' (by decide) (by decide))).mono ?_
  rintro e w3 ⟨rfl, hS3, hK3⟩
  go_wp2_with fail
  refine (idsFree_any p mb [(1, 1), (2, 1)] 2 9 1 (0, [(2, 1)]) w3 hS3 (by decide)).mono ?_
  rintro e w4 ⟨rfl, hS4, hK4⟩
  go_wp2_with fail
  refine (idsNext_any p mb [(2, 1)] 2 9 3 0 w4 hS4 (by decide) (by decide) (by decide) (by decide) (by decide) (Ids.Seek.here' (by decide) (by decide))).mono ?_
  rintro e w5 ⟨rfl, hS5, hK5⟩
  go_wp2_with fail
  refine (idsLen_any p mb [(2, 1), (3, 1)] 3 9 w5 hS5).mono ?_
  rintro e w6 ⟨rfl, rfl⟩
  go_wp2_with fail
  refine (idsHas_op p mb [(2, 1), (3, 1)] 3 9 3 true w5 hS5 (by decide)).mono ?_
  rintro e w7 ⟨rfl, hS7, hK7⟩
  go_wp2_with fail
  refine (idsHas_op p mb [(2, 1), (3, 1)] 3 9 1 false w7 hS7 (by decide)).mono ?_
  rintro e w8 ⟨rfl, hS8, hK8⟩
  go_wp2_with fail
  go_ret
  refine ⟨rfl, ?_⟩
  have nx : ∀ a b : World, Keep [p, mb] a b → Keep [] w a → Keep [] w b := fun a b h k => k.trans h (by simp) (by simp; omega)
  exact nx _ _ (hK8.mono (by simp)) (nx _ _ (hK7.mono (by simp)) (nx _ _ hK5 (nx _ _ (hK4.mono (by simp)) (nx _ _ hK3 (nx _ _ hK2 hK)))))
end Go.Proofs.Ytfnleddabfpkgaa
