/- Layer 18: awake. -/
import Derived.Test.YtbgondiibnjcgaaM18
namespace Go.Proofs.Ytbgondiibnjcgaa
open Go.RowKit Go.Proofs.Ytbgondiibnjcgaa.PTimerPlays Go.Proofs.YtbgondiibnjcgaaW.PrintWords Go.Proofs.YtbgondiibnjcgaaW.PrintLast
set_option maxRecDepth 10000
set_option linter.unusedVariables false
set_option maxHeartbeats 1000000

abbrev sa : BA := ⟨#[97]⟩
abbrev sb : BA := ⟨#[98]⟩
abbrev sc : BA := ⟨#[99]⟩

theorem awake18 (w : World) : Calls Try.prog 8 #[] w fun e w' => e = .returned (.bool true) ∧ Keep [] w w' := by
  go_enter Try.func8, Try.ntmps8
  go_wp2_with fail
  refine (tNew (W := w) (Nat.le_refl _)).mono ?_
  rintro e w1 ⟨rfl, hM1, hk1⟩
  go_wp2_with fail
  refine (tSet hM1 sb 5 (by decide)).mono ?_
  rintro e w2 ⟨rfl, hM2, hk2⟩
  have e2 : insE (rmE [] sb) (sb, 5) = [(sb, 5)] := by rfl
  rw [e2] at hM2
  go_wp2_with fail
  refine (tSet hM2 sa 5 (by decide)).mono ?_
  rintro e w3 ⟨rfl, hM3, hk3⟩
  have e3 : insE (rmE [(sb, 5)] sa) (sa, 5) = [(sa, 5), (sb, 5)] := by rfl
  rw [e3] at hM3
  go_wp2_with fail
  refine (tSet hM3 sc 3 (by decide)).mono ?_
  rintro e w4 ⟨rfl, hM4, hk4⟩
  have e4 : insE (rmE [(sa, 5), (sb, 5)] sc) (sc, 3) = [(sc, 3), (sa, 5), (sb, 5)] := by rfl
  rw [e4] at hM4
  clear e2 e3 e4
  go_wp2_with fail
  refine (tDue hM4 (by omega) 5).mono ?_
  rintro e w5 ⟨v, rfl, hO, hM5, hk5⟩
  have e5 : ([(sc, (3 : Int)), (sa, 5), (sb, 5)].filter fun p => decide (p.2 ≤ 5)) = [(sc, 3), (sa, 5), (sb, 5)] := by rfl
  have e6 : ([(sc, (3 : Int)), (sa, 5), (sb, 5)].filter fun p => decide (5 < p.2)) = [] := by rfl
  rw [e5] at hO
  rw [e6] at hM5
  clear e5 e6
  obtain ⟨g, cap, rfl, _, hg, x0, x1⟩ := own_ent_at hO (j := 0) (by decide)
  obtain ⟨g', cap', hv, _, hg', y0, y1⟩ := own_ent_at hO (j := 1) (by decide)
  obtain ⟨rfl, rfl⟩ : g = g' ∧ cap = cap' := by injection hv with h1 _ h3; injection h1 with h1; injection h1 with h1; exact ⟨h1, h3⟩
  clear hv
  simp at x0 x1 y0 y1
  have HL := hide (tLen hM5)
  have hkk : Keep [] w w5 := Keep.of_below ((hM4.km hk5).below ((hM3.km hk4).below ((hM2.km hk3).below ((hM1.km hk2).below hk1.below))))
  clear hO hM5 hk5 hk4 hk3 hk2 hk1 hM1 hM2 hM3 hM4
  go_wp2_with fail
  refine HL.out.mono ?_
  rintro e w6 ⟨rfl, rfl⟩
  go_wp2_with fail
  go_ret
  exact ⟨rfl, hkk⟩
end Go.Proofs.Ytbgondiibnjcgaa
