/- The laws of layer 14 without the document's words: the walks. -/
import Derived.Test.YtfnleddabfpkgaaInb
namespace Go.Proofs.Ytfnleddabfpkgaa
open Go.RowKit
set_option maxRecDepth 10000
set_option linter.unusedVariables false

theorem awake14 (w : World) : Calls Try.prog 16 #[] w fun e w' => e = .returned (.bool true) ∧ Keep [] w w' := by
  go_enter Try.func16, Try.ntmps16
  go_wp2_with fail
  refine (inbNew_any 1 _).mono ?_
  rintro e w1 ⟨⟨p, mb⟩, rfl, hS, hp, hmb, hK⟩
  go_wp2_with fail
  refine (inbBegin_any p mb [] 1 5 (true, 0, [(5, 1)]) w1 hS (by decide) (by decide) (by decide) (by decide)).mono ?_
  rintro e w2 ⟨rfl, hS2, hK2⟩
  go_wp2_with fail
  refine (inbBegin_any p mb [(5, 1)] 1 5 (false, 0, [(5, 2)]) w2 hS2 (by decide) (by decide) (by decide) (by decide)).mono ?_
  rintro e w3 ⟨rfl, hS3, hK3⟩
  go_wp2_with fail
  refine (inbBegin_any p mb [(5, 2)] 1 6 (false, 12, [(5, 2)]) w3 hS3 (by decide) (by decide) (by decide) (by decide)).mono ?_
  rintro e w4 ⟨rfl, hS4, hK4⟩
  go_wp2_with fail
  refine (inbEnd_any p mb [(5, 2)] 1 5 w4 hS4).mono ?_
  rintro e w5 ⟨rfl, hS5, hK5⟩
  go_wp2_with fail
  refine (inbBegin_any p mb [] 1 6 (true, 0, [(6, 1)]) w5 hS5 (by decide) (by decide) (by decide) (by decide)).mono ?_
  rintro e w6 ⟨rfl, hS6, hK6⟩
  go_wp2_with fail
  refine (inbLen_any p mb [(6, 1)] 1 w6 hS6).mono ?_
  rintro e w7 ⟨rfl, rfl⟩
  go_wp2_with fail
  go_ret
  refine ⟨rfl, ?_⟩
  have nx : ∀ a b : World, Keep [mb] a b → Keep [] w a → Keep [] w b := fun a b h k => k.trans h (by simp) (by simp; omega)
  exact nx _ _ hK6 (nx _ _ hK5 (nx _ _ hK4 (nx _ _ hK3 (nx _ _ hK2 hK))))
end Go.Proofs.Ytfnleddabfpkgaa
