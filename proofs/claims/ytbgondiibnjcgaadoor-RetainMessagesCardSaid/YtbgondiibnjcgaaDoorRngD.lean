import Derived.Test.YtbgondiibnjcgaaDoorRngP
namespace Go.Proofs.YtbgondiibnjcgaaDoor
open Go.RowKit
set_option maxRecDepth 10000
set_option linter.unusedVariables false
set_option maxHeartbeats 1000000
section
variable {κ ν : Type} [DecidableEq κ] {P : Program} {w : World} {b r : Nat} {kf : κ → Value} {vf : ν → Value} {l : List (κ × ν)} {ss : List κ} {K E T : TypeId}
variable {ops : Array Oper} {rest : List Oper} {o : Oper} {a : Act} {Q : Exit → Act → World → Prop}
end
section
variable {κ ν : Type} {w w' : World} {b r : Nat} {kf : κ → Value} {vf : ν → Value} {l : List (κ × ν)} {ss : List κ}
theorem RangeAt.keep {S : List Nat} (h : RangeAt w b r kf vf l ss) (hk : Keep S w w') (h1 : b ∉ S) (h2 : r ∉ S) : RangeAt w' b r kf vf l ss ∧ w'.rangeLeft b r = w.rangeLeft b r := by
  obtain ⟨es, cl, since, seen, c0, hb, he, hn, hr, rest⟩ := h
  have hb' := (hk.block b (Array.getElem?_eq_some_iff.1 hb).1 h1).trans hb
  have hr' := (hk.block r (Array.getElem?_eq_some_iff.1 hr).1 h2).trans hr
  exact ⟨⟨es, cl, since, seen, c0, hb', he, hn, hr', rest⟩, by simp [World.rangeLeft, hb, hr, hb', hr']⟩
end
end Go.Proofs.YtbgondiibnjcgaaDoor
