/- A region that draws its order: behind a head that has been carried out, what is left reads and draws alone. -/
import Derived.Test.YtbgondiibnjcgaaMem
import Derived.Deep.QuietTactic
import Derived.Deep.RegionWith
import Derived.BigQuiet
namespace Go.Proofs.Ytbgondiibnjcgaa
theorem wpAny_quiet_from {P : Program} {l : List Oper} {Q' : Exit → Act → World → Prop} (k : Nat) {n : Nat} {listed : Array Bool} {a : Act} {w : World} (hn : l.length - k = n) (hs : Region.noSelect l.toArray = true)
    (hB : Region.lexFrom .any l.toArray (l.length - k) k listed = true) (h : wpQuiet P l.toArray (fun w' => ∃ n, w' = w.drewN n) (fun a' => ∀ w', (∃ n, w' = w.drewN n) → Q' .normal a' w') (l.drop k) a) :
    wpAny P .any l.toArray Q' n listed a w := by
  subst hn
  refine wpAny_of_quiet (C := fun w' => ∃ n, w' = w.drewN n) (Q := fun a' => ∀ w', (∃ n, w' = w.drewN n) → Q' .normal a' w') (fun _ w' hw' h => h w' hw') _ _ _ _ ⟨0, rfl⟩ ?_
  have := wpAnyQ_lex (C := fun w' => ∃ n, w' = w.drewN n) (md := .any) (Q := fun a' => ∀ w', (∃ n, w' = w.drewN n) → Q' .normal a' w') hs (l.drop k) k listed a (fun j => by simp) (by rw [List.length_drop]; exact hB) h
  rw [List.length_drop] at this
  exact this
end Go.Proofs.Ytbgondiibnjcgaa
