/- timer.Len (where the law reaches it). -/
import Derived.Test.YtbgondiibnjcgaaTm
namespace Go.Proofs.Ytbgondiibnjcgaa
open Go.RowKit Go.Shelf Go.Proofs.YtbgondiibnjcgaaW.PrintWords Go.Proofs.YtbgondiibnjcgaaW.PrintLast
set_option maxRecDepth 100000
set_option linter.unusedVariables false
set_option maxHeartbeats 1000000

theorem timLen_any (n b : Nat) (l : List En) (w : World) (h : TimAt w n b l) :
    Calls Try.prog 13 #[ptrTo n] w fun e w' => e = .returned (.int .i64 l.length) ∧ w = w' := by
  obtain ⟨hB, hM⟩ := h
  have c0 : w.cell? ⟨n, 0, none⟩ = some (.map (some b)) := hB.cell 0
  have hlen := fun ty => run_len_map (w := w) Try.underlying27 hM ty
  generalize (l.length : Int) = q at hlen ⊢
  go_enter Try.func13, Try.ntmps13
  go_wp2
  go_ret
  exact ⟨rfl, rfl⟩
end Go.Proofs.Ytbgondiibnjcgaa
