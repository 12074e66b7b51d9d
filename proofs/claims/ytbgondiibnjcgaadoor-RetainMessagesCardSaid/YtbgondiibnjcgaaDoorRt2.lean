import Derived.Test.YtbgondiibnjcgaaDoorRt
namespace Go.Proofs.YtbgondiibnjcgaaDoor
open Go.RowKit Go.Shelf Go.Proofs.YtbgondiibnjcgaaDoor.PRetainPlays Go.Proofs.YtbgondiibnjcgaaDoorW.PrintWords Go.Proofs.YtbgondiibnjcgaaDoorW.PrintLast
set_option maxRecDepth 100000
set_option linter.unusedVariables false
set_option maxHeartbeats 1000000
theorem get_mem2 {ν : Type} {hs : List (ByteArray × ν)} {k : ByteArray} {x : ν} (h : AL.get hs k = some x) : (k, x) ∈ hs := by
  induction hs with
  | nil => simp [AL.get] at h
  | cons a t ih =>
    obtain ⟨a, y⟩ := a
    simp only [AL.get] at h
    split at h
    · rename_i e; cases h; subst e; simp
    · exact List.mem_cons_of_mem _ (ih h)
theorem Rs.pvf {W w : World} {n b : Nat} {most : Int} {hs : List (ByteArray × Rm)} (h : Rs W w n b most hs) (k : ByteArray) : ∃ A c, ((AL.get hs k).getD Rm.zero).pv = .slice A ((AL.get hs k).getD Rm.zero).ps.length c := by
  cases hg : AL.get hs k with
  | none => exact ⟨none, 0, rfl⟩
  | some x =>
    have hm : (k, x) ∈ hs := get_mem2 hg
    exact (h.own _ hm).slice
end Go.Proofs.YtbgondiibnjcgaaDoor
