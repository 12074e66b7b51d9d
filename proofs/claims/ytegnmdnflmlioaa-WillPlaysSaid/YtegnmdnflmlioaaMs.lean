import Derived.Test.YtegnmdnflmlioaaWd
namespace Go.Proofs.Ytegnmdnflmlioaa
open Go.RowKit Go.Shelf Go.Proofs.Ytegnmdnflmlioaa.PWillPlays Go.Proofs.YtegnmdnflmlioaaW.PrintWords Go.Proofs.YtegnmdnflmlioaaW.PrintLast
set_option maxRecDepth 10000
set_option linter.unusedVariables false
theorem own_ms_at {base : Nat} {w : World} {v : Value} {l : List SM} (h : Own kMs MsT base w v l) {j : Nat} (hj : j < l.length) :
    ∃ g cap A c, v = .slice (some ⟨g, 0, none⟩) l.length cap ∧ base ≤ g ∧ g < w.heap.size ∧ w.cell? ⟨g, j * 7, none⟩ = some (.string l[j].f0) ∧ w.cell? ⟨g, j * 7 + 1, none⟩ = some (.int .i64 l[j].f1) ∧ w.cell? ⟨g, j * 7 + 2, none⟩ = some (.int .u8 l[j].f2) ∧ w.cell? ⟨g, j * 7 + 3, none⟩ = some (.bool l[j].f3) ∧ w.cell? ⟨g, j * 7 + 4, none⟩ = some (.slice A l[j].f4.length c) ∧ w.cell? ⟨g, j * 7 + 5, none⟩ = some (.string l[j].f5) ∧ w.cell? ⟨g, j * 7 + 6, none⟩ = some (.string l[j].f6) ∧ l[j].f4.length ≤ c ∧ kPr.C w A l[j].f4.length l[j].f4 := by
  obtain ⟨g, cap, hv, hb, hg⟩ := h.form (by omega)
  obtain ⟨A, c, hv', _, hC⟩ := h.reads
  rw [hv] at hv'
  cases hv'
  have hl : rd_T39 l (j : Int) = l[j] := by unfold rd_T39; simp [List.getD, hj]
  obtain ⟨ad, A4, c4, e, x0, x1, x2, x3, x4, x5, x6, x7, x8⟩ := at_T39 hC (j : Int) (by omega) (by omega)
  cases e
  rw [hl] at x0 x1 x2 x3 x4 x5 x6 x7 x8
  have ea : (⟨g, 0, none⟩ : Addr).add ((j : Int).toNat * 7) = ⟨g, j * 7, none⟩ := by rw [add_plain]; simp
  rw [ea] at x0 x1 x2 x3 x4 x5 x6
  exact ⟨g, _, A4, c4, hv, hb, hg, x0, x1, x2, x3, x4, x5, x6, x7, x8⟩
end Go.Proofs.Ytegnmdnflmlioaa
