/- Layer 18: what came in (a slice of Act). -/
import Derived.Test.YtbgondiibnjcgaaApp
import Derived.Test.YtbgondiibnjcgaaCut
namespace Go.Proofs.Ytbgondiibnjcgaa
open Go.RowKit
set_option maxRecDepth 10000
abbrev ShAct : Sh := .struct (.cons (.int .i64) (.cons (.int .i64) (.cons .str .nil)))

theorem slice_act {w : World} {z : Sh.T (.slice ShAct)} {a : Option Addr} {len cap : Nat} (r : Sh.Rd w (.slice ShAct) z [.slice a len cap]) (hl : 0 < len) :
    ∃ b off, a = some ⟨b, off, none⟩ ∧ b < w.heap.size ∧ ∀ i, i < len → ∃ (x y : Int) (s : ByteArray), w.cell? ⟨b, off + i * 3, none⟩ = some (.int .i64 x) ∧ w.cell? ⟨b, off + i * 3 + 1, none⟩ = some (.int .i64 y) ∧ w.cell? ⟨b, off + i * 3 + 2, none⟩ = some (.string s) ∧ (Lit.int .i64 y).wf = true := by
  obtain ⟨rfl, _⟩ := Sh.slice_len r
  obtain ⟨b, off, ha, h⟩ := Sh.slice_at r hl
  have H : ∀ i, i < List.length z → ∃ (x y : Int) (s : ByteArray), w.cell? ⟨b, off + i * 3, none⟩ = some (.int .i64 x) ∧ w.cell? ⟨b, off + i * 3 + 1, none⟩ = some (.int .i64 y) ∧ w.cell? ⟨b, off + i * 3 + 2, none⟩ = some (.string s) ∧ (Lit.int .i64 y).wf = true := by
    intro i hi
    obtain ⟨c, h1, h2, c1, c2, rfl, _, ⟨rfl, h3⟩, d1, d2, rfl, _, ⟨rfl, h4⟩, e1, e2, rfl, _, ⟨rfl, h5⟩, rfl⟩ := h i _ (List.getElem?_eq_getElem hi)
    exact ⟨_, _, _, by simpa [Sh.size] using h2 0 (by simp [Sh.size]), by simpa [Sh.size] using h2 1 (by simp [Sh.size]), by simpa [Sh.size] using h2 2 (by simp [Sh.size]), h4⟩
  obtain ⟨_, _, _, h0, _⟩ := H 0 hl
  exact ⟨b, off, ha, World.block_lt_of_cell? _ _ h0, H⟩
end Go.Proofs.Ytbgondiibnjcgaa
