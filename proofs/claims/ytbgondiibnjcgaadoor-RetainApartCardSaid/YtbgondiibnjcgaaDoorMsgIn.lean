/- Layer 12: rows of messages that came in; rows of messages that are told. -/
import Derived.Test.YtbgondiibnjcgaaDoorMsg
import Derived.Test.YtbgondiibnjcgaaDoorNest
namespace Go.Proofs.YtbgondiibnjcgaaDoor
open Go.RowKit Go.Shelf Go.Proofs.YtbgondiibnjcgaaDoor.PRetainPlays Go.Proofs.YtbgondiibnjcgaaDoorW.PrintWords Go.Proofs.YtbgondiibnjcgaaDoorW.PrintLast
set_option maxRecDepth 10000
set_option linter.unusedVariables false

theorem slice_msg {w : World} {z : Sh.T (.slice ShMsg)} {a : Option Addr} {len cap : Nat} (r : Sh.Rd w (.slice ShMsg) z [.slice a len cap]) (hl : 0 < len) :
    ∃ b off, a = some ⟨b, off, none⟩ ∧ b < w.heap.size ∧ ∀ i, i < len → ∃ (fr : ByteArray) (at_ q : Int) (rt : Bool) (A : Option Addr) (c : Nat) (ps : List SP) (tp pl : ByteArray),
      (w.cell? ⟨b, off + i * 7, none⟩ = some (.string fr) ∧ w.cell? ⟨b, off + i * 7 + 1, none⟩ = some (.int .i64 at_) ∧ w.cell? ⟨b, off + i * 7 + 2, none⟩ = some (.int .u8 q) ∧ w.cell? ⟨b, off + i * 7 + 3, none⟩ = some (.bool rt) ∧ w.cell? ⟨b, off + i * 7 + 4, none⟩ = some (.slice A ps.length c) ∧ w.cell? ⟨b, off + i * 7 + 5, none⟩ = some (.string tp) ∧ w.cell? ⟨b, off + i * 7 + 6, none⟩ = some (.string pl)) ∧
      ps.length ≤ c ∧ kPr.C w A ps.length ps := by
  obtain ⟨rfl, _⟩ := Sh.slice_len r
  obtain ⟨b, off, ha, h⟩ := Sh.slice_at r hl
  have H : ∀ i, i < List.length z → ∃ (fr : ByteArray) (at_ q : Int) (rt : Bool) (A : Option Addr) (c : Nat) (ps : List SP) (tp pl : ByteArray),
      (w.cell? ⟨b, off + i * 7, none⟩ = some (.string fr) ∧ w.cell? ⟨b, off + i * 7 + 1, none⟩ = some (.int .i64 at_) ∧ w.cell? ⟨b, off + i * 7 + 2, none⟩ = some (.int .u8 q) ∧ w.cell? ⟨b, off + i * 7 + 3, none⟩ = some (.bool rt) ∧ w.cell? ⟨b, off + i * 7 + 4, none⟩ = some (.slice A ps.length c) ∧ w.cell? ⟨b, off + i * 7 + 5, none⟩ = some (.string tp) ∧ w.cell? ⟨b, off + i * 7 + 6, none⟩ = some (.string pl)) ∧
      ps.length ≤ c ∧ kPr.C w A ps.length ps := by
    intro i hi
    obtain ⟨cs, k1, k2, k3⟩ := h i _ (List.getElem?_eq_getElem hi)
    obtain ⟨fr, at_, q, rt, A, c, ps, tp, pl, rfl, hc, hC, _, _⟩ := msg_in k3
    simp only [Sh.size] at k2
    have k4 := fun j (hj : j < 7) => k2 j (by omega)
    rw [show i * (1 + (1 + (1 + (1 + (1 + (1 + (1 + 0))))))) = i * 7 by omega] at k4
    exact ⟨fr, at_, q, rt, A, c, ps, tp, pl, ⟨k4 0 (by omega), k4 1 (by omega), k4 2 (by omega), k4 3 (by omega), k4 4 (by omega), k4 5 (by omega), k4 6 (by omega)⟩, hc, hC⟩
  obtain ⟨_, _, _, _, _, _, _, _, _, ⟨h0, _⟩, _⟩ := H 0 hl
  exact ⟨b, off, ha, World.block_lt_of_cell? _ _ h0, H⟩

theorem own_ms_at {base : Nat} {w : World} {v : Value} {l : List SM} (h : Own kMs MsT base w v l) {j : Nat} (hj : j < l.length) :
    ∃ g cap A c, v = .slice (some ⟨g, 0, none⟩) l.length cap ∧ base ≤ g ∧ g < w.heap.size ∧ w.cell? ⟨g, j * 7, none⟩ = some (.string l[j].f0) ∧ w.cell? ⟨g, j * 7 + 1, none⟩ = some (.int .i64 l[j].f1) ∧ w.cell? ⟨g, j * 7 + 2, none⟩ = some (.int .u8 l[j].f2) ∧ w.cell? ⟨g, j * 7 + 3, none⟩ = some (.bool l[j].f3) ∧ w.cell? ⟨g, j * 7 + 4, none⟩ = some (.slice A l[j].f4.length c) ∧ w.cell? ⟨g, j * 7 + 5, none⟩ = some (.string l[j].f5) ∧ w.cell? ⟨g, j * 7 + 6, none⟩ = some (.string l[j].f6) ∧ l[j].f4.length ≤ c ∧ kPr.C w A l[j].f4.length l[j].f4 := by
  obtain ⟨g, cap, hv, hb, hg⟩ := h.form (by omega)
  obtain ⟨A, c, hv', _, hC⟩ := h.reads
  rw [hv] at hv'
  cases hv'
  have hl : rd_T25 l (j : Int) = l[j] := by unfold rd_T25; simp [List.getD, hj]
  obtain ⟨ad, A4, c4, e, x0, x1, x2, x3, x4, x5, x6, x7, x8⟩ := at_T25 hC (j : Int) (by omega) (by omega)
  cases e
  rw [hl] at x0 x1 x2 x3 x4 x5 x6 x7 x8
  have ea : (⟨g, 0, none⟩ : Addr).add ((j : Int).toNat * 7) = ⟨g, j * 7, none⟩ := by rw [add_plain]; simp
  rw [ea] at x0 x1 x2 x3 x4 x5 x6
  exact ⟨g, _, A4, c4, hv, hb, hg, x0, x1, x2, x3, x4, x5, x6, x7, x8⟩

/-- A told message and the row of its properties. -/
theorem own_ms_in {base : Nat} {w : World} {v : Value} {l : List SM} (h : Own kMs MsT base w v l) {j : Nat} (hj : j < l.length) :
    ∃ g cap v4, v = .slice (some ⟨g, 0, none⟩) l.length cap ∧ base ≤ g ∧ g < w.heap.size ∧ w.cell? ⟨g, j * 7, none⟩ = some (.string l[j].f0) ∧ w.cell? ⟨g, j * 7 + 1, none⟩ = some (.int .i64 l[j].f1) ∧ w.cell? ⟨g, j * 7 + 2, none⟩ = some (.int .u8 l[j].f2) ∧ w.cell? ⟨g, j * 7 + 3, none⟩ = some (.bool l[j].f3) ∧ w.cell? ⟨g, j * 7 + 4, none⟩ = some v4 ∧ w.cell? ⟨g, j * 7 + 5, none⟩ = some (.string l[j].f5) ∧ w.cell? ⟨g, j * 7 + 6, none⟩ = some (.string l[j].f6) ∧ Own kPr PrT base w v4 l[j].f4 ∧ v4.ownBlock ≠ some g := by
  obtain ⟨hok, inner, ho, hr⟩ := h
  have hM := hr.2 j l[j] (List.getElem?_eq_getElem hj)
  obtain ⟨v4, hcs, hR⟩ := k25_openM hM
  have hsz : kMs.sz = 7 := rfl
  rw [hsz] at hcs ho
  rcases ho.2 with ⟨_, h0⟩ | ⟨g, cap, cur, rfl, hb, hh, hnc, hcm, hcs2, htk⟩
  · omega
  · have hcell : ∀ k u, k < 7 → [Value.string l[j].f0, .int .i64 l[j].f1, .int .u8 l[j].f2, .bool l[j].f3, v4, .string l[j].f5, .string l[j].f6][k]? = some u → w.cell? ⟨g, j * 7 + k, none⟩ = some u := by
      intro k u hk hu
      have h1 : ((inner.drop (j * 7)).take 7)[k]? = some u := by rw [hcs]; exact hu
      rw [List.getElem?_take_of_lt hk, List.getElem?_drop, ← htk, List.getElem?_take_of_lt (by omega)] at h1
      have h2 : w.cell? ⟨g, j * 7 + k, none⟩ = cur[j * 7 + k]? := by simp [World.cell?, hh]
      rw [h2, ← Array.getElem?_toList]; exact h1
    refine ⟨g, cap, v4, rfl, hb, (Array.getElem?_eq_some_iff.1 hh).1, hcell 0 _ (by omega) rfl, hcell 1 _ (by omega) rfl, hcell 2 _ (by omega) rfl, hcell 3 _ (by omega) rfl, hcell 4 _ (by omega) rfl, hcell 5 _ (by omega) rfl, hcell 6 _ (by omega) rfl, Own.of hR, ?_⟩
    intro e
    exact (hR.1 g e).2 rfl
end Go.Proofs.YtbgondiibnjcgaaDoor
