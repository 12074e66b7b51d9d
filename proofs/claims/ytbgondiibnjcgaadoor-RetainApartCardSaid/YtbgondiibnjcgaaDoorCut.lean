/- switchboardlaw01.Cut; strings that came in. -/
import Derived.Test.YtbgondiibnjcgaaDoorRows
import Derived.Test.YtbgondiibnjcgaaDoorMem
import Derived.Test.YtbgondiibnjcgaaDoorIn
namespace Go.Proofs.YtbgondiibnjcgaaDoor
open Go.RowKit
set_option maxRecDepth 10000
set_option linter.unusedVariables false
set_option maxHeartbeats 1000000

def cutS (s : ByteArray) (n : Nat) : ByteArray := if s.size > n then s.extract 0 n else s

theorem cutS_size (s : ByteArray) (n : Nat) : (cutS s n).size ≤ n := by
  unfold cutS
  split
  · simp; omega
  · omega

theorem cut01_any (s : ByteArray) (n : Nat) (w : World) : Calls Tryd.prog 18 #[.string s, .int .i64 n] w fun e w' => e = .returned (.string (cutS s n)) ∧ w' = w := by
  by_cases h : (s.size : Int) > n
  · have e := hide (show cutS s n = s.extract 0 n by unfold cutS; rw [if_pos (by omega)])
    go_enter Tryd.func18, Tryd.ntmps18
    go_wp2
    go_ret
    rw [e.out]
    exact ⟨rfl, rfl⟩
  · have e := hide (show cutS s n = s by unfold cutS; rw [if_neg (by omega)])
    go_enter Tryd.func18, Tryd.ntmps18
    go_wp2
    go_ret
    rw [e.out]
    exact ⟨rfl, rfl⟩

theorem ba_self (b : ByteArray) : (b == b) = true := by
  show (b.data == b.data) = true
  simp

theorem slice_str {w : World} {z : List ByteArray} {a : Option Addr} {len cap : Nat} (r : Sh.Rd w (.slice .str) z [.slice a len cap]) (hl : 0 < len) :
    ∃ b off, a = some ⟨b, off, none⟩ ∧ b < w.heap.size ∧ ∀ i, i < len → ∃ s : ByteArray, w.cell? ⟨b, off + i, none⟩ = some (.string s) := by
  obtain ⟨rfl, _⟩ := Sh.slice_len r
  obtain ⟨b, off, ha, h⟩ := Sh.slice_at r hl
  have H : ∀ i, i < List.length z → ∃ s : ByteArray, w.cell? ⟨b, off + i, none⟩ = some (.string s) := by
    intro i hi
    obtain ⟨c, h1, h2, rfl, h3⟩ := h i _ (List.getElem?_eq_getElem hi)
    exact ⟨_, by simpa [Sh.size] using h2 0 (by simp [Sh.size])⟩
  obtain ⟨_, h0⟩ := H 0 hl
  exact ⟨b, off, ha, World.block_lt_of_cell? _ _ h0, H⟩
end Go.Proofs.YtbgondiibnjcgaaDoor
