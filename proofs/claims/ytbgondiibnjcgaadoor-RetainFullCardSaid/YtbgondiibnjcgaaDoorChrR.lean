/- string(rune('a'+i)). -/
import Derived.Test.YtbgondiibnjcgaaDoorMem
import Derived.Test.YtbgondiibnjcgaaDoorProg
import Derived.Test.YtbgondiibnjcgaaDoorTop
namespace Go.Proofs.YtbgondiibnjcgaaDoor
open Go.RowKit
set_option maxRecDepth 10000
set_option linter.unusedVariables false

def ch (i : Nat) : ByteArray := ⟨#[UInt8.ofNat (97 + i)]⟩

theorem chr_run (i : Nat) (hi : i < 30) (w : World) : (convert 21 9 (.int .i32 (97 + (i : Int)))).run Tryd.prog w = .ok (.string (ch i)) w := by
  have : i = 0 ∨ i = 1 ∨ i = 2 ∨ i = 3 ∨ i = 4 ∨ i = 5 ∨ i = 6 ∨ i = 7 ∨ i = 8 ∨ i = 9 ∨ i = 10 ∨ i = 11 ∨ i = 12 ∨ i = 13 ∨ i = 14 ∨ i = 15 ∨ i = 16 ∨ i = 17 ∨ i = 18 ∨ i = 19 ∨ i = 20 ∨ i = 21 ∨ i = 22 ∨ i = 23 ∨ i = 24 ∨ i = 25 ∨ i = 26 ∨ i = 27 ∨ i = 28 ∨ i = 29 := by omega
  rcases this with rfl | rfl | rfl | rfl | rfl | rfl | rfl | rfl | rfl | rfl | rfl | rfl | rfl | rfl | rfl | rfl | rfl | rfl | rfl | rfl | rfl | rfl | rfl | rfl | rfl | rfl | rfl | rfl | rfl | rfl
  all_goals (clear hi; first | rfl | kernel_rfl | trace_state)

theorem ch_inj {i j : Nat} (hi : i < 30) (hj : j < 30) (h : ch i = ch j) : i = j := by
  have h1 : UInt8.ofNat (97 + i) = UInt8.ofNat (97 + j) := by
    have := congrArg (fun b : ByteArray => b.data.toList) h
    simpa [ch] using this
  have h2 := congrArg UInt8.toNat h1
  simp at h2
  omega

theorem ch_lt {i j : Nat} (hi : i < 30) (hj : j < 30) (h : (ch i).data.toList < (ch j).data.toList) : i < j := by
  have h1 : UInt8.ofNat (97 + i) < UInt8.ofNat (97 + j) := by
    simpa [ch, List.cons_lt_cons_iff] using h
  rw [UInt8.lt_iff_toNat_lt] at h1
  simp at h1
  omega

theorem ch_byte (i : Nat) (hi : i < 30) : ((UInt8.ofNat (97 + i)).toNat : Int) = 97 + (i : Int) := by
  simp; omega

/-- The topics of the law: one letter behind a 't'. -/
def keyT (i : Nat) : ByteArray := ⟨#[116, UInt8.ofNat (97 + i)]⟩
theorem keyT_eq (i : Nat) : (⟨#[116]⟩ : ByteArray) ++ ch i = keyT i := rfl
theorem keyT_inj {i j : Nat} (hi : i < 30) (hj : j < 30) (h : keyT i = keyT j) : i = j := by
  have h1 : UInt8.ofNat (97 + i) = UInt8.ofNat (97 + j) := by
    have := congrArg (fun b : ByteArray => b.data.toList) h
    simpa [keyT] using this
  have h2 := congrArg UInt8.toNat h1
  simp at h2
  omega
theorem key_met (i : Nat) (hi : i < 30) : topM oneB (keyT i) = true := by
  have : ∀ i : Fin 30, topM oneB (keyT i.val) = true := by decide +kernel
  exact this ⟨i, hi⟩
theorem key_size (i : Nat) : (keyT i).size = 2 := rfl
def keysN (n : Nat) : List ByteArray := (List.range n).map keyT
theorem keysN_succ (n : Nat) : keysN (n + 1) = keysN n ++ [keyT n] := by unfold keysN; rw [List.range_succ, List.map_append]; rfl
theorem keysN_len (n : Nat) : (keysN n).length = n := by unfold keysN; simp
theorem keysN_mem {n : Nat} {k : ByteArray} : k ∈ keysN n ↔ ∃ i, i < n ∧ keyT i = k := by unfold keysN; simp
theorem keysN_new {n : Nat} (hn : n < 30) : keyT n ∉ keysN n := by
  rw [keysN_mem]
  rintro ⟨i, hi, e⟩
  have := keyT_inj (by omega) hn e
  omega
end Go.Proofs.YtbgondiibnjcgaaDoor
