/- string(rune('a'+i)). -/
import Derived.Test.YtegnmdnflmlioaaMem
import Derived.Test.YtegnmdnflmlioaaProg
namespace Go.Proofs.Ytegnmdnflmlioaa
open Go.RowKit
set_option maxRecDepth 10000
set_option linter.unusedVariables false

def ch (i : Nat) : ByteArray := ⟨#[UInt8.ofNat (97 + i)]⟩

theorem chr_run (i : Nat) (hi : i < 26) (w : World) : (convert 21 9 (.int .i32 (97 + (i : Int)))).run Try.prog w = .ok (.string (ch i)) w := by
  have : i = 0 ∨ i = 1 ∨ i = 2 ∨ i = 3 ∨ i = 4 ∨ i = 5 ∨ i = 6 ∨ i = 7 ∨ i = 8 ∨ i = 9 ∨ i = 10 ∨ i = 11 ∨ i = 12 ∨ i = 13 ∨ i = 14 ∨ i = 15 ∨ i = 16 ∨ i = 17 ∨ i = 18 ∨ i = 19 ∨ i = 20 ∨ i = 21 ∨ i = 22 ∨ i = 23 ∨ i = 24 ∨ i = 25 := by omega
  rcases this with rfl | rfl | rfl | rfl | rfl | rfl | rfl | rfl | rfl | rfl | rfl | rfl | rfl | rfl | rfl | rfl | rfl | rfl | rfl | rfl | rfl | rfl | rfl | rfl | rfl | rfl
  all_goals (clear hi; first | rfl | kernel_rfl | trace_state)

theorem ch_inj {i j : Nat} (hi : i < 26) (hj : j < 26) (h : ch i = ch j) : i = j := by
  have h1 : UInt8.ofNat (97 + i) = UInt8.ofNat (97 + j) := by
    have := congrArg (fun b : ByteArray => b.data.toList) h
    simpa [ch] using this
  have h2 := congrArg UInt8.toNat h1
  simp at h2
  omega

theorem ch_lt {i j : Nat} (hi : i < 26) (hj : j < 26) (h : (ch i).data.toList < (ch j).data.toList) : i < j := by
  have h1 : UInt8.ofNat (97 + i) < UInt8.ofNat (97 + j) := by
    simpa [ch, List.cons_lt_cons_iff] using h
  rw [UInt8.lt_iff_toNat_lt] at h1
  simp at h1
  omega

theorem ch_byte (i : Nat) (hi : i < 26) : ((UInt8.ofNat (97 + i)).toNat : Int) = 97 + (i : Int) := by
  simp; omega
end Go.Proofs.Ytegnmdnflmlioaa
