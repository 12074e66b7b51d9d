import Derived.Test.YtbgondiibnjcgaaDoorRows
import Derived.Test.YtbgondiibnjcgaaDoorMem
import Derived.Test.YtbgondiibnjcgaaDoorIn
namespace Go.Proofs.YtbgondiibnjcgaaDoor
open Go.RowKit
set_option maxRecDepth 10000
set_option linter.unusedVariables false
set_option maxHeartbeats 1000000
def cutS (s : ByteArray) (n : Nat) : ByteArray := if s.size > n then s.extract 0 n else s
theorem cutS_size (s : ByteArray) (n : Nat) : (cutS s n).size ≤ n := by
  unfold cutS
  split
  · simp; omega
  · omega
theorem cut01_any (s : ByteArray) (n : Nat) (w : World) : Calls Tryd.prog 18 #[.string s, .int .i64 n] w fun e w' => e = .returned (.string (cutS s n)) ∧ w' = w := by
  by_cases h : (s.size : Int) > n
  · have e := hide (show cutS s n = s.extract 0 n by unfold cutS; rw [if_pos (by omega)])
    go_enter Tryd.func18, Tryd.ntmps18
    go_wp2
    go_ret
    rw [e.out]
    exact ⟨rfl, rfl⟩
  · have e := hide (show cutS s n = s by unfold cutS; rw [if_neg (by omega)])
    go_enter Tryd.func18, Tryd.ntmps18
    go_wp2
    go_ret
    rw [e.out]
    exact ⟨rfl, rfl⟩
end Go.Proofs.YtbgondiibnjcgaaDoor
