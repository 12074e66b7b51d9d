import Derived.Test.YtjhhnidfmoejdaaDoorRows
import Derived.Test.YtjhhnidfmoejdaaDoorMem
import Derived.Test.YtjhhnidfmoejdaaDoorIn
import Derived.Laws.BitsLemmas
import Derived.IntWalk
namespace Go.Proofs.YtjhhnidfmoejdaaDoor
open Go.RowKit
set_option maxRecDepth 10000
set_option linter.unusedVariables false
set_option maxHeartbeats 1000000
def cutS (s : ByteArray) (n : Nat) : ByteArray := if s.size > n then s.extract 0 n else s
theorem cut01_any (s : ByteArray) (n : Nat) (w : World) : Calls Tryd.prog 22 #[.string s, .int .i64 n] w fun e w' => e = .returned (.string (cutS s n)) ∧ w' = w := by
  by_cases h : (s.size : Int) > n
  · have e := hide (show cutS s n = s.extract 0 n by unfold cutS; rw [if_pos (by omega)])
    go_enter Tryd.func22, Tryd.ntmps22
    go_wp2
    go_ret
    rw [e.out]
    exact ⟨rfl, rfl⟩
  · have e := hide (show cutS s n = s by unfold cutS; rw [if_neg (by omega)])
    go_enter Tryd.func22, Tryd.ntmps22
    go_wp2
    go_ret
    rw [e.out]
    exact ⟨rfl, rfl⟩
end Go.Proofs.YtjhhnidfmoejdaaDoor
namespace Go.Proofs.YtjhhnidfmoejdaaDoor
theorem band_small (a : Int) (m : Nat) (hm : m < 1000000) : 0 ≤ bits .and .i64 a (m : Int) ∧ bits .and .i64 a (m : Int) ≤ m := by
  have e : bits .and .i64 a (m : Int) = IntKind.i64.wrap (((BitVec.ofInt 64 a) &&& (BitVec.ofInt 64 (m : Int))).toNat : Int) := rfl
  have hb : (BitVec.ofInt 64 (m : Int)).toNat = m := by
    rw [BitVec.toNat_ofInt]; omega
  have hle : ((BitVec.ofInt 64 a) &&& (BitVec.ofInt 64 (m : Int))).toNat ≤ m := by
    rw [BitVec.toNat_and, hb]
    exact Nat.and_le_right
  rw [e, IntKind.wrap_i64]
  omega
end Go.Proofs.YtjhhnidfmoejdaaDoor
