import Derived.Test.YtegnmdnflmlioaaMem
import Derived.Laws.BitsLemmas
import Derived.IntWalk
namespace Go.Proofs.Ytegnmdnflmlioaa
theorem band_small (a : Int) (m : Nat) (hm : m < 1000000) : 0 ≤ bits .and .i64 a (m : Int) ∧ bits .and .i64 a (m : Int) ≤ m := by
  have e : bits .and .i64 a (m : Int) = IntKind.i64.wrap (((BitVec.ofInt 64 a) &&& (BitVec.ofInt 64 (m : Int))).toNat : Int) := rfl
  have hb : (BitVec.ofInt 64 (m : Int)).toNat = m := by
    rw [BitVec.toNat_ofInt]; omega
  have hle : ((BitVec.ofInt 64 a) &&& (BitVec.ofInt 64 (m : Int))).toNat ≤ m := by
    rw [BitVec.toNat_and, hb]
    exact Nat.and_le_right
  rw [e, IntKind.wrap_i64]
  omega
end Go.Proofs.Ytegnmdnflmlioaa
