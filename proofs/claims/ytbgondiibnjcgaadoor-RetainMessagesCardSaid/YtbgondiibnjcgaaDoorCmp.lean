import Derived.Test.YtbgondiibnjcgaaDoorMem
import Derived.Lib.Bytealg
import Derived.Lib.Small
import Derived.Sort.Statements
namespace Go.Proofs.YtbgondiibnjcgaaDoor
open Go.Lib
theorem ba_ext {a b : ByteArray} (h : a.data.toList = b.data.toList) : a = b := by
  cases a; cases b; congr; exact Array.toList_inj.1 h
def ltE (x y : ByteArray × Int) : Prop := x.2 < y.2 ∨ x.2 = y.2 ∧ x.1.data.toList < y.1.data.toList
def ordE (x y : ByteArray × Int) : Int := if compareInt x.2 y.2 = 0 then compareBytes x.1.data.toList y.1.data.toList else compareInt x.2 y.2
theorem ltE.trans {x y z : ByteArray × Int} (h1 : ltE x y) (h2 : ltE y z) : ltE x z := by
  rcases h1 with h1 | h1 <;> rcases h2 with h2 | h2
  · exact .inl (by omega)
  · exact .inl (by omega)
  · exact .inl (by omega)
  · exact .inr ⟨by omega, List.lt_trans h1.2 h2.2⟩
instance (x y : ByteArray × Int) : Decidable (ltE x y) := by unfold ltE; infer_instance
end Go.Proofs.YtbgondiibnjcgaaDoor
