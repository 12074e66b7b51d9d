import Derived.Test.YtbgondiibnjcgaaDoorRt3
import Derived.Test.YtbgondiibnjcgaaDoorRngD
namespace Go.Proofs.YtbgondiibnjcgaaDoor
open Go.RowKit Go.Shelf Go.Proofs.YtbgondiibnjcgaaDoor.PRetainPlays Go.Proofs.YtbgondiibnjcgaaDoorW.PrintWords Go.Proofs.YtbgondiibnjcgaaDoorW.PrintLast
set_option maxRecDepth 100000
set_option linter.unusedVariables false
set_option maxHeartbeats 1000000
def goneM (now : Int) (m : Rm) : Bool := goneV m.at_ m.ps now
def dfRel (w0 : World) (b r : Nat) (hs : List (ByteArray × Rm)) (now : Int) (wr : World) : Prop :=
  ∃ l ss, RangeAt wr b r Value.string rmV l ss ∧ l.Sublist hs ∧ (∀ p ∈ l, p.1 ∈ ss → goneM now p.2 = false) ∧ (∀ p ∈ hs, goneM now p.2 = false → p ∈ l) ∧ Keep [b, r] w0 wr
end Go.Proofs.YtbgondiibnjcgaaDoor
