/-
  No cell of these rows narrows 'for every input' (looked for: loops, veiled, ifaces, maps, wideKeys, modest, calm, conditions, laid).
  DERIVED. THE GIVEN ROWS OF THIS SEAT. 5 by the template 'for every input the law returns true; each argument reads behind the call as it read before'; 0 by the template 'total and deterministic' (their statements: YtaahmjamkllphaaTotals.lean).
  GIVEN WITH THE SEED: the statements are not yours to turn. If you find one false, say at which input.
  Laid BY PROGRAM, IN A SANDBOX (cutbox-rows.mjs): the forced cells as the released guide's own fill.sh prints them over the translation 166296e3eaedd415… (all of the seat's roots in one cut). By AI agents, Wed Nov 11 2026. No macro, syntax, notation, axiom, sorry.
-/
import Derived.Test.YtaahmjamkllphaaChecked
import GoSem.Claim
import GoSem.ClaimJoined
import GoSem.ClaimMapViews
import Derived.JoinedTies
import Derived.KernelRfl
namespace Go.Proofs.Ytaahmjamkllphaa
/- THE CELL 'sum', in the pinned program and in every row, IS THE sha256 OF THE DUMP (.gsa) THAT YtaahmjamkllphaaProg.lean LOADS. Nothing in Lean hashes anything: it is a label: what it is worth is what the hold of that sum in a sandbox is worth. -/
noncomputable def Try.pinned : Pinned := { name := "ytaahmjamkllphaa", sum := "166296e3eaedd4154ad3463ad7ae3480211d83a60a1e2a024a4cf587b14c03ad", checked := Try.checked }
namespace Rows
def none {H : Type} : Left H := { results := [], args := [] }

/-- 'switchboardlaw19.PipeOrder': WHATEVER THE INPUT: true; the input reads as it did. -/
def pipeOrderSpec : ChangeSpec := { name := "pipeOrder", fn := fun _ => fun
  | [d1, d2, d3, d4] => { results := [.lit (.bool true)], args := [d1, d2, d3, d4] }
  | _ => none }
def pipeOrderRow : OpenClaim := { program := "ytaahmjamkllphaa", sum := "166296e3eaedd4154ad3463ad7ae3480211d83a60a1e2a024a4cf587b14c03ad", func := "switchboard/switchboardlaw19.PipeOrder", spec := "pipeOrder", unfollowed := true, recurses := true, apart := false }
def PipeOrderSaid : Prop := pipeOrderRow.holds Try.pinned (OpenSpec.ofChange pipeOrderSpec)

/-- ITS FALSE NEIGHBOUR: 'it returns false'. Refute it at one input. -/
def pipeOrderWrong : ChangeSpec := { name := "pipeOrder", fn := fun _ => fun
  | [d1, d2, d3, d4] => { results := [.lit (.bool false)], args := [d1, d2, d3, d4] }
  | _ => none }
def PipeOrderWrongFalsely : Prop := pipeOrderRow.holds Try.pinned (OpenSpec.ofChange pipeOrderWrong)

/-- 'switchboardlaw19.PipeSums': WHATEVER THE INPUT: true; the input reads as it did. -/
def pipeSumsSpec : ChangeSpec := { name := "pipeSums", fn := fun _ => fun
  | [d1, d2] => { results := [.lit (.bool true)], args := [d1, d2] }
  | _ => none }
def pipeSumsRow : OpenClaim := { program := "ytaahmjamkllphaa", sum := "166296e3eaedd4154ad3463ad7ae3480211d83a60a1e2a024a4cf587b14c03ad", func := "switchboard/switchboardlaw19.PipeSums", spec := "pipeSums", unfollowed := true, recurses := true, apart := false }
def PipeSumsSaid : Prop := pipeSumsRow.holds Try.pinned (OpenSpec.ofChange pipeSumsSpec)

/-- ITS FALSE NEIGHBOUR: 'it returns false'. Refute it at one input. -/
def pipeSumsWrong : ChangeSpec := { name := "pipeSums", fn := fun _ => fun
  | [d1, d2] => { results := [.lit (.bool false)], args := [d1, d2] }
  | _ => none }
def PipeSumsWrongFalsely : Prop := pipeSumsRow.holds Try.pinned (OpenSpec.ofChange pipeSumsWrong)

/-- 'switchboardlaw19.PipePlays': WHATEVER THE INPUT: true; the input reads as it did. -/
def pipePlaysSpec : ChangeSpec := { name := "pipePlays", fn := fun _ => fun
  | [d] => { results := [.lit (.bool true)], args := [d] }
  | _ => none }
def pipePlaysRow : OpenClaim := { program := "ytaahmjamkllphaa", sum := "166296e3eaedd4154ad3463ad7ae3480211d83a60a1e2a024a4cf587b14c03ad", func := "switchboard/switchboardlaw19.PipePlays", spec := "pipePlays", unfollowed := true, recurses := true, apart := false }
def PipePlaysSaid : Prop := pipePlaysRow.holds Try.pinned (OpenSpec.ofChange pipePlaysSpec)

/-- ITS FALSE NEIGHBOUR: 'it returns false'. Refute it at one input. -/
def pipePlaysWrong : ChangeSpec := { name := "pipePlays", fn := fun _ => fun
  | [d] => { results := [.lit (.bool false)], args := [d] }
  | _ => none }
def PipePlaysWrongFalsely : Prop := pipePlaysRow.holds Try.pinned (OpenSpec.ofChange pipePlaysWrong)

/-- 'switchboardlaw19.PipeHung': WHATEVER THE INPUT: true; the input reads as it did. -/
def pipeHungSpec : ChangeSpec := { name := "pipeHung", fn := fun _ => fun
  | [d1, d2] => { results := [.lit (.bool true)], args := [d1, d2] }
  | _ => none }
def pipeHungRow : OpenClaim := { program := "ytaahmjamkllphaa", sum := "166296e3eaedd4154ad3463ad7ae3480211d83a60a1e2a024a4cf587b14c03ad", func := "switchboard/switchboardlaw19.PipeHung", spec := "pipeHung", unfollowed := true, recurses := true, apart := false }
def PipeHungSaid : Prop := pipeHungRow.holds Try.pinned (OpenSpec.ofChange pipeHungSpec)

/-- ITS FALSE NEIGHBOUR: 'it returns false'. Refute it at one input. -/
def pipeHungWrong : ChangeSpec := { name := "pipeHung", fn := fun _ => fun
  | [d1, d2] => { results := [.lit (.bool false)], args := [d1, d2] }
  | _ => none }
def PipeHungWrongFalsely : Prop := pipeHungRow.holds Try.pinned (OpenSpec.ofChange pipeHungWrong)

/-- 'switchboardlaw19.PipeMany': WHATEVER THE INPUT: true; the input reads as it did. -/
def pipeManySpec : ChangeSpec := { name := "pipeMany", fn := fun _ => fun
  | [d1, d2, d3] => { results := [.lit (.bool true)], args := [d1, d2, d3] }
  | _ => none }
def pipeManyRow : OpenClaim := { program := "ytaahmjamkllphaa", sum := "166296e3eaedd4154ad3463ad7ae3480211d83a60a1e2a024a4cf587b14c03ad", func := "switchboard/switchboardlaw19.PipeMany", spec := "pipeMany", unfollowed := true, recurses := true, apart := false }
def PipeManySaid : Prop := pipeManyRow.holds Try.pinned (OpenSpec.ofChange pipeManySpec)

/-- ITS FALSE NEIGHBOUR: 'it returns false'. Refute it at one input. -/
def pipeManyWrong : ChangeSpec := { name := "pipeMany", fn := fun _ => fun
  | [d1, d2, d3] => { results := [.lit (.bool false)], args := [d1, d2, d3] }
  | _ => none }
def PipeManyWrongFalsely : Prop := pipeManyRow.holds Try.pinned (OpenSpec.ofChange pipeManyWrong)

/- THE SECOND FORM. 'bulk': how many values and letters a reading holds, each counted each time it is reached (what is shared counts as often as it is met; a slice's spare places count too). A statement '..UptoSaid' is the law's where the arguments, and the package variables that the reading takes, are together of bulk at most 1048576: NARROWER than '..Said'. Prove '..Said' where nothing that the law and all that it calls make is longer than what came in: it says more and counts as full. Else prove '..UptoSaid'. A law counts once. -/
mutual
def uptoBulk {H : Type} : DataW H → Nat
  | .lit (.string bytes) => bytes.length + 1
  | .lit _ => 1
  | .nil => 1
  | .ptr d => uptoBulk d + 1
  | .slice elems spare => uptoBulkAll elems + uptoBulkAll spare + 1
  | .agg parts => uptoBulkAll parts + 1
  | .iface _ d => uptoBulk d + 1
  | .map entries => uptoBulkEntries entries + 1
  | .held _ => 1
def uptoBulkAll {H : Type} : List (DataW H) → Nat
  | [] => 0
  | d :: r => uptoBulk d + uptoBulkAll r
def uptoBulkEntries {H : Type} : List (Lit × DataW H) → Nat
  | [] => 0
  | x :: r => uptoBulkEntry x + uptoBulkEntries r
def uptoBulkEntry {H : Type} : Lit × DataW H → Nat
  | (.string bytes, d) => bytes.length + uptoBulk d + 1
  | (_, d) => uptoBulk d + 1
 end
def uptoSmall : (H : Type) → List (DataW H) → Bool := fun _ ds => decide (uptoBulkAll ds ≤ 1048576)
def OpenSpec.upto (s : _root_.Go.ChangeSpec) : _root_.Go.OpenSpec := { _root_.Go.OpenSpec.ofChange s with cond := some uptoSmall }

/-- 'switchboardlaw19.PipeOrder', WHERE WHAT IT READS IS OF BULK AT MOST 1048576: true; the input reads as it did. -/
def pipeOrderUptoRow : OpenClaim := { program := "ytaahmjamkllphaa", sum := "166296e3eaedd4154ad3463ad7ae3480211d83a60a1e2a024a4cf587b14c03ad", func := "switchboard/switchboardlaw19.PipeOrder", spec := "pipeOrder", unfollowed := true, recurses := true, apart := false, narrowed := true }
def PipeOrderUptoSaid : Prop := pipeOrderUptoRow.holds Try.pinned (OpenSpec.upto pipeOrderSpec)

/-- 'switchboardlaw19.PipeSums', WHERE WHAT IT READS IS OF BULK AT MOST 1048576: true; the input reads as it did. -/
def pipeSumsUptoRow : OpenClaim := { program := "ytaahmjamkllphaa", sum := "166296e3eaedd4154ad3463ad7ae3480211d83a60a1e2a024a4cf587b14c03ad", func := "switchboard/switchboardlaw19.PipeSums", spec := "pipeSums", unfollowed := true, recurses := true, apart := false, narrowed := true }
def PipeSumsUptoSaid : Prop := pipeSumsUptoRow.holds Try.pinned (OpenSpec.upto pipeSumsSpec)

/-- 'switchboardlaw19.PipePlays', WHERE WHAT IT READS IS OF BULK AT MOST 1048576: true; the input reads as it did. -/
def pipePlaysUptoRow : OpenClaim := { program := "ytaahmjamkllphaa", sum := "166296e3eaedd4154ad3463ad7ae3480211d83a60a1e2a024a4cf587b14c03ad", func := "switchboard/switchboardlaw19.PipePlays", spec := "pipePlays", unfollowed := true, recurses := true, apart := false, narrowed := true }
def PipePlaysUptoSaid : Prop := pipePlaysUptoRow.holds Try.pinned (OpenSpec.upto pipePlaysSpec)

/-- 'switchboardlaw19.PipeHung', WHERE WHAT IT READS IS OF BULK AT MOST 1048576: true; the input reads as it did. -/
def pipeHungUptoRow : OpenClaim := { program := "ytaahmjamkllphaa", sum := "166296e3eaedd4154ad3463ad7ae3480211d83a60a1e2a024a4cf587b14c03ad", func := "switchboard/switchboardlaw19.PipeHung", spec := "pipeHung", unfollowed := true, recurses := true, apart := false, narrowed := true }
def PipeHungUptoSaid : Prop := pipeHungUptoRow.holds Try.pinned (OpenSpec.upto pipeHungSpec)

/-- 'switchboardlaw19.PipeMany', WHERE WHAT IT READS IS OF BULK AT MOST 1048576: true; the input reads as it did. -/
def pipeManyUptoRow : OpenClaim := { program := "ytaahmjamkllphaa", sum := "166296e3eaedd4154ad3463ad7ae3480211d83a60a1e2a024a4cf587b14c03ad", func := "switchboard/switchboardlaw19.PipeMany", spec := "pipeMany", unfollowed := true, recurses := true, apart := false, narrowed := true }
def PipeManyUptoSaid : Prop := pipeManyUptoRow.holds Try.pinned (OpenSpec.upto pipeManySpec)

end Rows
end Go.Proofs.Ytaahmjamkllphaa
