/-
  NARROWER THAN 'FOR EVERY INPUT', by the rows' own cells (each row's printed sentence says how): RetainLeft: laid · RetainLast: laid · RetainFull: laid · RetainApart: laid · RetainMessages: laid · RetainPlays: laid.
  DERIVED. THE GIVEN ROWS OF THIS SEAT. 6 by the template 'for every input the law returns true; each argument reads behind the call as it read before'; 0 by the template 'total and deterministic' (their statements: YtbgondiibnjcgaaDoorTotals.lean).
  GIVEN WITH THE SEED: the statements are not yours to turn. If you find one false, say at which input.
  Laid BY PROGRAM, IN A SANDBOX (cutbox-rows.mjs): the forced cells as the released guide's own fill.sh prints them over the translation 5ca4a2bcfb8dfd99… (all of the seat's roots in one cut). By AI agents, Wed Nov 11 2026. No macro, syntax, notation, axiom, sorry.
-/
import Derived.Test.YtbgondiibnjcgaaDoorChecked
import GoSem.PinnedTables
import GoSem.Claim
import GoSem.ClaimJoined
import GoSem.ClaimMapViews
import Derived.JoinedTies
import Derived.KernelRfl
namespace Go.Proofs.YtbgondiibnjcgaaDoor
/- THE CELL 'sum', in the pinned program and in every row, IS THE sha256 OF THE DUMP (.gsa) THAT YtbgondiibnjcgaaDoorProg.lean LOADS. Nothing in Lean hashes anything: it is a label: what it is worth is what the hold of that sum in a sandbox is worth. -/
noncomputable def Tryd.pinned : Pinned := { name := "ytbgondiibnjcgaadoor", sum := "5ca4a2bcfb8dfd99d41e1fa13d5a9da0fbc9e97c25202760408c179b4cafe4ed", checked := Tryd.checked }
namespace Rows
def none {H : Type} : Left H := { results := [], args := [] }

/- WHAT THE LISTED PACKAGE-LEVEL VARIABLES READ AS WHEN THE CALL BEGINS. Each datum BY PROGRAM (the guide's laid-datum.mjs) off the statement by which the dump's own 'gosem.cut.vars' lays the variable. In a bare row this is a premise. The card (YtbgondiibnjcgaaDoorCards.lean) ties it to the program's text. -/
def laid_unicode_utf8_acceptRanges {H : Type} : DataW H := .agg [.agg [.lit (.int .u8 128), .lit (.int .u8 191)], .agg [.lit (.int .u8 160), .lit (.int .u8 191)], .agg [.lit (.int .u8 128), .lit (.int .u8 159)], .agg [.lit (.int .u8 144), .lit (.int .u8 191)], .agg [.lit (.int .u8 128), .lit (.int .u8 143)], .agg [.lit (.int .u8 0), .lit (.int .u8 0)], .agg [.lit (.int .u8 0), .lit (.int .u8 0)], .agg [.lit (.int .u8 0), .lit (.int .u8 0)], .agg [.lit (.int .u8 0), .lit (.int .u8 0)], .agg [.lit (.int .u8 0), .lit (.int .u8 0)], .agg [.lit (.int .u8 0), .lit (.int .u8 0)], .agg [.lit (.int .u8 0), .lit (.int .u8 0)], .agg [.lit (.int .u8 0), .lit (.int .u8 0)], .agg [.lit (.int .u8 0), .lit (.int .u8 0)], .agg [.lit (.int .u8 0), .lit (.int .u8 0)], .agg [.lit (.int .u8 0), .lit (.int .u8 0)]]
/-- One of Go's own tables, pinned by name: the form's constant. -/
def laid_unicode_utf8_first : DataW Unit := Go.Pinned.utf8First

/-- 'switchboardlaw12.RetainLeft': WHATEVER THE INPUT: true; the input reads as it did. -/
def retainLeftSpec : ChangeSpec := { name := "retainLeft", fn := fun _ => fun
  | [d1, d2, d3] => { results := [.lit (.bool true)], args := [d1, d2, d3] }
  | _ => none }
def retainLeftRow : OpenClaim := { program := "ytbgondiibnjcgaadoor", sum := "5ca4a2bcfb8dfd99d41e1fa13d5a9da0fbc9e97c25202760408c179b4cafe4ed", func := "switchboard/switchboardlaw12.RetainLeft", spec := "retainLeft", inPlace := ["internal/bytealg.CountString", "internal/bytealg.IndexByteString", "internal/bytealg.IndexString"], unfollowed := true, recurses := true, named := ["unicode/utf8.first", "unicode/utf8.acceptRanges", "internal/bytealg.MaxLen"], apart := false, laid := [("unicode/utf8.acceptRanges", laid_unicode_utf8_acceptRanges), ("unicode/utf8.first", laid_unicode_utf8_first)] }
def RetainLeftSaid : Prop := retainLeftRow.holds Tryd.pinned (OpenSpec.ofChange retainLeftSpec)

/-- ITS FALSE NEIGHBOUR: 'it returns false'. Refute it at one input. -/
def retainLeftWrong : ChangeSpec := { name := "retainLeft", fn := fun _ => fun
  | [d1, d2, d3] => { results := [.lit (.bool false)], args := [d1, d2, d3] }
  | _ => none }
def RetainLeftWrongFalsely : Prop := retainLeftRow.holds Tryd.pinned (OpenSpec.ofChange retainLeftWrong)

/-- 'switchboardlaw12.RetainLast': WHATEVER THE INPUT: true; the input reads as it did. -/
def retainLastSpec : ChangeSpec := { name := "retainLast", fn := fun _ => fun
  | [d] => { results := [.lit (.bool true)], args := [d] }
  | _ => none }
def retainLastRow : OpenClaim := { program := "ytbgondiibnjcgaadoor", sum := "5ca4a2bcfb8dfd99d41e1fa13d5a9da0fbc9e97c25202760408c179b4cafe4ed", func := "switchboard/switchboardlaw12.RetainLast", spec := "retainLast", inPlace := ["internal/bytealg.CountString", "internal/bytealg.IndexByteString", "internal/bytealg.IndexString"], unfollowed := true, recurses := true, named := ["unicode/utf8.first", "unicode/utf8.acceptRanges", "internal/bytealg.MaxLen"], apart := false, laid := [("unicode/utf8.acceptRanges", laid_unicode_utf8_acceptRanges), ("unicode/utf8.first", laid_unicode_utf8_first)] }
def RetainLastSaid : Prop := retainLastRow.holds Tryd.pinned (OpenSpec.ofChange retainLastSpec)

/-- ITS FALSE NEIGHBOUR: 'it returns false'. Refute it at one input. -/
def retainLastWrong : ChangeSpec := { name := "retainLast", fn := fun _ => fun
  | [d] => { results := [.lit (.bool false)], args := [d] }
  | _ => none }
def RetainLastWrongFalsely : Prop := retainLastRow.holds Tryd.pinned (OpenSpec.ofChange retainLastWrong)

/-- 'switchboardlaw12.RetainFull': WHATEVER THE INPUT: true; the input reads as it did. -/
def retainFullSpec : ChangeSpec := { name := "retainFull", fn := fun _ => fun
  | [d1, d2] => { results := [.lit (.bool true)], args := [d1, d2] }
  | _ => none }
def retainFullRow : OpenClaim := { program := "ytbgondiibnjcgaadoor", sum := "5ca4a2bcfb8dfd99d41e1fa13d5a9da0fbc9e97c25202760408c179b4cafe4ed", func := "switchboard/switchboardlaw12.RetainFull", spec := "retainFull", inPlace := ["internal/bytealg.CountString", "internal/bytealg.IndexByteString", "internal/bytealg.IndexString"], unfollowed := true, recurses := true, named := ["unicode/utf8.first", "unicode/utf8.acceptRanges", "internal/bytealg.MaxLen"], apart := false, laid := [("unicode/utf8.acceptRanges", laid_unicode_utf8_acceptRanges), ("unicode/utf8.first", laid_unicode_utf8_first)] }
def RetainFullSaid : Prop := retainFullRow.holds Tryd.pinned (OpenSpec.ofChange retainFullSpec)

/-- ITS FALSE NEIGHBOUR: 'it returns false'. Refute it at one input. -/
def retainFullWrong : ChangeSpec := { name := "retainFull", fn := fun _ => fun
  | [d1, d2] => { results := [.lit (.bool false)], args := [d1, d2] }
  | _ => none }
def RetainFullWrongFalsely : Prop := retainFullRow.holds Tryd.pinned (OpenSpec.ofChange retainFullWrong)

/-- 'switchboardlaw12.RetainApart': WHATEVER THE INPUT: true; the input reads as it did. -/
def retainApartSpec : ChangeSpec := { name := "retainApart", fn := fun _ => fun
  | [d1, d2] => { results := [.lit (.bool true)], args := [d1, d2] }
  | _ => none }
def retainApartRow : OpenClaim := { program := "ytbgondiibnjcgaadoor", sum := "5ca4a2bcfb8dfd99d41e1fa13d5a9da0fbc9e97c25202760408c179b4cafe4ed", func := "switchboard/switchboardlaw12.RetainApart", spec := "retainApart", inPlace := ["internal/bytealg.CountString", "internal/bytealg.IndexByteString", "internal/bytealg.IndexString"], unfollowed := true, recurses := true, named := ["unicode/utf8.first", "unicode/utf8.acceptRanges", "internal/bytealg.MaxLen"], apart := false, laid := [("unicode/utf8.acceptRanges", laid_unicode_utf8_acceptRanges), ("unicode/utf8.first", laid_unicode_utf8_first)] }
def RetainApartSaid : Prop := retainApartRow.holds Tryd.pinned (OpenSpec.ofChange retainApartSpec)

/-- ITS FALSE NEIGHBOUR: 'it returns false'. Refute it at one input. -/
def retainApartWrong : ChangeSpec := { name := "retainApart", fn := fun _ => fun
  | [d1, d2] => { results := [.lit (.bool false)], args := [d1, d2] }
  | _ => none }
def RetainApartWrongFalsely : Prop := retainApartRow.holds Tryd.pinned (OpenSpec.ofChange retainApartWrong)

/-- 'switchboardlaw12.RetainMessages': WHATEVER THE INPUT: true; the input reads as it did. -/
def retainMessagesSpec : ChangeSpec := { name := "retainMessages", fn := fun _ => fun
  | [d1, d2, d3, d4] => { results := [.lit (.bool true)], args := [d1, d2, d3, d4] }
  | _ => none }
def retainMessagesRow : OpenClaim := { program := "ytbgondiibnjcgaadoor", sum := "5ca4a2bcfb8dfd99d41e1fa13d5a9da0fbc9e97c25202760408c179b4cafe4ed", func := "switchboard/switchboardlaw12.RetainMessages", spec := "retainMessages", inPlace := ["internal/bytealg.CountString", "internal/bytealg.IndexByteString", "internal/bytealg.IndexString"], unfollowed := true, recurses := true, named := ["unicode/utf8.first", "unicode/utf8.acceptRanges", "internal/bytealg.MaxLen"], apart := false, laid := [("unicode/utf8.acceptRanges", laid_unicode_utf8_acceptRanges), ("unicode/utf8.first", laid_unicode_utf8_first)] }
def RetainMessagesSaid : Prop := retainMessagesRow.holds Tryd.pinned (OpenSpec.ofChange retainMessagesSpec)

/-- ITS FALSE NEIGHBOUR: 'it returns false'. Refute it at one input. -/
def retainMessagesWrong : ChangeSpec := { name := "retainMessages", fn := fun _ => fun
  | [d1, d2, d3, d4] => { results := [.lit (.bool false)], args := [d1, d2, d3, d4] }
  | _ => none }
def RetainMessagesWrongFalsely : Prop := retainMessagesRow.holds Tryd.pinned (OpenSpec.ofChange retainMessagesWrong)

/-- 'switchboardlaw12.RetainPlays': WHATEVER THE INPUT: true; the input reads as it did. -/
def retainPlaysSpec : ChangeSpec := { name := "retainPlays", fn := fun _ => fun
  | [d1, d2] => { results := [.lit (.bool true)], args := [d1, d2] }
  | _ => none }
def retainPlaysRow : OpenClaim := { program := "ytbgondiibnjcgaadoor", sum := "5ca4a2bcfb8dfd99d41e1fa13d5a9da0fbc9e97c25202760408c179b4cafe4ed", func := "switchboard/switchboardlaw12.RetainPlays", spec := "retainPlays", inPlace := ["internal/bytealg.CountString", "internal/bytealg.IndexByteString", "internal/bytealg.IndexString"], unfollowed := true, recurses := true, named := ["unicode/utf8.first", "unicode/utf8.acceptRanges", "internal/bytealg.MaxLen"], apart := false, laid := [("unicode/utf8.acceptRanges", laid_unicode_utf8_acceptRanges), ("unicode/utf8.first", laid_unicode_utf8_first)] }
def RetainPlaysSaid : Prop := retainPlaysRow.holds Tryd.pinned (OpenSpec.ofChange retainPlaysSpec)

/-- ITS FALSE NEIGHBOUR: 'it returns false'. Refute it at one input. -/
def retainPlaysWrong : ChangeSpec := { name := "retainPlays", fn := fun _ => fun
  | [d1, d2] => { results := [.lit (.bool false)], args := [d1, d2] }
  | _ => none }
def RetainPlaysWrongFalsely : Prop := retainPlaysRow.holds Tryd.pinned (OpenSpec.ofChange retainPlaysWrong)

/- THE SECOND FORM. 'bulk': how many values and letters a reading holds, each counted each time it is reached (what is shared counts as often as it is met; a slice's spare places count too). A statement '..UptoSaid' is the law's where the arguments, and the package variables that the reading takes, are together of bulk at most 1048576: NARROWER than '..Said'. Prove '..Said' where nothing that the law and all that it calls make is longer than what came in: it says more and counts as full. Else prove '..UptoSaid'. A law counts once. -/
mutual
def uptoBulk {H : Type} : DataW H → Nat
  | .lit (.string bytes) => bytes.length + 1
  | .lit _ => 1
  | .nil => 1
  | .ptr d => uptoBulk d + 1
  | .slice elems spare => uptoBulkAll elems + uptoBulkAll spare + 1
  | .agg parts => uptoBulkAll parts + 1
  | .iface _ d => uptoBulk d + 1
  | .map entries => uptoBulkEntries entries + 1
  | .held _ => 1
def uptoBulkAll {H : Type} : List (DataW H) → Nat
  | [] => 0
  | d :: r => uptoBulk d + uptoBulkAll r
def uptoBulkEntries {H : Type} : List (Lit × DataW H) → Nat
  | [] => 0
  | x :: r => uptoBulkEntry x + uptoBulkEntries r
def uptoBulkEntry {H : Type} : Lit × DataW H → Nat
  | (.string bytes, d) => bytes.length + uptoBulk d + 1
  | (_, d) => uptoBulk d + 1
 end
def uptoSmall : (H : Type) → List (DataW H) → Bool := fun _ ds => decide (uptoBulkAll ds ≤ 1048576)
def OpenSpec.upto (s : _root_.Go.ChangeSpec) : _root_.Go.OpenSpec := { _root_.Go.OpenSpec.ofChange s with cond := some uptoSmall }

/-- 'switchboardlaw12.RetainLeft', WHERE WHAT IT READS IS OF BULK AT MOST 1048576: true; the input reads as it did. -/
def retainLeftUptoRow : OpenClaim := { program := "ytbgondiibnjcgaadoor", sum := "5ca4a2bcfb8dfd99d41e1fa13d5a9da0fbc9e97c25202760408c179b4cafe4ed", func := "switchboard/switchboardlaw12.RetainLeft", spec := "retainLeft", inPlace := ["internal/bytealg.CountString", "internal/bytealg.IndexByteString", "internal/bytealg.IndexString"], unfollowed := true, recurses := true, named := ["unicode/utf8.first", "unicode/utf8.acceptRanges", "internal/bytealg.MaxLen"], apart := false, laid := [("unicode/utf8.acceptRanges", laid_unicode_utf8_acceptRanges), ("unicode/utf8.first", laid_unicode_utf8_first)], narrowed := true }
def RetainLeftUptoSaid : Prop := retainLeftUptoRow.holds Tryd.pinned (OpenSpec.upto retainLeftSpec)

/-- 'switchboardlaw12.RetainLast', WHERE WHAT IT READS IS OF BULK AT MOST 1048576: true; the input reads as it did. -/
def retainLastUptoRow : OpenClaim := { program := "ytbgondiibnjcgaadoor", sum := "5ca4a2bcfb8dfd99d41e1fa13d5a9da0fbc9e97c25202760408c179b4cafe4ed", func := "switchboard/switchboardlaw12.RetainLast", spec := "retainLast", inPlace := ["internal/bytealg.CountString", "internal/bytealg.IndexByteString", "internal/bytealg.IndexString"], unfollowed := true, recurses := true, named := ["unicode/utf8.first", "unicode/utf8.acceptRanges", "internal/bytealg.MaxLen"], apart := false, laid := [("unicode/utf8.acceptRanges", laid_unicode_utf8_acceptRanges), ("unicode/utf8.first", laid_unicode_utf8_first)], narrowed := true }
def RetainLastUptoSaid : Prop := retainLastUptoRow.holds Tryd.pinned (OpenSpec.upto retainLastSpec)

/-- 'switchboardlaw12.RetainFull', WHERE WHAT IT READS IS OF BULK AT MOST 1048576: true; the input reads as it did. -/
def retainFullUptoRow : OpenClaim := { program := "ytbgondiibnjcgaadoor", sum := "5ca4a2bcfb8dfd99d41e1fa13d5a9da0fbc9e97c25202760408c179b4cafe4ed", func := "switchboard/switchboardlaw12.RetainFull", spec := "retainFull", inPlace := ["internal/bytealg.CountString", "internal/bytealg.IndexByteString", "internal/bytealg.IndexString"], unfollowed := true, recurses := true, named := ["unicode/utf8.first", "unicode/utf8.acceptRanges", "internal/bytealg.MaxLen"], apart := false, laid := [("unicode/utf8.acceptRanges", laid_unicode_utf8_acceptRanges), ("unicode/utf8.first", laid_unicode_utf8_first)], narrowed := true }
def RetainFullUptoSaid : Prop := retainFullUptoRow.holds Tryd.pinned (OpenSpec.upto retainFullSpec)

/-- 'switchboardlaw12.RetainApart', WHERE WHAT IT READS IS OF BULK AT MOST 1048576: true; the input reads as it did. -/
def retainApartUptoRow : OpenClaim := { program := "ytbgondiibnjcgaadoor", sum := "5ca4a2bcfb8dfd99d41e1fa13d5a9da0fbc9e97c25202760408c179b4cafe4ed", func := "switchboard/switchboardlaw12.RetainApart", spec := "retainApart", inPlace := ["internal/bytealg.CountString", "internal/bytealg.IndexByteString", "internal/bytealg.IndexString"], unfollowed := true, recurses := true, named := ["unicode/utf8.first", "unicode/utf8.acceptRanges", "internal/bytealg.MaxLen"], apart := false, laid := [("unicode/utf8.acceptRanges", laid_unicode_utf8_acceptRanges), ("unicode/utf8.first", laid_unicode_utf8_first)], narrowed := true }
def RetainApartUptoSaid : Prop := retainApartUptoRow.holds Tryd.pinned (OpenSpec.upto retainApartSpec)

/-- 'switchboardlaw12.RetainMessages', WHERE WHAT IT READS IS OF BULK AT MOST 1048576: true; the input reads as it did. -/
def retainMessagesUptoRow : OpenClaim := { program := "ytbgondiibnjcgaadoor", sum := "5ca4a2bcfb8dfd99d41e1fa13d5a9da0fbc9e97c25202760408c179b4cafe4ed", func := "switchboard/switchboardlaw12.RetainMessages", spec := "retainMessages", inPlace := ["internal/bytealg.CountString", "internal/bytealg.IndexByteString", "internal/bytealg.IndexString"], unfollowed := true, recurses := true, named := ["unicode/utf8.first", "unicode/utf8.acceptRanges", "internal/bytealg.MaxLen"], apart := false, laid := [("unicode/utf8.acceptRanges", laid_unicode_utf8_acceptRanges), ("unicode/utf8.first", laid_unicode_utf8_first)], narrowed := true }
def RetainMessagesUptoSaid : Prop := retainMessagesUptoRow.holds Tryd.pinned (OpenSpec.upto retainMessagesSpec)

/-- 'switchboardlaw12.RetainPlays', WHERE WHAT IT READS IS OF BULK AT MOST 1048576: true; the input reads as it did. -/
def retainPlaysUptoRow : OpenClaim := { program := "ytbgondiibnjcgaadoor", sum := "5ca4a2bcfb8dfd99d41e1fa13d5a9da0fbc9e97c25202760408c179b4cafe4ed", func := "switchboard/switchboardlaw12.RetainPlays", spec := "retainPlays", inPlace := ["internal/bytealg.CountString", "internal/bytealg.IndexByteString", "internal/bytealg.IndexString"], unfollowed := true, recurses := true, named := ["unicode/utf8.first", "unicode/utf8.acceptRanges", "internal/bytealg.MaxLen"], apart := false, laid := [("unicode/utf8.acceptRanges", laid_unicode_utf8_acceptRanges), ("unicode/utf8.first", laid_unicode_utf8_first)], narrowed := true }
def RetainPlaysUptoSaid : Prop := retainPlaysUptoRow.holds Tryd.pinned (OpenSpec.upto retainPlaysSpec)

end Rows
end Go.Proofs.YtbgondiibnjcgaaDoor
