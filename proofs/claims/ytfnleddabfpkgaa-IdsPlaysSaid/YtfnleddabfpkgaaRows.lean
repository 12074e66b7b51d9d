/-
  No cell of these rows narrows 'for every input' (looked for: loops, veiled, ifaces, maps, wideKeys, modest, calm, conditions, laid).
  DERIVED. THE GIVEN ROWS OF THIS SEAT. 13 by the template 'for every input the law returns true; each argument reads behind the call as it read before'; 0 by the template 'total and deterministic' (their statements: YtfnleddabfpkgaaTotals.lean).
  GIVEN WITH THE SEED: the statements are not yours to turn. If you find one false, say at which input.
  Laid BY PROGRAM, IN A SANDBOX (cutbox-rows.mjs): the forced cells as the released guide's own fill.sh prints them over the translation d9de1ba61f318656… (all of the seat's roots in one cut). By AI agents, Wed Nov 11 2026. No macro, syntax, notation, axiom, sorry.
-/
import Derived.Test.YtfnleddabfpkgaaChecked
import GoSem.Claim
import GoSem.ClaimJoined
import GoSem.ClaimMapViews
import Derived.JoinedTies
import Derived.KernelRfl
namespace Go.Proofs.Ytfnleddabfpkgaa
/- THE CELL 'sum', in the pinned program and in every row, IS THE sha256 OF THE DUMP (.gsa) THAT YtfnleddabfpkgaaProg.lean LOADS. Nothing in Lean hashes anything: it is a label: what it is worth is what the hold of that sum in a sandbox is worth. -/
noncomputable def Try.pinned : Pinned := { name := "ytfnleddabfpkgaa", sum := "d9de1ba61f3186564599d90545b3994954ec05fb43b62778deae57d25bc857aa", checked := Try.checked }
namespace Rows
def none {H : Type} : Left H := { results := [], args := [] }

/-- 'switchboardlaw14.InboundOnce': WHATEVER THE INPUT: true; the input reads as it did. -/
def inboundOnceSpec : ChangeSpec := { name := "inboundOnce", fn := fun _ => fun
  | [d1, d2, d3] => { results := [.lit (.bool true)], args := [d1, d2, d3] }
  | _ => none }
def inboundOnceRow : OpenClaim := { program := "ytfnleddabfpkgaa", sum := "d9de1ba61f3186564599d90545b3994954ec05fb43b62778deae57d25bc857aa", func := "switchboard/switchboardlaw14.InboundOnce", spec := "inboundOnce", apart := false }
def InboundOnceSaid : Prop := inboundOnceRow.holds Try.pinned (OpenSpec.ofChange inboundOnceSpec)

/-- ITS FALSE NEIGHBOUR: 'it returns false'. Refute it at one input. -/
def inboundOnceWrong : ChangeSpec := { name := "inboundOnce", fn := fun _ => fun
  | [d1, d2, d3] => { results := [.lit (.bool false)], args := [d1, d2, d3] }
  | _ => none }
def InboundOnceWrongFalsely : Prop := inboundOnceRow.holds Try.pinned (OpenSpec.ofChange inboundOnceWrong)

/-- 'switchboardlaw14.InboundQuota': WHATEVER THE INPUT: true; the input reads as it did. -/
def inboundQuotaSpec : ChangeSpec := { name := "inboundQuota", fn := fun _ => fun
  | [d1, d2] => { results := [.lit (.bool true)], args := [d1, d2] }
  | _ => none }
def inboundQuotaRow : OpenClaim := { program := "ytfnleddabfpkgaa", sum := "d9de1ba61f3186564599d90545b3994954ec05fb43b62778deae57d25bc857aa", func := "switchboard/switchboardlaw14.InboundQuota", spec := "inboundQuota", apart := false }
def InboundQuotaSaid : Prop := inboundQuotaRow.holds Try.pinned (OpenSpec.ofChange inboundQuotaSpec)

/-- ITS FALSE NEIGHBOUR: 'it returns false'. Refute it at one input. -/
def inboundQuotaWrong : ChangeSpec := { name := "inboundQuota", fn := fun _ => fun
  | [d1, d2] => { results := [.lit (.bool false)], args := [d1, d2] }
  | _ => none }
def InboundQuotaWrongFalsely : Prop := inboundQuotaRow.holds Try.pinned (OpenSpec.ofChange inboundQuotaWrong)

/-- 'switchboardlaw13.IdsAll': WHATEVER THE INPUT: true; the input reads as it did. -/
def idsAllSpec : ChangeSpec := { name := "idsAll", fn := fun _ => fun
  | [d1, d2] => { results := [.lit (.bool true)], args := [d1, d2] }
  | _ => none }
def idsAllRow : OpenClaim := { program := "ytfnleddabfpkgaa", sum := "d9de1ba61f3186564599d90545b3994954ec05fb43b62778deae57d25bc857aa", func := "switchboard/switchboardlaw13.IdsAll", spec := "idsAll", apart := false }
def IdsAllSaid : Prop := idsAllRow.holds Try.pinned (OpenSpec.ofChange idsAllSpec)

/-- ITS FALSE NEIGHBOUR: 'it returns false'. Refute it at one input. -/
def idsAllWrong : ChangeSpec := { name := "idsAll", fn := fun _ => fun
  | [d1, d2] => { results := [.lit (.bool false)], args := [d1, d2] }
  | _ => none }
def IdsAllWrongFalsely : Prop := idsAllRow.holds Try.pinned (OpenSpec.ofChange idsAllWrong)

/-- 'switchboardlaw13.IdsRound': WHATEVER THE INPUT: true; the input reads as it did. -/
def idsRoundSpec : ChangeSpec := { name := "idsRound", fn := fun _ => fun
  | [d1, d2] => { results := [.lit (.bool true)], args := [d1, d2] }
  | _ => none }
def idsRoundRow : OpenClaim := { program := "ytfnleddabfpkgaa", sum := "d9de1ba61f3186564599d90545b3994954ec05fb43b62778deae57d25bc857aa", func := "switchboard/switchboardlaw13.IdsRound", spec := "idsRound", apart := false }
def IdsRoundSaid : Prop := idsRoundRow.holds Try.pinned (OpenSpec.ofChange idsRoundSpec)

/-- ITS FALSE NEIGHBOUR: 'it returns false'. Refute it at one input. -/
def idsRoundWrong : ChangeSpec := { name := "idsRound", fn := fun _ => fun
  | [d1, d2] => { results := [.lit (.bool false)], args := [d1, d2] }
  | _ => none }
def IdsRoundWrongFalsely : Prop := idsRoundRow.holds Try.pinned (OpenSpec.ofChange idsRoundWrong)

/-- 'switchboardlaw13.IdsGreat': WHATEVER THE INPUT: true; the input reads as it did. -/
def idsGreatSpec : ChangeSpec := { name := "idsGreat", fn := fun _ => fun
  | [d1, d2] => { results := [.lit (.bool true)], args := [d1, d2] }
  | _ => none }
def idsGreatRow : OpenClaim := { program := "ytfnleddabfpkgaa", sum := "d9de1ba61f3186564599d90545b3994954ec05fb43b62778deae57d25bc857aa", func := "switchboard/switchboardlaw13.IdsGreat", spec := "idsGreat", apart := false }
def IdsGreatSaid : Prop := idsGreatRow.holds Try.pinned (OpenSpec.ofChange idsGreatSpec)

/-- ITS FALSE NEIGHBOUR: 'it returns false'. Refute it at one input. -/
def idsGreatWrong : ChangeSpec := { name := "idsGreat", fn := fun _ => fun
  | [d1, d2] => { results := [.lit (.bool false)], args := [d1, d2] }
  | _ => none }
def IdsGreatWrongFalsely : Prop := idsGreatRow.holds Try.pinned (OpenSpec.ofChange idsGreatWrong)

/-- 'switchboardlaw13.IdsHole': WHATEVER THE INPUT: true; the input reads as it did. -/
def idsHoleSpec : ChangeSpec := { name := "idsHole", fn := fun _ => fun
  | [d1, d2, d3] => { results := [.lit (.bool true)], args := [d1, d2, d3] }
  | _ => none }
def idsHoleRow : OpenClaim := { program := "ytfnleddabfpkgaa", sum := "d9de1ba61f3186564599d90545b3994954ec05fb43b62778deae57d25bc857aa", func := "switchboard/switchboardlaw13.IdsHole", spec := "idsHole", apart := false }
def IdsHoleSaid : Prop := idsHoleRow.holds Try.pinned (OpenSpec.ofChange idsHoleSpec)

/-- ITS FALSE NEIGHBOUR: 'it returns false'. Refute it at one input. -/
def idsHoleWrong : ChangeSpec := { name := "idsHole", fn := fun _ => fun
  | [d1, d2, d3] => { results := [.lit (.bool false)], args := [d1, d2, d3] }
  | _ => none }
def IdsHoleWrongFalsely : Prop := idsHoleRow.holds Try.pinned (OpenSpec.ofChange idsHoleWrong)

/-- 'switchboardlaw04.ReasonMay': WHATEVER THE INPUT: true; the input reads as it did. -/
def reasonMaySpec : ChangeSpec := { name := "reasonMay", fn := fun _ => fun
  | [d1, d2] => { results := [.lit (.bool true)], args := [d1, d2] }
  | _ => none }
def reasonMayRow : OpenClaim := { program := "ytfnleddabfpkgaa", sum := "d9de1ba61f3186564599d90545b3994954ec05fb43b62778deae57d25bc857aa", func := "switchboard/switchboardlaw04.ReasonMay", spec := "reasonMay", inPlace := ["internal/bytealg.IndexByteString"], apart := false }
def ReasonMaySaid : Prop := reasonMayRow.holds Try.pinned (OpenSpec.ofChange reasonMaySpec)

/-- ITS FALSE NEIGHBOUR: 'it returns false'. Refute it at one input. -/
def reasonMayWrong : ChangeSpec := { name := "reasonMay", fn := fun _ => fun
  | [d1, d2] => { results := [.lit (.bool false)], args := [d1, d2] }
  | _ => none }
def ReasonMayWrongFalsely : Prop := reasonMayRow.holds Try.pinned (OpenSpec.ofChange reasonMayWrong)

/-- 'switchboardlaw04.ReasonOf': WHATEVER THE INPUT: true; the input reads as it did. -/
def reasonOfSpec : ChangeSpec := { name := "reasonOf", fn := fun _ => fun
  | [d] => { results := [.lit (.bool true)], args := [d] }
  | _ => none }
def reasonOfRow : OpenClaim := { program := "ytfnleddabfpkgaa", sum := "d9de1ba61f3186564599d90545b3994954ec05fb43b62778deae57d25bc857aa", func := "switchboard/switchboardlaw04.ReasonOf", spec := "reasonOf", inPlace := ["internal/bytealg.IndexByteString"], apart := false }
def ReasonOfSaid : Prop := reasonOfRow.holds Try.pinned (OpenSpec.ofChange reasonOfSpec)

/-- ITS FALSE NEIGHBOUR: 'it returns false'. Refute it at one input. -/
def reasonOfWrong : ChangeSpec := { name := "reasonOf", fn := fun _ => fun
  | [d] => { results := [.lit (.bool false)], args := [d] }
  | _ => none }
def ReasonOfWrongFalsely : Prop := reasonOfRow.holds Try.pinned (OpenSpec.ofChange reasonOfWrong)

/-- 'switchboardlaw04.ReasonApart': WHATEVER THE INPUT: true; the input reads as it did. -/
def reasonApartSpec : ChangeSpec := { name := "reasonApart", fn := fun _ => fun
  | [d1, d2] => { results := [.lit (.bool true)], args := [d1, d2] }
  | _ => none }
def reasonApartRow : OpenClaim := { program := "ytfnleddabfpkgaa", sum := "d9de1ba61f3186564599d90545b3994954ec05fb43b62778deae57d25bc857aa", func := "switchboard/switchboardlaw04.ReasonApart", spec := "reasonApart", inPlace := ["internal/bytealg.IndexByteString"], apart := false }
def ReasonApartSaid : Prop := reasonApartRow.holds Try.pinned (OpenSpec.ofChange reasonApartSpec)

/-- ITS FALSE NEIGHBOUR: 'it returns false'. Refute it at one input. -/
def reasonApartWrong : ChangeSpec := { name := "reasonApart", fn := fun _ => fun
  | [d1, d2] => { results := [.lit (.bool false)], args := [d1, d2] }
  | _ => none }
def ReasonApartWrongFalsely : Prop := reasonApartRow.holds Try.pinned (OpenSpec.ofChange reasonApartWrong)

/-- 'switchboardlaw04.ReasonZero': WHATEVER THE INPUT: true; the input reads as it did. -/
def reasonZeroSpec : ChangeSpec := { name := "reasonZero", fn := fun _ => fun
  | [d] => { results := [.lit (.bool true)], args := [d] }
  | _ => none }
def reasonZeroRow : OpenClaim := { program := "ytfnleddabfpkgaa", sum := "d9de1ba61f3186564599d90545b3994954ec05fb43b62778deae57d25bc857aa", func := "switchboard/switchboardlaw04.ReasonZero", spec := "reasonZero", inPlace := ["internal/bytealg.IndexByteString"], apart := false }
def ReasonZeroSaid : Prop := reasonZeroRow.holds Try.pinned (OpenSpec.ofChange reasonZeroSpec)

/-- ITS FALSE NEIGHBOUR: 'it returns false'. Refute it at one input. -/
def reasonZeroWrong : ChangeSpec := { name := "reasonZero", fn := fun _ => fun
  | [d] => { results := [.lit (.bool false)], args := [d] }
  | _ => none }
def ReasonZeroWrongFalsely : Prop := reasonZeroRow.holds Try.pinned (OpenSpec.ofChange reasonZeroWrong)

/-- 'switchboardlaw14.InboundRelease': WHATEVER THE INPUT: true; the input reads as it did. -/
def inboundReleaseSpec : ChangeSpec := { name := "inboundRelease", fn := fun _ => fun
  | [d] => { results := [.lit (.bool true)], args := [d] }
  | _ => none }
def inboundReleaseRow : OpenClaim := { program := "ytfnleddabfpkgaa", sum := "d9de1ba61f3186564599d90545b3994954ec05fb43b62778deae57d25bc857aa", func := "switchboard/switchboardlaw14.InboundRelease", spec := "inboundRelease", unfollowed := true, recurses := true, apart := false }
def InboundReleaseSaid : Prop := inboundReleaseRow.holds Try.pinned (OpenSpec.ofChange inboundReleaseSpec)

/-- ITS FALSE NEIGHBOUR: 'it returns false'. Refute it at one input. -/
def inboundReleaseWrong : ChangeSpec := { name := "inboundRelease", fn := fun _ => fun
  | [d] => { results := [.lit (.bool false)], args := [d] }
  | _ => none }
def InboundReleaseWrongFalsely : Prop := inboundReleaseRow.holds Try.pinned (OpenSpec.ofChange inboundReleaseWrong)

/-- 'switchboardlaw14.InboundPlays': WHATEVER THE INPUT: true; the input reads as it did. -/
def inboundPlaysSpec : ChangeSpec := { name := "inboundPlays", fn := fun _ => fun
  | [d1, d2] => { results := [.lit (.bool true)], args := [d1, d2] }
  | _ => none }
def inboundPlaysRow : OpenClaim := { program := "ytfnleddabfpkgaa", sum := "d9de1ba61f3186564599d90545b3994954ec05fb43b62778deae57d25bc857aa", func := "switchboard/switchboardlaw14.InboundPlays", spec := "inboundPlays", unfollowed := true, recurses := true, apart := false }
def InboundPlaysSaid : Prop := inboundPlaysRow.holds Try.pinned (OpenSpec.ofChange inboundPlaysSpec)

/-- ITS FALSE NEIGHBOUR: 'it returns false'. Refute it at one input. -/
def inboundPlaysWrong : ChangeSpec := { name := "inboundPlays", fn := fun _ => fun
  | [d1, d2] => { results := [.lit (.bool false)], args := [d1, d2] }
  | _ => none }
def InboundPlaysWrongFalsely : Prop := inboundPlaysRow.holds Try.pinned (OpenSpec.ofChange inboundPlaysWrong)

/-- 'switchboardlaw13.IdsPlays': WHATEVER THE INPUT: true; the input reads as it did. -/
def idsPlaysSpec : ChangeSpec := { name := "idsPlays", fn := fun _ => fun
  | [d1, d2] => { results := [.lit (.bool true)], args := [d1, d2] }
  | _ => none }
def idsPlaysRow : OpenClaim := { program := "ytfnleddabfpkgaa", sum := "d9de1ba61f3186564599d90545b3994954ec05fb43b62778deae57d25bc857aa", func := "switchboard/switchboardlaw13.IdsPlays", spec := "idsPlays", unfollowed := true, recurses := true, apart := false }
def IdsPlaysSaid : Prop := idsPlaysRow.holds Try.pinned (OpenSpec.ofChange idsPlaysSpec)

/-- ITS FALSE NEIGHBOUR: 'it returns false'. Refute it at one input. -/
def idsPlaysWrong : ChangeSpec := { name := "idsPlays", fn := fun _ => fun
  | [d1, d2] => { results := [.lit (.bool false)], args := [d1, d2] }
  | _ => none }
def IdsPlaysWrongFalsely : Prop := idsPlaysRow.holds Try.pinned (OpenSpec.ofChange idsPlaysWrong)

/- THE SECOND FORM. 'bulk': how many values and letters a reading holds, each counted each time it is reached (what is shared counts as often as it is met; a slice's spare places count too). A statement '..UptoSaid' is the law's where the arguments, and the package variables that the reading takes, are together of bulk at most 1048576: NARROWER than '..Said'. Prove '..Said' where nothing that the law and all that it calls make is longer than what came in: it says more and counts as full. Else prove '..UptoSaid'. A law counts once. -/
mutual
def uptoBulk {H : Type} : DataW H → Nat
  | .lit (.string bytes) => bytes.length + 1
  | .lit _ => 1
  | .nil => 1
  | .ptr d => uptoBulk d + 1
  | .slice elems spare => uptoBulkAll elems + uptoBulkAll spare + 1
  | .agg parts => uptoBulkAll parts + 1
  | .iface _ d => uptoBulk d + 1
  | .map entries => uptoBulkEntries entries + 1
  | .held _ => 1
def uptoBulkAll {H : Type} : List (DataW H) → Nat
  | [] => 0
  | d :: r => uptoBulk d + uptoBulkAll r
def uptoBulkEntries {H : Type} : List (Lit × DataW H) → Nat
  | [] => 0
  | x :: r => uptoBulkEntry x + uptoBulkEntries r
def uptoBulkEntry {H : Type} : Lit × DataW H → Nat
  | (.string bytes, d) => bytes.length + uptoBulk d + 1
  | (_, d) => uptoBulk d + 1
 end
def uptoSmall : (H : Type) → List (DataW H) → Bool := fun _ ds => decide (uptoBulkAll ds ≤ 1048576)
def OpenSpec.upto (s : _root_.Go.ChangeSpec) : _root_.Go.OpenSpec := { _root_.Go.OpenSpec.ofChange s with cond := some uptoSmall }

/-- 'switchboardlaw14.InboundOnce', WHERE WHAT IT READS IS OF BULK AT MOST 1048576: true; the input reads as it did. -/
def inboundOnceUptoRow : OpenClaim := { program := "ytfnleddabfpkgaa", sum := "d9de1ba61f3186564599d90545b3994954ec05fb43b62778deae57d25bc857aa", func := "switchboard/switchboardlaw14.InboundOnce", spec := "inboundOnce", apart := false, narrowed := true }
def InboundOnceUptoSaid : Prop := inboundOnceUptoRow.holds Try.pinned (OpenSpec.upto inboundOnceSpec)

/-- 'switchboardlaw14.InboundQuota', WHERE WHAT IT READS IS OF BULK AT MOST 1048576: true; the input reads as it did. -/
def inboundQuotaUptoRow : OpenClaim := { program := "ytfnleddabfpkgaa", sum := "d9de1ba61f3186564599d90545b3994954ec05fb43b62778deae57d25bc857aa", func := "switchboard/switchboardlaw14.InboundQuota", spec := "inboundQuota", apart := false, narrowed := true }
def InboundQuotaUptoSaid : Prop := inboundQuotaUptoRow.holds Try.pinned (OpenSpec.upto inboundQuotaSpec)

/-- 'switchboardlaw13.IdsAll', WHERE WHAT IT READS IS OF BULK AT MOST 1048576: true; the input reads as it did. -/
def idsAllUptoRow : OpenClaim := { program := "ytfnleddabfpkgaa", sum := "d9de1ba61f3186564599d90545b3994954ec05fb43b62778deae57d25bc857aa", func := "switchboard/switchboardlaw13.IdsAll", spec := "idsAll", apart := false, narrowed := true }
def IdsAllUptoSaid : Prop := idsAllUptoRow.holds Try.pinned (OpenSpec.upto idsAllSpec)

/-- 'switchboardlaw13.IdsRound', WHERE WHAT IT READS IS OF BULK AT MOST 1048576: true; the input reads as it did. -/
def idsRoundUptoRow : OpenClaim := { program := "ytfnleddabfpkgaa", sum := "d9de1ba61f3186564599d90545b3994954ec05fb43b62778deae57d25bc857aa", func := "switchboard/switchboardlaw13.IdsRound", spec := "idsRound", apart := false, narrowed := true }
def IdsRoundUptoSaid : Prop := idsRoundUptoRow.holds Try.pinned (OpenSpec.upto idsRoundSpec)

/-- 'switchboardlaw13.IdsGreat', WHERE WHAT IT READS IS OF BULK AT MOST 1048576: true; the input reads as it did. -/
def idsGreatUptoRow : OpenClaim := { program := "ytfnleddabfpkgaa", sum := "d9de1ba61f3186564599d90545b3994954ec05fb43b62778deae57d25bc857aa", func := "switchboard/switchboardlaw13.IdsGreat", spec := "idsGreat", apart := false, narrowed := true }
def IdsGreatUptoSaid : Prop := idsGreatUptoRow.holds Try.pinned (OpenSpec.upto idsGreatSpec)

/-- 'switchboardlaw13.IdsHole', WHERE WHAT IT READS IS OF BULK AT MOST 1048576: true; the input reads as it did. -/
def idsHoleUptoRow : OpenClaim := { program := "ytfnleddabfpkgaa", sum := "d9de1ba61f3186564599d90545b3994954ec05fb43b62778deae57d25bc857aa", func := "switchboard/switchboardlaw13.IdsHole", spec := "idsHole", apart := false, narrowed := true }
def IdsHoleUptoSaid : Prop := idsHoleUptoRow.holds Try.pinned (OpenSpec.upto idsHoleSpec)

/-- 'switchboardlaw04.ReasonMay', WHERE WHAT IT READS IS OF BULK AT MOST 1048576: true; the input reads as it did. -/
def reasonMayUptoRow : OpenClaim := { program := "ytfnleddabfpkgaa", sum := "d9de1ba61f3186564599d90545b3994954ec05fb43b62778deae57d25bc857aa", func := "switchboard/switchboardlaw04.ReasonMay", spec := "reasonMay", inPlace := ["internal/bytealg.IndexByteString"], apart := false, narrowed := true }
def ReasonMayUptoSaid : Prop := reasonMayUptoRow.holds Try.pinned (OpenSpec.upto reasonMaySpec)

/-- 'switchboardlaw04.ReasonOf', WHERE WHAT IT READS IS OF BULK AT MOST 1048576: true; the input reads as it did. -/
def reasonOfUptoRow : OpenClaim := { program := "ytfnleddabfpkgaa", sum := "d9de1ba61f3186564599d90545b3994954ec05fb43b62778deae57d25bc857aa", func := "switchboard/switchboardlaw04.ReasonOf", spec := "reasonOf", inPlace := ["internal/bytealg.IndexByteString"], apart := false, narrowed := true }
def ReasonOfUptoSaid : Prop := reasonOfUptoRow.holds Try.pinned (OpenSpec.upto reasonOfSpec)

/-- 'switchboardlaw04.ReasonApart', WHERE WHAT IT READS IS OF BULK AT MOST 1048576: true; the input reads as it did. -/
def reasonApartUptoRow : OpenClaim := { program := "ytfnleddabfpkgaa", sum := "d9de1ba61f3186564599d90545b3994954ec05fb43b62778deae57d25bc857aa", func := "switchboard/switchboardlaw04.ReasonApart", spec := "reasonApart", inPlace := ["internal/bytealg.IndexByteString"], apart := false, narrowed := true }
def ReasonApartUptoSaid : Prop := reasonApartUptoRow.holds Try.pinned (OpenSpec.upto reasonApartSpec)

/-- 'switchboardlaw04.ReasonZero', WHERE WHAT IT READS IS OF BULK AT MOST 1048576: true; the input reads as it did. -/
def reasonZeroUptoRow : OpenClaim := { program := "ytfnleddabfpkgaa", sum := "d9de1ba61f3186564599d90545b3994954ec05fb43b62778deae57d25bc857aa", func := "switchboard/switchboardlaw04.ReasonZero", spec := "reasonZero", inPlace := ["internal/bytealg.IndexByteString"], apart := false, narrowed := true }
def ReasonZeroUptoSaid : Prop := reasonZeroUptoRow.holds Try.pinned (OpenSpec.upto reasonZeroSpec)

/-- 'switchboardlaw14.InboundRelease', WHERE WHAT IT READS IS OF BULK AT MOST 1048576: true; the input reads as it did. -/
def inboundReleaseUptoRow : OpenClaim := { program := "ytfnleddabfpkgaa", sum := "d9de1ba61f3186564599d90545b3994954ec05fb43b62778deae57d25bc857aa", func := "switchboard/switchboardlaw14.InboundRelease", spec := "inboundRelease", unfollowed := true, recurses := true, apart := false, narrowed := true }
def InboundReleaseUptoSaid : Prop := inboundReleaseUptoRow.holds Try.pinned (OpenSpec.upto inboundReleaseSpec)

/-- 'switchboardlaw14.InboundPlays', WHERE WHAT IT READS IS OF BULK AT MOST 1048576: true; the input reads as it did. -/
def inboundPlaysUptoRow : OpenClaim := { program := "ytfnleddabfpkgaa", sum := "d9de1ba61f3186564599d90545b3994954ec05fb43b62778deae57d25bc857aa", func := "switchboard/switchboardlaw14.InboundPlays", spec := "inboundPlays", unfollowed := true, recurses := true, apart := false, narrowed := true }
def InboundPlaysUptoSaid : Prop := inboundPlaysUptoRow.holds Try.pinned (OpenSpec.upto inboundPlaysSpec)

/-- 'switchboardlaw13.IdsPlays', WHERE WHAT IT READS IS OF BULK AT MOST 1048576: true; the input reads as it did. -/
def idsPlaysUptoRow : OpenClaim := { program := "ytfnleddabfpkgaa", sum := "d9de1ba61f3186564599d90545b3994954ec05fb43b62778deae57d25bc857aa", func := "switchboard/switchboardlaw13.IdsPlays", spec := "idsPlays", unfollowed := true, recurses := true, apart := false, narrowed := true }
def IdsPlaysUptoSaid : Prop := idsPlaysUptoRow.holds Try.pinned (OpenSpec.upto idsPlaysSpec)

end Rows
end Go.Proofs.Ytfnleddabfpkgaa
