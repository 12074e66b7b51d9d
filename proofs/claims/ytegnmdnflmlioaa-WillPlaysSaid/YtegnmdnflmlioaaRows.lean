/-
  No cell of these rows narrows 'for every input' (looked for: loops, veiled, ifaces, maps, wideKeys, modest, calm, conditions, laid).
  DERIVED. THE GIVEN ROWS OF THIS SEAT. 3 by the template 'for every input the law returns true; each argument reads behind the call as it read before'; 0 by the template 'total and deterministic' (their statements: YtegnmdnflmlioaaTotals.lean).
  GIVEN WITH THE SEED: the statements are not yours to turn. If you find one false, say at which input.
  Laid BY PROGRAM, IN A SANDBOX (cutbox-rows.mjs): the forced cells as the released guide's own fill.sh prints them over the translation e2535c8dbd6cf222… (all of the seat's roots in one cut). By AI agents, Wed Nov 11 2026. No macro, syntax, notation, axiom, sorry.
-/
import Derived.Test.YtegnmdnflmlioaaChecked
import GoSem.Claim
import GoSem.ClaimJoined
import GoSem.ClaimMapViews
import Derived.JoinedTies
import Derived.KernelRfl
namespace Go.Proofs.Ytegnmdnflmlioaa
/- THE CELL 'sum', in the pinned program and in every row, IS THE sha256 OF THE DUMP (.gsa) THAT YtegnmdnflmlioaaProg.lean LOADS. Nothing in Lean hashes anything: it is a label: what it is worth is what the hold of that sum in a sandbox is worth. -/
noncomputable def Try.pinned : Pinned := { name := "ytegnmdnflmlioaa", sum := "e2535c8dbd6cf222e45017ba028deccfdd10d8437dd8ad5244dd617e215ca2c4", checked := Try.checked }
namespace Rows
def none {H : Type} : Left H := { results := [], args := [] }

/-- 'switchboardlaw22.WillOrder': WHATEVER THE INPUT: true; the input reads as it did. -/
def willOrderSpec : ChangeSpec := { name := "willOrder", fn := fun _ => fun
  | [d] => { results := [.lit (.bool true)], args := [d] }
  | _ => none }
def willOrderRow : OpenClaim := { program := "ytegnmdnflmlioaa", sum := "e2535c8dbd6cf222e45017ba028deccfdd10d8437dd8ad5244dd617e215ca2c4", func := "switchboard/switchboardlaw22.WillOrder", spec := "willOrder", inPlace := ["internal/bytealg.abigen_runtime_cmpstring"], unfollowed := true, recurses := true, apart := false }
def WillOrderSaid : Prop := willOrderRow.holds Try.pinned (OpenSpec.ofChange willOrderSpec)

/-- ITS FALSE NEIGHBOUR: 'it returns false'. Refute it at one input. -/
def willOrderWrong : ChangeSpec := { name := "willOrder", fn := fun _ => fun
  | [d] => { results := [.lit (.bool false)], args := [d] }
  | _ => none }
def WillOrderWrongFalsely : Prop := willOrderRow.holds Try.pinned (OpenSpec.ofChange willOrderWrong)

/-- 'switchboardlaw22.WillPlays': WHATEVER THE INPUT: true; the input reads as it did. -/
def willPlaysSpec : ChangeSpec := { name := "willPlays", fn := fun _ => fun
  | [d] => { results := [.lit (.bool true)], args := [d] }
  | _ => none }
def willPlaysRow : OpenClaim := { program := "ytegnmdnflmlioaa", sum := "e2535c8dbd6cf222e45017ba028deccfdd10d8437dd8ad5244dd617e215ca2c4", func := "switchboard/switchboardlaw22.WillPlays", spec := "willPlays", inPlace := ["internal/bytealg.abigen_runtime_cmpstring"], unfollowed := true, recurses := true, apart := false }
def WillPlaysSaid : Prop := willPlaysRow.holds Try.pinned (OpenSpec.ofChange willPlaysSpec)

/-- ITS FALSE NEIGHBOUR: 'it returns false'. Refute it at one input. -/
def willPlaysWrong : ChangeSpec := { name := "willPlays", fn := fun _ => fun
  | [d] => { results := [.lit (.bool false)], args := [d] }
  | _ => none }
def WillPlaysWrongFalsely : Prop := willPlaysRow.holds Try.pinned (OpenSpec.ofChange willPlaysWrong)

/-- 'switchboardlaw22.WillBack': WHATEVER THE INPUT: true; the input reads as it did. -/
def willBackSpec : ChangeSpec := { name := "willBack", fn := fun _ => fun
  | [d1, d2, d3] => { results := [.lit (.bool true)], args := [d1, d2, d3] }
  | _ => none }
def willBackRow : OpenClaim := { program := "ytegnmdnflmlioaa", sum := "e2535c8dbd6cf222e45017ba028deccfdd10d8437dd8ad5244dd617e215ca2c4", func := "switchboard/switchboardlaw22.WillBack", spec := "willBack", inPlace := ["internal/bytealg.abigen_runtime_cmpstring"], unfollowed := true, recurses := true, apart := false }
def WillBackSaid : Prop := willBackRow.holds Try.pinned (OpenSpec.ofChange willBackSpec)

/-- ITS FALSE NEIGHBOUR: 'it returns false'. Refute it at one input. -/
def willBackWrong : ChangeSpec := { name := "willBack", fn := fun _ => fun
  | [d1, d2, d3] => { results := [.lit (.bool false)], args := [d1, d2, d3] }
  | _ => none }
def WillBackWrongFalsely : Prop := willBackRow.holds Try.pinned (OpenSpec.ofChange willBackWrong)

/- THE SECOND FORM. 'bulk': how many values and letters a reading holds, each counted each time it is reached (what is shared counts as often as it is met; a slice's spare places count too). A statement '..UptoSaid' is the law's where the arguments, and the package variables that the reading takes, are together of bulk at most 1048576: NARROWER than '..Said'. Prove '..Said' where nothing that the law and all that it calls make is longer than what came in: it says more and counts as full. Else prove '..UptoSaid'. A law counts once. -/
mutual
def uptoBulk {H : Type} : DataW H → Nat
  | .lit (.string bytes) => bytes.length + 1
  | .lit _ => 1
  | .nil => 1
  | .ptr d => uptoBulk d + 1
  | .slice elems spare => uptoBulkAll elems + uptoBulkAll spare + 1
  | .agg parts => uptoBulkAll parts + 1
  | .iface _ d => uptoBulk d + 1
  | .map entries => uptoBulkEntries entries + 1
  | .held _ => 1
def uptoBulkAll {H : Type} : List (DataW H) → Nat
  | [] => 0
  | d :: r => uptoBulk d + uptoBulkAll r
def uptoBulkEntries {H : Type} : List (Lit × DataW H) → Nat
  | [] => 0
  | x :: r => uptoBulkEntry x + uptoBulkEntries r
def uptoBulkEntry {H : Type} : Lit × DataW H → Nat
  | (.string bytes, d) => bytes.length + uptoBulk d + 1
  | (_, d) => uptoBulk d + 1
 end
def uptoSmall : (H : Type) → List (DataW H) → Bool := fun _ ds => decide (uptoBulkAll ds ≤ 1048576)
def OpenSpec.upto (s : _root_.Go.ChangeSpec) : _root_.Go.OpenSpec := { _root_.Go.OpenSpec.ofChange s with cond := some uptoSmall }

/-- 'switchboardlaw22.WillOrder', WHERE WHAT IT READS IS OF BULK AT MOST 1048576: true; the input reads as it did. -/
def willOrderUptoRow : OpenClaim := { program := "ytegnmdnflmlioaa", sum := "e2535c8dbd6cf222e45017ba028deccfdd10d8437dd8ad5244dd617e215ca2c4", func := "switchboard/switchboardlaw22.WillOrder", spec := "willOrder", inPlace := ["internal/bytealg.abigen_runtime_cmpstring"], unfollowed := true, recurses := true, apart := false, narrowed := true }
def WillOrderUptoSaid : Prop := willOrderUptoRow.holds Try.pinned (OpenSpec.upto willOrderSpec)

/-- 'switchboardlaw22.WillPlays', WHERE WHAT IT READS IS OF BULK AT MOST 1048576: true; the input reads as it did. -/
def willPlaysUptoRow : OpenClaim := { program := "ytegnmdnflmlioaa", sum := "e2535c8dbd6cf222e45017ba028deccfdd10d8437dd8ad5244dd617e215ca2c4", func := "switchboard/switchboardlaw22.WillPlays", spec := "willPlays", inPlace := ["internal/bytealg.abigen_runtime_cmpstring"], unfollowed := true, recurses := true, apart := false, narrowed := true }
def WillPlaysUptoSaid : Prop := willPlaysUptoRow.holds Try.pinned (OpenSpec.upto willPlaysSpec)

/-- 'switchboardlaw22.WillBack', WHERE WHAT IT READS IS OF BULK AT MOST 1048576: true; the input reads as it did. -/
def willBackUptoRow : OpenClaim := { program := "ytegnmdnflmlioaa", sum := "e2535c8dbd6cf222e45017ba028deccfdd10d8437dd8ad5244dd617e215ca2c4", func := "switchboard/switchboardlaw22.WillBack", spec := "willBack", inPlace := ["internal/bytealg.abigen_runtime_cmpstring"], unfollowed := true, recurses := true, apart := false, narrowed := true }
def WillBackUptoSaid : Prop := willBackUptoRow.holds Try.pinned (OpenSpec.upto willBackSpec)

end Rows
end Go.Proofs.Ytegnmdnflmlioaa
