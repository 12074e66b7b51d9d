import Derived.Test.YtegnmdnflmlioaaSE
import Derived.Test.YtegnmdnflmlioaaRng
import Derived.RangeFuncWrites
namespace Go.Proofs.Ytegnmdnflmlioaa
open Go.RowKit Go.Shelf Go.Proofs.YtegnmdnflmlioaaW.PrintWords Go.Proofs.YtegnmdnflmlioaaW.PrintLast
set_option maxRecDepth 100000
set_option linter.unusedVariables false
set_option maxHeartbeats 1000000
attribute [local go_sem] Oper.semAt_some
abbrev TimT : Nat := 94
abbrev MapT : Nat := 92
abbrev EntsT : Nat := 76
abbrev ptrTo (n : Nat) : Value := .pointer (some ⟨n, 0, none⟩)
theorem lawStr : KeyLaw Try.prog 9 Value.string := KeyLaw.str Try.underlying9
theorem zeroInt (w : World) : (zeroValue 3).run Try.prog w = .ok (.int .i64 0) w := by kernel_rfl
def TimAt (w : World) (n b : Nat) (l : List En) : Prop := Blk w n #[.map (some b)] TimT ∧ MapAt w b Value.string (Value.int .i64) l
theorem TimAt.keep {S : List Nat} {w w' : World} {n b : Nat} {l : List En} (h : TimAt w n b l) (hk : Keep S w w') (h1 : n ∉ S) (h2 : b ∉ S) : TimAt w' n b l := ⟨h.1.keep hk h1, h.2.keep hk h2⟩
theorem timNew_any (w : World) : Calls Try.prog 23 #[] w fun e w' => e = .returned (ptrTo (w.heap.size + 1)) ∧ TimAt w' (w.heap.size + 1) w.heap.size [] ∧ Keep [] w w' := by
  have hmm := @run_makeMap Try.prog
  go_enter Try.func23, Try.ntmps23
  go_wp2
  go_ret
  exact ⟨rfl, ⟨Blk.new' _ _ (by simp), (MapAt.new w _ _).alloc _⟩, ((Keep.refl [] w).alloc _).alloc _⟩
theorem timSet_any (n b : Nat) (l : List En) (k : BA) (a : Int) (w : World) (h : TimAt w n b l) :
    Calls Try.prog 27 #[ptrTo n, .string k, .int .i64 a] w fun e w' => e = .returned (.tuple #[]) ∧ TimAt w' n b (AL.set l k a) ∧ Keep [b] w w' := by
  obtain ⟨hB, hM⟩ := h
  have c0 : w.cell? ⟨n, 0, none⟩ = some (.map (some b)) := hB.cell 0
  have hne := hM.ne_blk hB
  go_enter Try.func27, Try.ntmps27
  go_wp2_with (at_mapUpdate; refine wpList_mapUpdate_map rfl _ _ _ MapT rfl 9 3 lawStr Try.underlying92 b l rfl hM k a rfl rfl ?_; intro w1 hM1 hK1 hz1)
  go_end0
  exact ⟨rfl, ⟨hB.keep hK1 (by simpa using hne), hM1⟩, hK1⟩
theorem lookS (w : World) (b : Nat) (l : List En) (hM : MapAt w b Value.string (Value.int .i64) l) (k : BA) :
    (Instr.lookup MapT (.map (some b)) (.string k) true).run Try.prog w = .ok (.tuple #[.int .i64 ((AL.get l k).getD 0), .bool (AL.get l k).isSome]) w := by
  have := run_lookup_map lawStr Try.underlying92 hM (zeroInt _) k true
  simpa [optV_int] using this
theorem lookS1 (w : World) (b : Nat) (l : List En) (hM : MapAt w b Value.string (Value.int .i64) l) (k : BA) :
    (Instr.lookup MapT (.map (some b)) (.string k) false).run Try.prog w = .ok (.int .i64 ((AL.get l k).getD 0)) w := by
  have := run_lookup_map lawStr Try.underlying92 hM (zeroInt _) k false
  simpa [optV_int] using this
theorem timStop_any (n b : Nat) (l : List En) (k : BA) (w : World) (h : TimAt w n b l) :
    Calls Try.prog 26 #[ptrTo n, .string k] w fun e w' => e = .returned (.bool (AL.get l k).isSome) ∧ TimAt w' n b (AL.del l k) ∧ Keep [b] w w' := by
  obtain ⟨hB, hM⟩ := h
  have c0 : w.cell? ⟨n, 0, none⟩ = some (.map (some b)) := hB.cell 0
  have hne := hM.ne_blk hB
  have look := lookS w b l hM k
  generalize (AL.get l k).isSome = r at look ⊢
  generalize (AL.get l k).getD 0 = q at look
  go_enter Try.func26, Try.ntmps26
  go_wp2_with (refine wpList_delete_map rfl _ _ MapT 9 rfl 3 lawStr Try.underlying92 b l rfl hM k rfl ?_; intro w1 hM1 hK1 hz1)
  go_ret
  exact ⟨rfl, ⟨hB.keep hK1 (by simpa using hne), hM1⟩, hK1⟩
theorem timGet_any (n b : Nat) (l : List En) (k : BA) (w : World) (h : TimAt w n b l) :
    Calls Try.prog 37 #[ptrTo n, .string k] w fun e w' => e = .returned (.tuple #[.int .i64 ((AL.get l k).getD 0), .bool (AL.get l k).isSome]) ∧ w = w' := by
  obtain ⟨hB, hM⟩ := h
  have c0 : w.cell? ⟨n, 0, none⟩ = some (.map (some b)) := hB.cell 0
  have look := lookS w b l hM k
  generalize (AL.get l k).isSome = r at look ⊢
  generalize (AL.get l k).getD 0 = q at look ⊢
  go_enter Try.func37, Try.ntmps37
  go_wp2
  go_ret2
  exact ⟨rfl, rfl⟩
end Go.Proofs.Ytegnmdnflmlioaa
