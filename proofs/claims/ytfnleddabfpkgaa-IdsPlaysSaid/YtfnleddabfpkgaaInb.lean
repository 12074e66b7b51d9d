/- Package inbound: what each function does to the memory, its state read as a list of pairs. -/
import Derived.Test.YtfnleddabfpkgaaRows
import Derived.Test.YtfnleddabfpkgaaMem
import Derived.Deep.QuietTactic
import Derived.BigQuiet
namespace Go.Proofs.Ytfnleddabfpkgaa
open Go.RowKit
set_option maxRecDepth 10000
set_option linter.unusedVariables false

theorem lawU32 : KeyLaw Try.prog 22 (Value.int .u32) := KeyLaw.int Try.underlying22
theorem zeroInt (w : World) : (zeroValue 3).run Try.prog w = .ok (.int .i64 0) w := by kernel_rfl

def SetAt (w : World) (p mb : Nat) (has : List (Int × Int)) (most : Int) : Prop :=
  Blk w p #[.map (some mb), .int .i64 most] 77 ∧ MapAt w mb (Value.int .u32) (Value.int .i64) has

def Inb.begin (has : List (Int × Int)) (most id : Int) : Bool × Int × List (Int × Int) :=
  if id < 1 ∨ 65535 < id then (false, 3, has)
  else if 0 < (AL.get has id).getD 0 then (false, 0, AL.set has id ((AL.get has id).getD 0 + 1))
  else if most ≤ has.length then (false, 12, has)
  else (true, 0, AL.set has id 1)

namespace Inb
def Good (has : List (Int × Int)) (n : Int) : Prop := ∀ x v, AL.get has x = some v → 0 < v ∧ v ≤ n

theorem begin_was {has : List (Int × Int)} {most id : Int} (h1 : 1 ≤ id) (h2 : id ≤ 65535) (hp : 0 < (AL.get has id).getD 0) : begin has most id = (false, 0, AL.set has id ((AL.get has id).getD 0 + 1)) := by
  unfold begin; rw [if_neg (by omega), if_pos hp]
theorem begin_full {has : List (Int × Int)} {most id : Int} (h1 : 1 ≤ id) (h2 : id ≤ 65535) (hp : ¬ 0 < (AL.get has id).getD 0) (hf : most ≤ has.length) : begin has most id = (false, 12, has) := by
  unfold begin; rw [if_neg (by omega), if_neg hp, if_pos hf]
theorem begin_new {has : List (Int × Int)} {most id : Int} (h1 : 1 ≤ id) (h2 : id ≤ 65535) (hp : ¬ 0 < (AL.get has id).getD 0) (hf : ¬ most ≤ has.length) : begin has most id = (true, 0, AL.set has id 1) := by
  unfold begin; rw [if_neg (by omega), if_neg hp, if_neg hf]

theorem Good.mono {has : List (Int × Int)} {n m : Int} (h : Good has n) (hm : n ≤ m) : Good has m := fun x v e => by have := h x v e; omega
theorem Good.set {has : List (Int × Int)} {n v id : Int} (h : Good has n) (h1 : 0 < v) (h2 : v ≤ n + 1) : Good (AL.set has id v) (n + 1) := by
  intro x y e
  rw [AL.get_set] at e
  split at e
  · simp at e; omega
  · have := h x y e; omega
theorem Good.le {has : List (Int × Int)} {n : Int} (h : Good has n) (hn : 0 ≤ n) (id : Int) : (AL.get has id).getD 0 ≤ n := by
  cases e : AL.get has id with
  | none => simpa using hn
  | some v => simpa using (h id v e).2
theorem Good.some {has : List (Int × Int)} {n : Int} (h : Good has n) (id : Int) : 0 < (AL.get has id).getD 0 ↔ (AL.get has id).isSome = true := by
  cases e : AL.get has id with
  | none => simp
  | some v => simpa using (h id v e).1

theorem begin_other {has : List (Int × Int)} {most o id n : Int} (hG : Good has n) (hn : 0 ≤ n) (h : o ≠ id) : Good (begin has most o).2.2 (n + 1) ∧ AL.get (begin has most o).2.2 id = AL.get has id ∧ (begin has most o).2.2.length ≤ has.length + 1 := by
  have hne : ¬ id = o := fun e => h e.symm
  unfold begin
  split
  · exact ⟨hG.mono (by omega), rfl, by simp⟩
  · split
    · refine ⟨hG.set (by omega) (by have := hG.le hn o; omega), by simp only [AL.get_set, if_neg hne], ?_⟩
      simp only [AL.length_set]; split <;> omega
    · split
      · exact ⟨hG.mono (by omega), rfl, by simp⟩
      · refine ⟨hG.set (by omega) (by omega), by simp only [AL.get_set, if_neg hne], ?_⟩
        simp only [AL.length_set]; split <;> omega

theorem Good.del {has : List (Int × Int)} {n : Int} (h : Good has n) (hn : (AL.keys has).Nodup) (id : Int) : Good (AL.del has id) n := by
  intro x v e
  rw [AL.get_del hn] at e
  split at e
  · simp at e
  · exact h x v e
end Inb

theorem lookInt {P : Program} {w : World} {b : Nat} {l : List (Int × Int)} {T K E : TypeId} {k : IntKind} (KL : KeyLaw P K (Value.int k)) (ht : P.underlying T = some (.map K E)) (hM : MapAt w b (Value.int k) (Value.int .i64) l)
    (hz : ∀ w, (zeroValue E).run P w = .ok (.int .i64 0) w) (x : Int) : (Instr.lookup T (.map (some b)) (.int k x) false).run P w = .ok (.int .i64 ((AL.get l x).getD 0)) w := by
  have := run_lookup_map KL ht hM (hz _) x false
  simpa [optV_int] using this

theorem inbBegin_any (p mb : Nat) (has : List (Int × Int)) (most id : Int) (r : Bool × Int × List (Int × Int)) (w : World) (hS : SetAt w p mb has most) (hr : Inb.begin has most id = r) (h0 : 0 ≤ id) (h1 : id < 4294967296) (hv : (AL.get has id).getD 0 < 1000000000) :
    Calls Try.prog 18 #[.pointer (some ⟨p, 0, none⟩), .int .u32 id] w fun e w' => e = .returned (.tuple #[.bool r.1, .int .i64 r.2.1]) ∧ SetAt w' p mb r.2.2 most ∧ Keep [mb] w w' := by
  obtain ⟨hB, hM⟩ := hS
  have c0 : w.cell? ⟨p, 0, none⟩ = some (.map (some mb)) := hB.cell 0
  have c1 : w.cell? ⟨p, 1, none⟩ = some (.int .i64 most) := hB.cell 1
  have hne := hM.ne_blk hB
  have look := lookInt lawU32 Try.underlying38 hM zeroInt id
  unfold Inb.begin at hr
  by_cases hid : id < 1 ∨ 65535 < id
  · rw [if_pos hid] at hr
    subst hr
    rcases hid with h | h
    · go_enter Try.func18, Try.ntmps18
      go_wp2
      go_ret2
      exact ⟨rfl, ⟨hB, hM⟩, Keep.refl _ _⟩
    · have h' : ¬ id < 1 := by omega
      go_enter Try.func18, Try.ntmps18
      go_wp2
      go_ret2
      exact ⟨rfl, ⟨hB, hM⟩, Keep.refl _ _⟩
  · rw [if_neg hid] at hr
    have h1' : ¬ id < 1 := by omega
    have h2' : ¬ 65535 < id := by omega
    clear hid
    by_cases hp : 0 < (AL.get has id).getD 0
    · rw [if_pos hp] at hr
      subst hr
      go_enter Try.func18, Try.ntmps18
      go_wp2_with (at_mapUpdate; refine wpList_mapUpdate_map rfl _ _ _ 38 rfl 22 3 lawU32 Try.underlying38 mb has rfl hM id ((AL.get has id).getD 0 + 1) rfl rfl ?_; intro w1 hM1 hK1 hz1)
      go_ret2
      exact ⟨rfl, ⟨hB.keep hK1 (by simpa using hne), hM1⟩, hK1⟩
    · rw [if_neg hp] at hr
      have hlen := fun n => run_len_map (w := w.drewN n) Try.underlying38 (show MapAt (w.drewN n) mb (Value.int .u32) (Value.int .i64) has from hM)
      by_cases hm : most ≤ has.length
      · rw [if_pos hm] at hr
        subst hr
        go_enter Try.func18, Try.ntmps18
        go_wp2
        go_quiet (fail)
        go_wp2
        go_ret2
        exact ⟨rfl, ⟨hB, hM⟩, (Keep.refl _ _).drewN _⟩
      · rw [if_neg hm] at hr
        subst hr
        go_enter Try.func18, Try.ntmps18
        go_wp2
        go_quiet (fail)
        have hM0 : MapAt (w.drewN nq) mb (Value.int .u32) (Value.int .i64) has := hM
        have hK0 := (Keep.refl [mb] w).drewN nq
        go_wp2_with (at_mapUpdate; refine wpList_mapUpdate_map rfl _ _ _ 38 rfl 22 3 lawU32 Try.underlying38 mb has rfl hM0 id 1 rfl rfl ?_; intro w1 hM1 hK1 hz1)
        go_ret2
        exact ⟨rfl, ⟨hB.keep (hK0.then hK1) (by simpa using hne), hM1⟩, hK0.then hK1⟩

theorem lookIntOk {P : Program} {w : World} {b : Nat} {l : List (Int × Int)} {T K E : TypeId} {k : IntKind} (KL : KeyLaw P K (Value.int k)) (ht : P.underlying T = some (.map K E)) (hM : MapAt w b (Value.int k) (Value.int .i64) l)
    (hz : ∀ w, (zeroValue E).run P w = .ok (.int .i64 0) w) (x : Int) : (Instr.lookup T (.map (some b)) (.int k x) true).run P w = .ok (.tuple #[.int .i64 ((AL.get l x).getD 0), .bool (AL.get l x).isSome]) w := by
  have := run_lookup_map KL ht hM (hz _) x true
  simpa [optV_int] using this

theorem inbNew_any (m : Int) (w : World) :
    Calls Try.prog 17 #[.int .i64 m] w (Px fun (x : Nat × Nat) e w' => e = .returned (.pointer (some ⟨x.1, 0, none⟩)) ∧ SetAt w' x.1 x.2 [] (max m 0) ∧ w.heap.size ≤ x.1 ∧ w.heap.size ≤ x.2 ∧ Keep [] w w') := by
  have hmm := @run_makeMap Try.prog
  by_cases h : 0 ≤ m
  · rw [Int.max_eq_left h]
    go_enter Try.func17, Try.ntmps17
    go_wp2
    go_ret
    exact ⟨(w.heap.size + 1, w.heap.size), rfl, ⟨Blk.new' _ _ (by simp), (MapAt.new w _ _).alloc _⟩, by simp, by simp, ((Keep.refl _ _).alloc _).alloc _⟩
  · have h' : m < 0 := by omega
    rw [Int.max_eq_right (by omega)]
    go_enter Try.func17, Try.ntmps17
    go_wp2
    go_ret
    exact ⟨(w.heap.size + 1, w.heap.size), rfl, ⟨Blk.new' _ _ (by simp), (MapAt.new w _ _).alloc _⟩, by simp, by simp, ((Keep.refl _ _).alloc _).alloc _⟩

theorem inbEnd_any (p mb : Nat) (has : List (Int × Int)) (most : Int) (id : Int) (w : World) (hS : SetAt w p mb has most) :
    Calls Try.prog 19 #[.pointer (some ⟨p, 0, none⟩), .int .u32 id] w fun e w' => e = .returned (.bool (AL.get has id).isSome) ∧ SetAt w' p mb (AL.del has id) most ∧ Keep [mb] w w' := by
  obtain ⟨hB, hM⟩ := hS
  have c0 : w.cell? ⟨p, 0, none⟩ = some (.map (some mb)) := hB.cell 0
  have hne := hM.ne_blk hB
  have look := lookIntOk lawU32 Try.underlying38 hM zeroInt id
  go_enter Try.func19, Try.ntmps19
  go_wp2_with (at_delete; refine wpList_delete_map rfl _ _ 38 22 rfl 3 lawU32 Try.underlying38 mb has rfl hM id rfl ?_; intro w1 hM1 hK1 hz1)
  go_ret
  exact ⟨rfl, ⟨hB.keep hK1 (by simpa using hne), hM1⟩, hK1⟩

theorem inbTimes_any (p mb : Nat) (has : List (Int × Int)) (most : Int) (id : Int) (w : World) (hS : SetAt w p mb has most) :
    Calls Try.prog 20 #[.pointer (some ⟨p, 0, none⟩), .int .u32 id] w fun e w' => e = .returned (.int .i64 ((AL.get has id).getD 0)) ∧ w = w' := by
  obtain ⟨hB, hM⟩ := hS
  have c0 : w.cell? ⟨p, 0, none⟩ = some (.map (some mb)) := hB.cell 0
  have look := lookInt lawU32 Try.underlying38 hM zeroInt id
  go_enter Try.func20, Try.ntmps20
  go_wp2
  go_ret
  exact ⟨rfl, rfl⟩

theorem inbLen_any (p mb : Nat) (has : List (Int × Int)) (most : Int) (w : World) (hS : SetAt w p mb has most) :
    Calls Try.prog 21 #[.pointer (some ⟨p, 0, none⟩)] w fun e w' => e = .returned (.int .i64 has.length) ∧ w = w' := by
  obtain ⟨hB, hM⟩ := hS
  have c0 : w.cell? ⟨p, 0, none⟩ = some (.map (some mb)) := hB.cell 0
  have hlen := run_len_map Try.underlying38 hM
  go_enter Try.func21, Try.ntmps21
  go_wp2
  go_ret
  exact ⟨rfl, rfl⟩

theorem inbClear_any (p mb : Nat) (has : List (Int × Int)) (most : Int) (w : World) (hS : SetAt w p mb has most) :
    Calls Try.prog 37 #[.pointer (some ⟨p, 0, none⟩)] w fun e w' => e = .returned (.tuple #[]) ∧ SetAt w' p mb [] most ∧ Keep [mb] w w' := by
  obtain ⟨hB, hM⟩ := hS
  have c0 : w.cell? ⟨p, 0, none⟩ = some (.map (some mb)) := hB.cell 0
  have hne := hM.ne_blk hB
  go_enter Try.func37, Try.ntmps37
  go_wp2_with (with_reducible refine wpList_clear_map rfl _ 38 rfl 22 3 Try.underlying38 mb has rfl hM ?_; intro w1 hM1 hK1 hz1)
  go_end0
  exact ⟨rfl, ⟨hB.keep hK1 (by simpa using hne), hM1⟩, hK1⟩
end Go.Proofs.Ytfnleddabfpkgaa
