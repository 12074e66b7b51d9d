/- Package pipe: a pipe of bytes. -/
import Derived.Test.YtaahmjamkllphaaRows
import Derived.Test.YtaahmjamkllphaaMem
import Derived.Test.YtaahmjamkllphaaFlt
import Derived.RegionTactic
namespace Go.Proofs.Ytaahmjamkllphaa
open Go.RowKit
set_option maxRecDepth 10000
set_option linter.unusedVariables false
set_option maxHeartbeats 1000000

structure Pp where
  wait : ByteArray
  came : Int
  closed : Bool

def PAt (w : World) (c : Nat) (x : Pp) (rest : List Value) (T : TypeId) : Prop := Blk w c (([.string x.wait, .int .i64 x.came, .bool x.closed] : List Value) ++ rest).toArray T

/-- How many bytes may come. -/
def Pp.k (x : Pp) (n : Int) : Nat := (max 0 (min n x.wait.size)).toNat
def Pp.chunk (x : Pp) (n : Int) : Pp := { x with wait := x.wait.extract (x.k n) x.wait.size, came := x.came + x.k n }
def Pp.cut (x : Pp) (n : Int) : Pp := { x with wait := x.wait.extract 0 (x.k n), closed := true }
def Pp.send (x : Pp) (s : ByteArray) : Pp := if x.closed then x else { x with wait := x.wait ++ s }
def Pp.err (x : Pp) : Int := if x.closed then 13 else 0
def Pp.ended (x : Pp) : Bool := x.closed && decide (x.wait.size = 0)

theorem toListE (s : ByteArray) : s.toList.isEmpty = decide (s.size = 0) := by
  rw [ByteArray.toList_eq s]
  cases s with | mk d => cases d with | mk l => cases l <;> simp [ByteArray.size]

section
variable {w : World} {c : Nat} {x : Pp} {rest : List Value} {T : TypeId}
theorem PAt.c0 (h : PAt w c x rest T) : w.cell? ⟨c, 0, none⟩ = some (.string x.wait) := by rw [Blk.cell h 0]; simp
theorem PAt.c1 (h : PAt w c x rest T) : w.cell? ⟨c, 1, none⟩ = some (.int .i64 x.came) := by rw [Blk.cell h 1]; simp
theorem PAt.c2 (h : PAt w c x rest T) : w.cell? ⟨c, 2, none⟩ = some (.bool x.closed) := by rw [Blk.cell h 2]; simp
theorem PAt.f0 (h : PAt w c x rest T) : w.frozen? ⟨c, 0, none⟩ = false := Blk.frozen h 0 (by simp)
theorem PAt.f1 (h : PAt w c x rest T) : w.frozen? ⟨c, 1, none⟩ = false := Blk.frozen h 1 (by simp)
theorem PAt.f2 (h : PAt w c x rest T) : w.frozen? ⟨c, 2, none⟩ = false := Blk.frozen h 2 (by simp)
theorem PAt.drew (h : PAt w c x rest T) : PAt w.drew c x rest T := h
theorem PAt.keep {S : List Nat} {w' : World} (h : PAt w c x rest T) (hk : Keep S w w') (hS : c ∉ S) : PAt w' c x rest T := Blk.keep h hk hS
theorem PAt.set0 (h : PAt w c x rest T) (v : ByteArray) : PAt (w.setCell ⟨c, 0, none⟩ (.string v)) c { x with wait := v } rest T := by
  have := Blk.set h 0 (.string v); unfold PAt; simpa using this
theorem PAt.set1 (h : PAt w c x rest T) (v : Int) : PAt (w.setCell ⟨c, 1, none⟩ (.int .i64 v)) c { x with came := v } rest T := by
  have := Blk.set h 1 (.int .i64 v); unfold PAt; simpa using this
theorem PAt.set2 (h : PAt w c x rest T) (v : Bool) : PAt (w.setCell ⟨c, 2, none⟩ (.bool v)) c { x with closed := v } rest T := by
  have := Blk.set h 2 (.bool v); unfold PAt; simpa using this
end

theorem send_any (w : World) (c : Nat) (x : Pp) (rest : List Value) (T : TypeId) (h : PAt w c x rest T) (s : ByteArray) (hs : x.wait.size + s.size < 1000000000) :
    Calls Try.prog 11 #[.pointer (some ⟨c, 0, none⟩), .string s] w fun e w' => e = .returned (.int .i64 x.err) ∧ PAt w' c (x.send s) rest T ∧ Keep [c] w w' := by
  have c0 := h.c0
  have c2 := h.c2
  have f0 := h.f0
  obtain ⟨wait, came, closed⟩ := x
  simp only at c0 c2 hs
  have hl : ¬ 9223372036854775807 < wait.size + s.size := by omega
  cases closed
  · go_enter Try.func11, Try.ntmps11
    go_wp2
    go_ret
    exact ⟨rfl, h.set0 _, (Keep.refl _ _).setCell (by simp) _⟩
  · go_enter Try.func11, Try.ntmps11
    go_wp2
    go_ret
    exact ⟨rfl, h, Keep.refl _ _⟩

theorem ended_any (w : World) (c : Nat) (x : Pp) (rest : List Value) (T : TypeId) (h : PAt w c x rest T) :
    Calls Try.prog 13 #[.pointer (some ⟨c, 0, none⟩)] w fun e w' => e = .returned (.bool x.ended) ∧ w' = w := by
  have c0 := h.c0
  have c2 := h.c2
  obtain ⟨wait, came, closed⟩ := x
  simp only at c0 c2
  unfold Pp.ended
  cases closed
  · go_enter Try.func13, Try.ntmps13
    go_wp2
    go_ret
    exact ⟨rfl, rfl⟩
  · go_enter Try.func13, Try.ntmps13
    go_wp2
    go_ret
    refine ⟨?_, rfl⟩
    show Ending.returned (.bool wait.toList.isEmpty) = _
    rw [toListE]; rfl

theorem pstat_any (w : World) (c : Nat) (x : Pp) (rest : List Value) (T : TypeId) (h : PAt w c x rest T) :
    Calls Try.prog 14 #[.pointer (some ⟨c, 0, none⟩)] w fun e w' => e = .returned (.complex .f64 (FloatKind.f64.nearest x.came) (FloatKind.f64.nearest x.wait.size)) ∧ Keep [] w w' := by
  have c0 := h.c0
  have c1 := h.c1
  go_enter Try.func14, Try.ntmps14
  go_wp2
  go_region
  go_wp2
  go_ret
  exact ⟨rfl, (Keep.refl _ _).drew⟩

theorem pchunk_any (w : World) (c : Nat) (x : Pp) (rest : List Value) (T : TypeId) (h : PAt w c x rest T) (n : Int) (hs : x.wait.size < 1000000000) (hc : 0 ≤ x.came ∧ x.came < 1000000000) :
    Calls Try.prog 12 #[.pointer (some ⟨c, 0, none⟩), .int .i64 n] w fun e w' => e = .returned (.string (x.wait.extract 0 (x.k n))) ∧ PAt w' c (x.chunk n) rest T ∧ Keep [c] w w' := by
  have c0 := h.c0
  have c1 := h.c1
  have f0 := h.f0
  have f1 := h.f1
  by_cases hA : (x.wait.size : Int) < n
  · by_cases hB : (x.wait.size : Int) > 0
    · have hk := hide (show x.k n = x.wait.size by unfold Pp.k; omega)
      go_enter Try.func12, Try.ntmps12
      go_wp2
      go_ret
      refine ⟨?_, ?_, ((Keep.refl _ _).setCell (by simp) _).setCell (by simp) _⟩
      · show Ending.returned (.string _) = _
        rw [hk.out]; simp
      · have e : x.chunk n = { wait := ByteArray.empty, came := x.came + (x.wait.size : Int), closed := x.closed } := by simp only [Pp.chunk, hk.out]; simp
        rw [e]
        exact (h.set0 _).set1 _
    · have hk := hide (show x.k n = 0 by unfold Pp.k; omega)
      go_enter Try.func12, Try.ntmps12
      go_wp2
      go_ret
      refine ⟨?_, ?_, ((Keep.refl _ _).setCell (by simp) _).setCell (by simp) _⟩
      · show Ending.returned (.string _) = _
        rw [hk.out]; simp
      · have e : x.chunk n = { wait := x.wait, came := x.came, closed := x.closed } := by simp only [Pp.chunk, hk.out]; simp
        rw [e]
        exact (h.set0 _).set1 _
  · by_cases hB : n > 0
    · obtain ⟨k, rfl⟩ : ∃ k : Nat, n = k := ⟨n.toNat, by omega⟩
      have hk := hide (show x.k k = k by unfold Pp.k; omega)
      go_enter Try.func12, Try.ntmps12
      go_wp2
      go_ret
      refine ⟨?_, ?_, ((Keep.refl _ _).setCell (by simp) _).setCell (by simp) _⟩
      · show Ending.returned (.string _) = _
        rw [hk.out]
      · have e : x.chunk k = { wait := x.wait.extract k x.wait.size, came := x.came + (k : Int), closed := x.closed } := by simp only [Pp.chunk, hk.out]
        rw [e]
        exact (h.set0 _).set1 _
    · have hk := hide (show x.k n = 0 by unfold Pp.k; omega)
      go_enter Try.func12, Try.ntmps12
      go_wp2
      go_ret
      refine ⟨?_, ?_, ((Keep.refl _ _).setCell (by simp) _).setCell (by simp) _⟩
      · show Ending.returned (.string _) = _
        rw [hk.out]; simp
      · have e : x.chunk n = { wait := x.wait, came := x.came, closed := x.closed } := by simp only [Pp.chunk, hk.out]; simp
        rw [e]
        exact (h.set0 _).set1 _

theorem pcut_any (w : World) (c : Nat) (x : Pp) (rest : List Value) (T : TypeId) (h : PAt w c x rest T) (n : Int) (hs : x.wait.size < 1000000000) :
    Calls Try.prog 10 #[.pointer (some ⟨c, 0, none⟩), .int .i64 n] w fun e w' => e = .returned (.tuple #[]) ∧ PAt w' c (x.cut n) rest T ∧ Keep [c] w w' := by
  have c0 := h.c0
  have c2 := h.c2
  have f0 := h.f0
  have f2 := h.f2
  by_cases hA : (x.wait.size : Int) < n
  · by_cases hB : (x.wait.size : Int) > 0
    · have hk := hide (show x.k n = x.wait.size by unfold Pp.k; omega)
      go_enter Try.func10, Try.ntmps10
      go_wp2
      go_region
      go_wp2
      go_end0
      have e : x.cut n = { wait := x.wait, came := x.came, closed := true } := by simp only [Pp.cut, hk.out]; simp
      rw [e]
      exact ⟨rfl, (h.set0 _).drew.set2 _, ((Keep.refl _ _).setCell (by simp) _).drew.setCell (by simp) _⟩
    · have hk := hide (show x.k n = 0 by unfold Pp.k; omega)
      go_enter Try.func10, Try.ntmps10
      go_wp2
      go_region
      go_wp2
      go_end0
      have e : x.cut n = { wait := ByteArray.empty, came := x.came, closed := true } := by simp only [Pp.cut, hk.out]; simp
      rw [e]
      exact ⟨rfl, (h.set0 _).drew.set2 _, ((Keep.refl _ _).setCell (by simp) _).drew.setCell (by simp) _⟩
  · by_cases hB : n > 0
    · obtain ⟨k, rfl⟩ : ∃ k : Nat, n = k := ⟨n.toNat, by omega⟩
      have hk := hide (show x.k k = k by unfold Pp.k; omega)
      go_enter Try.func10, Try.ntmps10
      go_wp2
      go_region
      go_wp2
      go_end0
      have e : x.cut k = { wait := x.wait.extract 0 k, came := x.came, closed := true } := by simp only [Pp.cut, hk.out]
      rw [e]
      exact ⟨rfl, (h.set0 _).drew.set2 _, ((Keep.refl _ _).setCell (by simp) _).drew.setCell (by simp) _⟩
    · have hk := hide (show x.k n = 0 by unfold Pp.k; omega)
      go_enter Try.func10, Try.ntmps10
      go_wp2
      go_region
      go_wp2
      go_end0
      have e : x.cut n = { wait := ByteArray.empty, came := x.came, closed := true } := by simp only [Pp.cut, hk.out]; simp
      rw [e]
      exact ⟨rfl, (h.set0 _).drew.set2 _, ((Keep.refl _ _).setCell (by simp) _).drew.setCell (by simp) _⟩
end Go.Proofs.Ytaahmjamkllphaa
