/- Package pipe: connections by their numbers. -/
import Derived.Test.YtaahmjamkllphaaPipe
import Derived.Test.YtaahmjamkllphaaSortedI
namespace Go.Proofs.Ytaahmjamkllphaa
open Go.RowKit
set_option maxRecDepth 10000
set_option linter.unusedVariables false
set_option maxHeartbeats 1000000

structure Cn where
  p : Pp
  said : ByteArray
  hung : Bool

abbrev cnRest (x : Cn) : List Value := [.string x.said, .bool x.hung]
abbrev ptrTo (c : Nat) : Value := .pointer (some ⟨c, 0, none⟩)

/-- Block c is a connection. -/
def CAt (w : World) (c : Nat) (x : Cn) : Prop := PAt w c x.p (cnRest x) 64

/-- The connections M lie in memory at n, in the map b: l says in which block each lies. -/
structure NetAt (w : World) (n b : Nat) (l : List (Int × Nat)) (M : Int → Option Cn) : Prop where
  blk : Blk w n #[.map (some b)] 60
  map : MapAt w b (Value.int .i64) ptrTo l
  conn : ∀ k c, AL.get l k = some c → ∃ x, M k = some x ∧ CAt w c x
  none : ∀ k, AL.get l k = none → M k = none
  inj : ∀ k k' c, AL.get l k = some c → AL.get l k' = some c → k = k'

section
variable {w w' : World} {c : Nat} {x : Cn}
theorem CAt.c3 (h : CAt w c x) : w.cell? ⟨c, 3, none⟩ = some (.string x.said) := by rw [Blk.cell h 3]; simp
theorem CAt.c4 (h : CAt w c x) : w.cell? ⟨c, 4, none⟩ = some (.bool x.hung) := by rw [Blk.cell h 4]; simp
theorem CAt.f3 (h : CAt w c x) : w.frozen? ⟨c, 3, none⟩ = false := Blk.frozen h 3 (by simp)
theorem CAt.f4 (h : CAt w c x) : w.frozen? ⟨c, 4, none⟩ = false := Blk.frozen h 4 (by simp)
theorem CAt.set3 (h : CAt w c x) (v : ByteArray) : CAt (w.setCell ⟨c, 3, none⟩ (.string v)) c { x with said := v } := by
  have := Blk.set h 3 (.string v); unfold CAt PAt; simpa using this
theorem CAt.set4 (h : CAt w c x) (v : Bool) : CAt (w.setCell ⟨c, 4, none⟩ (.bool v)) c { x with hung := v } := by
  have := Blk.set h 4 (.bool v); unfold CAt PAt; simpa using this
theorem CAt.lt (h : CAt w c x) : c < w.heap.size := Blk.lt h
theorem CAt.keep {S : List Nat} (h : CAt w c x) (hk : Keep S w w') (hS : c ∉ S) : CAt w' c x := Blk.keep h hk hS
end

def upM (M : Int → Option Cn) (k : Int) (x : Cn) : Int → Option Cn := fun k' => if k' = k then some x else M k'

section
variable {w w' : World} {n b : Nat} {l : List (Int × Nat)} {M : Int → Option Cn}

theorem NetAt.ne (h : NetAt w n b l M) : n ≠ b := h.map.ne_blk h.blk
theorem NetAt.cne (h : NetAt w n b l M) {k : Int} {c : Nat} (hk : AL.get l k = some c) : c ≠ b ∧ c ≠ n := by
  obtain ⟨x, _, hc⟩ := h.conn k c hk
  refine ⟨h.map.ne_blk hc, fun e => ?_⟩
  subst e
  have h1 := h.blk.cell 0
  have h2 := PAt.c0 hc
  rw [h1] at h2
  simp at h2

theorem NetAt.keep {S : List Nat} (h : NetAt w n b l M) (hk : Keep S w w') (h1 : n ∉ S) (h2 : b ∉ S) (h3 : ∀ k c, AL.get l k = some c → c ∉ S) : NetAt w' n b l M :=
  ⟨h.blk.keep hk h1, h.map.keep hk h2, fun k c hc => by obtain ⟨x, hx, hC⟩ := h.conn k c hc; exact ⟨x, hx, hC.keep hk (h3 k c hc)⟩, h.none, h.inj⟩

/-- One connection has turned. -/
theorem NetAt.turn (h : NetAt w n b l M) {k : Int} {c : Nat} {x : Cn} (hc : AL.get l k = some c) (hk : Keep [c] w w') (hx : CAt w' c x) : NetAt w' n b l (upM M k x) := by
  obtain ⟨e1, e2⟩ := h.cne hc
  refine ⟨h.blk.keep hk (by simp; exact fun e => e2 e.symm), h.map.keep hk (by simp; exact fun e => e1 e.symm), fun k' c' hc' => ?_, fun k' hk' => ?_, h.inj⟩
  · by_cases e : k' = k
    · subst e
      rw [hc] at hc'
      cases hc'
      exact ⟨x, by simp [upM], hx⟩
    · obtain ⟨y, hy, hC⟩ := h.conn k' c' hc'
      refine ⟨y, by simp [upM, e, hy], hC.keep hk ?_⟩
      simp
      intro e'
      subst e'
      exact e (h.inj _ _ _ hc' hc)
  · by_cases e : k' = k
    · subst e; rw [hc] at hk'; cases hk'
    · simp [upM, e, h.none k' hk']
end

/-- What get answers. -/
def getErr (M : Int → Option Cn) (k : Int) : Int := match M k with
  | none => 7
  | some x => if x.hung then 13 else 0
def getPtr (l : List (Int × Nat)) (k : Int) : Value := match AL.get l k with
  | none => .pointer none
  | some c => ptrTo c

theorem zeroConn (w : World) : (zeroValue 61).run Try.prog w = .ok (.pointer none) w := by kernel_rfl

theorem get_any (w : World) (n b : Nat) (l : List (Int × Nat)) (M : Int → Option Cn) (h : NetAt w n b l M) (k : Int) :
    Calls Try.prog 26 #[ptrTo n, .int .i64 k] w fun e w' => e = .returned (.tuple #[getPtr l k, .int .i64 (getErr M k)]) ∧ w' = w := by
  have hn0 := h.blk.cell 0
  simp at hn0
  have hl := run_lookup_map (KeyLaw.int Try.underlying3) Try.underlying58 h.map (zeroConn w) k true
  cases hk : AL.get l k with
  | none =>
    rw [hk] at hl
    have hM := h.none k hk
    have e1 := hide (show getPtr l k = .pointer none by unfold getPtr; rw [hk])
    have e2 := hide (show getErr M k = 7 by unfold getErr; rw [hM])
    clear hk hM
    simp only [optV, Option.isSome, if_true] at hl
    go_enter Try.func26, Try.ntmps26
    go_wp2
    go_ret2
    rw [e1.out, e2.out]
    exact ⟨rfl, rfl⟩
  | some c =>
    rw [hk] at hl
    obtain ⟨x, hM, hC⟩ := h.conn k c hk
    have c4 := hC.c4
    have e1 := hide (show getPtr l k = ptrTo c by unfold getPtr; rw [hk])
    have e2 := hide (show getErr M k = if x.hung then 13 else 0 by unfold getErr; rw [hM])
    clear hk hM
    cases hh : x.hung
    · rw [hh] at c4
      rw [hh] at e2
      clear hh
      simp only [optV, Option.isSome, if_true] at hl
      go_enter Try.func26, Try.ntmps26
      go_wp2
      go_ret2
      rw [e1.out, e2.out]
      exact ⟨rfl, rfl⟩
    · rw [hh] at c4
      rw [hh] at e2
      clear hh
      simp only [optV, Option.isSome, if_true] at hl
      go_enter Try.func26, Try.ntmps26
      go_wp2
      go_ret2
      rw [e1.out, e2.out]
      exact ⟨rfl, rfl⟩
end Go.Proofs.Ytaahmjamkllphaa
