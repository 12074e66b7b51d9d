import Derived.Test.YtegnmdnflmlioaaMem
import Derived.Lib.Bytealg
import Derived.Lib.Small
import Derived.Sort.Statements
namespace Go.Proofs.Ytegnmdnflmlioaa
open Go.Lib
theorem cmpB_lt : ∀ a b : List UInt8, compareBytes a b < 0 ↔ a < b
  | [], [] => by simp [compareBytes]
  | [], b :: bs => by simp [compareBytes]
  | a :: as, [] => by simp [compareBytes]
  | a :: as, b :: bs => by
    simp only [compareBytes, List.cons_lt_cons_iff]
    have ih := cmpB_lt as bs
    by_cases h1 : a < b
    · simp [h1]
    · rw [if_neg h1]
      by_cases h2 : b < a
      · rw [if_pos h2]
        have : a ≠ b := by rintro rfl; exact h1 h2
        simp [h1, this]
      · rw [if_neg h2]
        have : a = b := by
          by_cases e : a = b
          · exact e
          · rcases UInt8.lt_or_lt_of_ne e with h | h
            · exact absurd h h1
            · exact absurd h h2
        simp [this, ih]
theorem cmpB_eq : ∀ a b : List UInt8, compareBytes a b = 0 ↔ a = b
  | [], [] => by simp [compareBytes]
  | [], b :: bs => by simp [compareBytes]
  | a :: as, [] => by simp [compareBytes]
  | a :: as, b :: bs => by
    simp only [compareBytes, List.cons.injEq]
    have ih := cmpB_eq as bs
    by_cases h1 : a < b
    · rw [if_pos h1]
      have : a ≠ b := by rintro rfl; exact UInt8.lt_irrefl _ h1
      simp [this]
    · rw [if_neg h1]
      by_cases h2 : b < a
      · rw [if_pos h2]
        have : a ≠ b := by rintro rfl; exact UInt8.lt_irrefl _ h2
        simp [this]
      · rw [if_neg h2]
        have : a = b := by
          by_cases e : a = b
          · exact e
          · rcases UInt8.lt_or_lt_of_ne e with h | h
            · exact absurd h h1
            · exact absurd h h2
        simp [this, ih]
theorem ba_ext {a b : ByteArray} (h : a.data.toList = b.data.toList) : a = b := by
  cases a; cases b; congr; exact Array.toList_inj.1 h
theorem cmpI_lt (x y : Int) : compareInt x y < 0 ↔ x < y := by
  unfold compareInt; repeat' split
  all_goals omega
theorem cmpI_eq (x y : Int) : compareInt x y = 0 ↔ x = y := by
  unfold compareInt; repeat' split
  all_goals omega
def ltE (x y : ByteArray × Int) : Prop := x.2 < y.2 ∨ x.2 = y.2 ∧ x.1.data.toList < y.1.data.toList
def ordE (x y : ByteArray × Int) : Int := if compareInt x.2 y.2 = 0 then compareBytes x.1.data.toList y.1.data.toList else compareInt x.2 y.2
theorem ordE_lt (x y : ByteArray × Int) : ordE x y < 0 ↔ ltE x y := by
  unfold ordE ltE
  have h1 := cmpI_eq x.2 y.2
  have h2 := cmpI_lt x.2 y.2
  have h3 := cmpB_lt x.1.data.toList y.1.data.toList
  split
  · rename_i h
    rw [h3]
    have := h1.1 h
    constructor
    · intro h; exact .inr ⟨this, h⟩
    · rintro (h | h)
      · omega
      · exact h.2
  · rename_i h
    rw [h2]
    constructor
    · exact .inl
    · rintro (h' | h')
      · exact h'
      · exact absurd (h1.2 h'.1) h
theorem ltE.irrefl (x : ByteArray × Int) : ¬ ltE x x := by
  rintro (h | h)
  · omega
  · exact List.lt_irrefl _ h.2
theorem ltE.trans {x y z : ByteArray × Int} (h1 : ltE x y) (h2 : ltE y z) : ltE x z := by
  rcases h1 with h1 | h1 <;> rcases h2 with h2 | h2
  · exact .inl (by omega)
  · exact .inl (by omega)
  · exact .inl (by omega)
  · exact .inr ⟨by omega, List.lt_trans h1.2 h2.2⟩
theorem ltE.total (x y : ByteArray × Int) : ltE x y ∨ x = y ∨ ltE y x := by
  rcases Int.lt_trichotomy x.2 y.2 with h | h | h
  · exact .inl (.inl h)
  · by_cases h1 : x.1.data.toList < y.1.data.toList
    · exact .inl (.inr ⟨h, h1⟩)
    · by_cases h2 : y.1.data.toList < x.1.data.toList
      · exact .inr (.inr (.inr ⟨h.symm, h2⟩))
      · refine .inr (.inl ?_)
        have := List.le_antisymm (List.not_lt.1 h2) (List.not_lt.1 h1)
        obtain ⟨a, b⟩ := x
        obtain ⟨c, d⟩ := y
        simp only at *
        rw [ba_ext this, h]
  · exact .inr (.inr (.inl h))
theorem ltE.asymm {x y : ByteArray × Int} (h1 : ltE x y) : ¬ ltE y x := fun h => ltE.irrefl x (h1.trans h)
instance (x y : ByteArray × Int) : Decidable (ltE x y) := by unfold ltE; infer_instance
end Go.Proofs.Ytegnmdnflmlioaa
