/- A whole number as a float equals itself. -/
import Derived.Test.YtaahmjamkllphaaMem
import Derived.Laws.FloatBits
namespace Go.Proofs.Ytaahmjamkllphaa
open Go.RowKit
set_option maxRecDepth 10000
set_option linter.unusedVariables false

theorem ordSelf (d : Ieee.Datum) (h : d.isNaN = false) : d.order d = some .eq := by
  cases d with
  | number s m i => simp only [Ieee.Datum.order]; rw [Int.compare_eq_eq.2 rfl]
  | infinity s => simp only [Ieee.Datum.order]; rw [Nat.compare_eq_eq.2 rfl]
  | nan s t => simp [Ieee.Datum.isNaN] at h

theorem read_rung (r : Nat) (h : r ≤ Ieee.double.infRung) : (Ieee.double.read r).isNaN = false := by
  have hlt := Ieee.Format.infRung_lt Ieee.double
  unfold Ieee.Format.read
  have e : r % Ieee.double.signWeight = r := Nat.mod_eq_of_lt (by omega)
  simp only [e]
  split
  · rfl
  · split
    · rfl
    · split
      · rfl
      · omega

theorem flt_rung (n : Int) (h : 0 ≤ n) : FloatKind.f64.nearest n ≤ Ieee.double.infRung := by
  have hn : decide (n < 0) = false := by simp; omega
  simp only [FloatKind.nearest, FloatKind.encode, FloatKind.format, Ieee.Format.write, Ieee.Format.nearest, hn]
  split
  · simp [Ieee.Format.word]
  · simp only [Ieee.Format.word, Bool.false_eq_true, if_false]
    exact Nat.min_le_right _ _

theorem flt_self (n : Int) (h : 0 ≤ n) : Ieee.double.order (FloatKind.f64.nearest n) (FloatKind.f64.nearest n) = some .eq :=
  ordSelf _ (read_rung _ (flt_rung n h))

theorem run_cmp_flt (P : Program) (n : Int) (h : 0 ≤ n) (w : World) : (Op.floatCmp .eql .f64 (FloatKind.f64.nearest n) (FloatKind.f64.nearest n)).run P w = .ok (.bool true) w := by
  simp only [Op.floatCmp, FloatKind.format, flt_self n h, Sem.run_pure]
  rfl
end Go.Proofs.Ytaahmjamkllphaa
