import Derived.Test.YtjhhnidfmoejdaaDoorMem
namespace Go.Proofs.YtjhhnidfmoejdaaDoor
open Go.RowKit
set_option linter.unusedVariables false
theorem Blk.cells7 {w : World} {B T : Nat} {a0 a1 a2 a3 a4 a5 a6 : Value} (h : Blk w B #[a0, a1, a2, a3, a4, a5, a6] T) : w.cell? ⟨B, 0, none⟩ = some a0 ∧ w.cell? ⟨B, 1, none⟩ = some a1 ∧ w.cell? ⟨B, 2, none⟩ = some a2 ∧ w.cell? ⟨B, 3, none⟩ = some a3 ∧ w.cell? ⟨B, 4, none⟩ = some a4 ∧ w.cell? ⟨B, 5, none⟩ = some a5 ∧ w.cell? ⟨B, 6, none⟩ = some a6 :=
  ⟨h.cell 0, h.cell 1, h.cell 2, h.cell 3, h.cell 4, h.cell 5, h.cell 6⟩
def set7 (w : World) (B : Nat) (a0 a1 a2 a3 a4 a5 a6 : Value) : World := (((((((w.setCell ⟨B, 0, none⟩ a0).setCell ⟨B, 1, none⟩ a1).setCell ⟨B, 2, none⟩ a2).setCell ⟨B, 3, none⟩ a3).setCell ⟨B, 4, none⟩ a4).setCell ⟨B, 5, none⟩ a5).setCell ⟨B, 6, none⟩ a6)
theorem Blk.set7 {w : World} {B T : Nat} {a0 a1 a2 a3 a4 a5 a6 : Value} (h : Blk w B #[a0, a1, a2, a3, a4, a5, a6] T) (b0 b1 b2 b3 b4 b5 b6 : Value) : Blk (Go.Proofs.YtjhhnidfmoejdaaDoor.set7 w B b0 b1 b2 b3 b4 b5 b6) B #[b0, b1, b2, b3, b4, b5, b6] T ∧ Keep [B] w (Go.Proofs.YtjhhnidfmoejdaaDoor.set7 w B b0 b1 b2 b3 b4 b5 b6) :=
  ⟨by unfold Go.Proofs.YtjhhnidfmoejdaaDoor.set7; have := (((((((h.set 0 b0).set 1 b1).set 2 b2).set 3 b3).set 4 b4).set 5 b5).set 6 b6); simpa using this, by unfold Go.Proofs.YtjhhnidfmoejdaaDoor.set7; exact ((((((((Keep.refl [B] w).setCell (fun _ => by simp) b0).setCell (fun _ => by simp) b1).setCell (fun _ => by simp) b2).setCell (fun _ => by simp) b3).setCell (fun _ => by simp) b4).setCell (fun _ => by simp) b5).setCell (fun _ => by simp) b6)⟩
end Go.Proofs.YtjhhnidfmoejdaaDoor
