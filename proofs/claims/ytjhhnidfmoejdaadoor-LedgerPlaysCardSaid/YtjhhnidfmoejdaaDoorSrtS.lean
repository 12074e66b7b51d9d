import Derived.Test.YtjhhnidfmoejdaaDoorSrt1
import Derived.Test.YtjhhnidfmoejdaaDoorBits
namespace Go.Proofs.YtjhhnidfmoejdaaDoor
open Go.RowKit
set_option maxRecDepth 10000
set_option linter.unusedVariables false
set_option maxHeartbeats 1000000
theorem insertion_nil (w : World) : Calls Tryd.prog 44 #[.slice none 0 0, .int .i64 0, .int .i64 0] w fun e w' => e = .returned (.tuple #[]) ∧ w' = w := by
  go_enter Tryd.func44, Tryd.ntmps44
  go_wp2
  go_loopw [6] (fun i wr => i = .int .i64 1 ∧ wr = w) (fun i _ => 0)
  case atStart => exact ⟨rfl, rfl⟩
  case round =>
    obtain ⟨rfl, rfl⟩ := hrel
    go_wp2
    go_end0
    exact ⟨rfl, rfl⟩
theorem pdq_nil (lim : Int) (w : World) : Calls Tryd.prog 40 #[.slice none 0 0, .int .i64 0, .int .i64 0, .int .i64 lim] w fun e w' => e = .returned (.tuple #[]) ∧ w' = w := by
  go_enter Tryd.func40, Tryd.ntmps40
  go_wp2
  go_loopw [1, 2] (fun a b wr => a = .int .i64 0 ∧ b = .int .i64 0 ∧ wr = w) (fun _ _ _ => 0)
  case atStart => exact ⟨rfl, rfl, rfl⟩
  case round =>
    obtain ⟨rfl, rfl, rfl⟩ := hrel
    go_wp2_with fail
    refine (insertion_nil _).mono ?_
    rintro e w1 ⟨rfl, rfl⟩
    go_wp2
    refine bodyPost_ret (results_none rfl _ _ _) rfl ?_
    exact ⟨rfl, rfl⟩
theorem sort_nil (w : World) : Calls Tryd.prog 32 #[.slice none 0 0] w fun e w' => e = .returned (.tuple #[]) ∧ w' = w := by
  go_enter Tryd.func32, Tryd.ntmps32
  go_wp2_with fail
  refine (bits_Len _ _ (by omega) (by omega)).mono ?_
  rintro e w1 ⟨rfl, rfl⟩
  go_wp2_with fail
  refine (pdq_nil _ _).mono ?_
  rintro e w1 ⟨rfl, rfl⟩
  go_wp2
  go_end0
  exact ⟨rfl, rfl⟩
def Sorts (n : Nat) : Prop := ∀ (blk cap : Nat) (d : Nat → Int) (rest : List Value) (w : World), Arr w blk n d 22 rest → (∀ i j, i < n → j < n → d i = d j → i = j) →
    Calls Tryd.prog 32 #[.slice (some ⟨blk, 0, none⟩) n cap] w (Px fun (d' : Nat → Int) e w' => e = .returned (.tuple #[]) ∧ Arr w' blk n d' 22 rest ∧ SwR 0 n d d' ∧ Keep [blk] w w' ∧ Ris d' 0 n)
end Go.Proofs.YtjhhnidfmoejdaaDoor
