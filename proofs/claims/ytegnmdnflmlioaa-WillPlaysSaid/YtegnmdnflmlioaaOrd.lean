import Derived.Test.YtegnmdnflmlioaaCmp
import Derived.Test.YtegnmdnflmlioaaStr
import Derived.Test.YtegnmdnflmlioaaLay
import Derived.Shelf.SlSortCmp.InsertionK
import Derived.Shelf.Small.Strs
import Derived.Shelf.Small.Wraps
import Derived.Deep.RegionWith
import Derived.Test.YtegnmdnflmlioaaStill
namespace Go.Proofs.Ytegnmdnflmlioaa
open Go.RowKit Go.Lib Go.Sort Go.Shelf
set_option maxRecDepth 10000
set_option linter.unusedVariables false
set_option maxHeartbeats 1000000
abbrev IntT : Nat := 3
theorem or_any (g : Nat) (a b : Int) (w : World) (h0 : w.cell? ⟨g, 0, none⟩ = some (.int .i64 a)) (h1 : w.cell? ⟨g, 1, none⟩ = some (.int .i64 b)) (r : Int) (hr : (if a = 0 then b else a) = r) :
    Calls Try.prog 52 #[.slice (some ⟨g, 0, none⟩) 2 2] w fun e w' => e = .returned (.int .i64 r) ∧ w' = w := by
  by_cases ha : a = 0
  · rw [if_pos ha] at hr
    subst ha hr
    by_cases hb : b = 0
    · subst hb
      go_enter Try.func52, Try.ntmps52
      go_wp2_with fail
      refine wp_loop_rounds 3 ?_
      rw [rounds_succ]
      go_wp2_with fail
      rw [rounds_succ]
      go_wp2_with fail
      rw [rounds_succ]
      go_wp2_with fail
      go_ret
      exact ⟨rfl, rfl⟩
    · have hb' : (b != 0) = true := by simpa using hb
      clear hb
      go_enter Try.func52, Try.ntmps52
      go_wp2_with fail
      refine wp_loop_rounds 2 ?_
      rw [rounds_succ]
      go_wp2_with fail
      rw [rounds_succ]
      go_wp2_with fail
      go_ret
      exact ⟨rfl, rfl⟩
  · rw [if_neg ha] at hr
    subst hr
    have ha' : (a != 0) = true := by simpa using ha
    clear ha
    go_enter Try.func52, Try.ntmps52
    go_wp2_with fail
    refine wp_loop_rounds 1 ?_
    rw [rounds_succ]
    go_wp2_with fail
    go_ret
    exact ⟨rfl, rfl⟩
theorem order_any (x y : BA × Int) (W : World) : Calls Try.prog 44 #[.agg #[.string x.1, .int .i64 x.2], .agg #[.string y.1, .int .i64 y.2]] W fun e w' => e = .returned (.int .i64 (ordE x y)) ∧ ∃ q os', w' = grow (W.drewN q) os' := by
  obtain ⟨kx, ax⟩ := x
  obtain ⟨ky, ay⟩ := y
  have hc := fun W' => Any.cmp_Compare_int Try.cmpInt ax ay W'
  have hs := fun W' => Any.strings_Compare Try.strCmp kx ky W'
  change ∀ W', Calls Try.prog 53 _ _ _ at hc
  change ∀ W', Calls Try.prog 54 _ _ _ at hs
  have hr : ordE (kx, ax) (ky, ay) = if compareInt ax ay = 0 then compareBytes kx.data.toList ky.data.toList else compareInt ax ay := rfl
  rw [hr]
  generalize compareInt ax ay = c1 at *
  generalize compareBytes kx.data.toList ky.data.toList = c2 at *
  obtain ⟨r, hr2⟩ : ∃ r, (if c1 = 0 then c2 else c1) = r := ⟨_, rfl⟩
  have HR := hide hr2
  rw [hr2]
  clear hr hr2
  go_enter Try.func44, Try.ntmps44
  go_wp2_with fail
  refine still_tail 10 (by kernel_rfl) (by kernel_rfl) fun w2 hw2 => ?_
  have d0 : w2.cell? ⟨W.heap.size, 0, none⟩ = some (.string kx) := by rw [← hw2]; exact ((Blk.new W _ _).alloc _).drew.cell 0
  have d1 : w2.cell? ⟨W.heap.size, 1, none⟩ = some (.int .i64 ax) := by rw [← hw2]; exact ((Blk.new W _ _).alloc _).drew.cell 1
  have d2 : w2.cell? ⟨W.heap.size + 1, 0, none⟩ = some (.string ky) := by rw [← hw2]; exact (Blk.new' (w := W.alloc _) _ _ (by simp)).drew.cell 0
  have d3 : w2.cell? ⟨W.heap.size + 1, 1, none⟩ = some (.int .i64 ay) := by rw [← hw2]; exact (Blk.new' (w := W.alloc _) _ _ (by simp)).drew.cell 1
  have HW := hide hw2
  clear hw2
  simp only [List.take_succ_cons, List.take_zero, List.drop_succ_cons, List.drop_zero]
  repeat still_step
  still_call (hc _)
  repeat still_step
  still_call (hs _)
  refine wpStill_nil ?_
  go_wp2_with fail
  refine (or_any _ c1 c2 _ ((Blk.new w2 _ _).cell 0) ((Blk.new w2 _ _).cell 1) r HR.out).mono ?_
  rintro e w3 ⟨rfl, rfl⟩
  go_wp2_with fail
  go_ret
  refine ⟨rfl, ?_⟩
  rw [← HW.out]
  exact ⟨1, _, by rw [alloc_eq_grow, alloc_eq_grow, alloc_eq_grow, grow_grow]; show grow (grow (W.drewN 1) _) _ = _; rw [grow_grow]⟩
end Go.Proofs.Ytegnmdnflmlioaa
