import Derived.Test.YtegnmdnflmlioaaAll
import Derived.RangeFuncBox
namespace Go.Proofs.Ytegnmdnflmlioaa
open Go.RowKit Go.Shelf Go.Proofs.YtegnmdnflmlioaaW.PrintWords Go.Proofs.YtegnmdnflmlioaaW.PrintLast
set_option maxRecDepth 100000
set_option linter.unusedVariables false
set_option maxHeartbeats 2000000
attribute [local go_sem] Oper.semAt_some
def SameOn (T : List Nat) (W W' : World) : Prop := ∀ k ∈ T, W'.heap[k]? = W.heap[k]?
theorem SameOn.refl (T : List Nat) (W : World) : SameOn T W W := fun _ _ => rfl
theorem SameOn.trans {T : List Nat} {A B C : World} (h : SameOn T A B) (h' : SameOn T B C) : SameOn T A C := fun k hk => (h' k hk).trans (h k hk)
theorem SameOn.put {T : List Nat} {B : Nat} (hT : ∀ k ∈ T, k < B) (W : World) (l : Nat) (o o' : Obj) (hl : B ≤ l) : SameOn T W (W.putObj l o') := fun k hk => by
  have := hT k hk
  exact World.putObj_heap_other (by omega)
theorem SameOn.of_keep {T S : List Nat} {W W' : World} (h : Keep S W W') (hT : ∀ k ∈ T, k < W.heap.size ∧ k ∉ S) : SameOn T W W' := fun k hk => h.block k (hT k hk).1 (hT k hk).2
theorem Own.same {α : Type} {d : Kd α} {e base : Nat} {w w' : World} {v : Value} {xs : List α} (hd : d.E = []) (h : Own d e base w v xs) (hs : SameOn v.ownBlock.toList w w') : Own d e base w' v xs := by
  refine Own.of (Kd.R_step (ok := fun k => v.ownBlock = some k) ?_ fun k ho _ => hs k (by simp [ho]))
  obtain ⟨h0, inner, ho, hr⟩ := h
  refine ⟨fun k hk => hk, inner, ho, hr.imp_ fun p c hp => ?_⟩
  exact d.M_mono (fun k hk => by obtain ⟨_, _, _, q, hq, _⟩ := hk; rw [hd] at hq; cases hq) (d.M_bound hp)
theorem allIt_stops (n : Nat) (hn : 1 ≤ n) (B base : Nat) (v : Value) (xs : List En) (w : World) (hB : Blk w B #[v] EntsT) (hO : Own kE EntT base w v xs) (hl : xs.length < 1000000000) :
    SeqStopsK Fence.wide n Try.prog 45 #[ptrTo B] (fun x : En => #[Value.string x.1, Value.int .i64 x.2]) (SameOn (B :: v.ownBlock.toList)) (fun ys => ys = xs) (fun pre => pre <+: xs) xs.length w := fun l J Jx W hW hJ hJx hY h0 => by
  have hB0 : Blk W B #[v] EntsT := hB.of_block (hW.block B hB.lt)
  have hO0 := hO.below hW
  obtain ⟨A, c, rfl⟩ := hO0.slice
  have c0 : W.cell? ⟨B, 0, none⟩ = some (.slice A xs.length c) := hB0.cell 0
  refine callsIn_of_wp Try.func45 rfl trivial ?_
  simp only [Try.ntmps45, List.size_toArray, List.length_cons, List.length_nil, Nat.reduceAdd, Nat.reduceSub, Array.replicate_succ, Array.replicate_zero, List.push_toArray, List.append_toArray, List.nil_append, List.cons_append]
  gi_wp2
  gi_loopw [7] (fun i wr => ∃ j : Nat, j ≤ xs.length ∧ i = .int .i64 j ∧ J (xs.take j) wr ∧ SameOn (B :: (Value.slice A xs.length c).ownBlock.toList) W wr) (fun i _ => xs.length - (intOf i).toNat)
  case atStart => exact ⟨0, Nat.zero_le _, rfl, h0, SameOn.refl _ _⟩
  case round =>
    obtain ⟨j, hj, rfl, hJs, hS⟩ := hrel
    by_cases hlt : j < xs.length
    · have hOr := hO0.same rfl (fun k hk => hS k (List.mem_cons_of_mem _ hk))
      obtain ⟨g, cap, hv, hgb, hg, x0, x1⟩ := own_ent_at hOr hlt
      obtain ⟨rfl, rfl⟩ : A = some ⟨g, 0, none⟩ ∧ c = cap := by injection hv with h1 _ h3; exact ⟨h1, h3⟩
      clear hv
      have htk : xs.take (j + 1) = xs.take j ++ [xs[j]] := by rw [List.take_succ_eq_append_getElem hlt]
      obtain ⟨⟨k, a⟩, hx⟩ : ∃ x, xs[j] = x := ⟨_, rfl⟩
      rw [hx] at x0 x1 htk
      simp only at x0 x1
      have HT := hide htk
      have hg1 : wr.grownBy (wr.alloc (.cells #[.string k, .int .i64 a] EntT)) none := World.grownBy_alloc wr _ none
      have hJ2 := hJ _ wr _ none hJs hg1 (fun r e => by cases e)
      obtain ⟨fn, tmps, assign, body, hy, hR⟩ := hY _ (k, a) _ hJ2 (by rw [List.length_take]; omega)
      dsimp only at hy
      clear htk hx hJ2 hg1
      gi_wp2
      have hBlt : B < wr.heap.size := by
        have h1 := hS B (by simp)
        obtain ⟨lo, hi, hb, _⟩ := hB0
        rw [hb] at h1
        exact (Array.getElem?_eq_some_iff.1 h1).1
      have hSa : SameOn (B :: (Value.slice (some ⟨g, 0, none⟩) xs.length c).ownBlock.toList) wr (wr.alloc (.cells #[.string k, .int .i64 a] EntT)) :=
        SameOn.of_keep ((Keep.refl [] wr).alloc _) (fun q hq => by simp [Value.ownBlock] at hq; rcases hq with rfl | rfl <;> simp [hBlt, hg])
      refine hR.mono ?_
      rintro e W3 (⟨rfl, hJ3, hk3⟩ | ⟨rfl, hJx3⟩)
      · gi_wp2
        go_roundw
        case rel => exact ⟨j + 1, by omega, by simp, by rw [HT.out]; exact hJ3, (hS.trans hSa).trans hk3⟩
        case measure => simp [intOf]; omega
      · gi_wp2
        refine bodyPost_ret (results_none rfl _ _ _) rfl ?_
        exact ⟨⟨_, rfl⟩, .inr ⟨_, by rw [← HT.out]; exact List.take_prefix _ _, hJx3⟩⟩
    · obtain rfl : j = xs.length := by omega
      rw [List.take_length] at hJs
      gi_wp2
      go_end0
      exact ⟨⟨_, rfl⟩, .inl ⟨_, rfl, hJs⟩⟩
end Go.Proofs.Ytegnmdnflmlioaa
