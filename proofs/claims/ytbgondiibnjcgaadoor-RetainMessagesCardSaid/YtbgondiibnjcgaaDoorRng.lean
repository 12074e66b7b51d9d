import Derived.Test.YtbgondiibnjcgaaDoorMem
import Derived.Maps.RangeRun
import Derived.Maps.Range
import Derived.Sort.MapsRangeIn
import Derived.RangeFuncNested
import Derived.RangeFuncBound
import Derived.RangeFuncCalls
import Derived.RangeFuncLeaves
import Derived.Shelf.Abstract
import Derived.Shelf.RegionOpen
import Derived.WalkKit
import Derived.OwnWalkIn
import Derived.TacticsInMore
import Derived.LoopNIn
import Derived.LoopIn
import Derived.Maps.OwnIn
import Derived.Maps.AppendAt
namespace Go.Proofs.YtbgondiibnjcgaaDoor
open Go.RowKit
set_option maxRecDepth 10000
set_option linter.unusedVariables false
set_option maxHeartbeats 1000000
section
variable {κ ν : Type} {P : Program} {w : World} {b r : Nat} {kf : κ → Value} {vf : ν → Value} {l : List (κ × ν)} {ss : List κ}
def RangeAt {κ ν : Type} (w : World) (b r : Nat) (kf : κ → Value) (vf : ν → Value) (l : List (κ × ν)) (ss : List κ) : Prop :=
  ∃ es cl since seen c0, w.heap[b]? = some (.map es cl) ∧ es.toList.map (fun e => (e.key, e.val)) = emb kf vf l ∧ (es.toList.map (·.born)).Nodup ∧ w.heap[r]? = some (.mapIter (some b) since seen c0) ∧
    (∀ x ∈ es.toList, x.born < since) ∧ since ≤ c0 ∧ since ≤ cl ∧ ss.Nodup ∧ (∀ k ∈ ss, k ∈ l.map (·.1)) ∧ (∀ e ∈ es.toList, (seen.contains e.born = true ↔ ∃ k ∈ ss, e.key = kf k)) ∧ (leftOf es seen).size + ss.length ≤ l.length
theorem emb_len {es : List MapEntry} (he : es.map (fun e => (e.key, e.val)) = emb kf vf l) : es.length = l.length := by
  have := congrArg List.length he
  simpa [emb] using this
theorem MapAt.range {T K E : TypeId} (h : MapAt w b kf vf l) (ht : P.underlying T = some (.map K E)) :
    ∃ w', (Instr.range T (.map (some b))).run P w = .ok (.pointer (some ⟨w.heap.size, 0, none⟩)) w' ∧ RangeAt w' b w.heap.size kf vf l [] ∧ w.grownBy w' none ∧ w'.heap.size = w.heap.size + 1 := by
  have hlt := h.lt
  obtain ⟨es, cl, hb, he, hn, hc, _⟩ := h
  refine ⟨_, run_range_map w T K E b es cl ht hb, ⟨es, cl, cl, #[], cl, (Below.heap_alloc _ _ _ hlt).trans hb, he, hn, World.alloc_heap_new w _, hc, Nat.le_refl _, Nat.le_refl _, List.nodup_nil, by simp, ?_, ?_⟩, World.grownBy_alloc w _ none, by simp⟩
  · intro e _; simp
  · have h1 : (leftOf es #[]).size ≤ es.size := by unfold leftOf; exact Array.size_filter_le
    have h2 := emb_len he
    simp at h2 ⊢
    omega
theorem RangeAt.nodup (h : RangeAt w b r kf vf l ss) : ss.Nodup := by
  obtain ⟨es, cl, since, seen, c0, _, _, _, _, _, _, _, h, _⟩ := h
  exact h
theorem RangeAt.sub (h : RangeAt w b r kf vf l ss) : ∀ k ∈ ss, k ∈ l.map (·.1) := by
  obtain ⟨es, cl, since, seen, c0, _, _, _, _, _, _, _, _, h, _⟩ := h
  exact h
theorem RangeAt.perm (h : RangeAt w b r kf vf l ss) (hnd : (l.map (·.1)).Nodup) (hall : ∀ k ∈ l.map (·.1), k ∈ ss) : ss.Perm (l.map (·.1)) :=
  (List.perm_ext_iff_of_nodup h.nodup hnd).2 fun k => ⟨h.sub k, hall k⟩
end
section
variable {κ ν : Type} {F : Fence} {n : Nat} {P : Program} {ops : Array Oper} {rest : List Oper} {o : Oper} {a : Act} {Q : Exit → Act → World → Prop} {kf : κ → Value} {vf : ν → Value}
end
end Go.Proofs.YtbgondiibnjcgaaDoor
