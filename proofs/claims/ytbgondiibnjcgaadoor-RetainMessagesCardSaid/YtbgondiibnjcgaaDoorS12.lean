import Derived.Test.YtbgondiibnjcgaaDoorR12
import Derived.Test.YtbgondiibnjcgaaDoorRm
import Derived.Test.YtbgondiibnjcgaaDoorRt4
import Derived.Test.YtbgondiibnjcgaaDoorMsg
import Derived.Test.YtbgondiibnjcgaaDoorCmp
import Derived.Test.YtbgondiibnjcgaaDoorDf
namespace Go.Proofs.YtbgondiibnjcgaaDoor
open Go.RowKit Go.Lib Go.Proofs.YtbgondiibnjcgaaDoor.PRetainPlays Go.Proofs.YtbgondiibnjcgaaDoorW.PrintWords Go.Proofs.YtbgondiibnjcgaaDoorW.PrintLast
set_option maxRecDepth 10000
set_option linter.unusedVariables false
set_option maxHeartbeats 1000000
namespace R12
def rOf (x : Rm) : RM := toR (toM x)
structure Rel (hs : List (BA × Rm)) (l : List RM) : Prop where
  sorted : l.Pairwise (fun a b => a.f5.data.toList < b.f5.data.toList)
  mem : ∀ k x, AL.get hs k = some x → x.tp = k ∧ rOf x ∈ l
  back : ∀ m ∈ l, ∃ x, AL.get hs m.f5 = some x ∧ rOf x = m
theorem Rel.nil : Rel [] [] := ⟨List.Pairwise.nil, (fun k x h => by cases h), (fun m h => by cases h)⟩
theorem lt_ne {a b : ByteArray} (h : a.data.toList < b.data.toList) : a ≠ b := by rintro rfl; exact List.lt_irrefl _ h
theorem Rel.nd {hs : List (BA × Rm)} {l : List RM} (h : Rel hs l) : (l.map (·.f5)).Nodup := List.pairwise_map.2 (h.sorted.imp fun h => lt_ne h)
theorem Rel.perm {hs : List (BA × Rm)} {l : List RM} (h : Rel hs l) (hn : (hs.map (·.1)).Nodup) : (l.map (·.f5)).Perm (hs.map (·.1)) := (List.perm_ext_iff_of_nodup h.nd hn).2 fun k => by
  constructor
  · intro hk
    obtain ⟨m, hm, rfl⟩ := List.mem_map.1 hk
    obtain ⟨x, hx, _⟩ := h.back m hm
    exact AL.get_isSome.1 (by rw [hx]; rfl)
  · intro hk
    have h3 : (AL.get hs k).isSome = true := AL.get_isSome.2 hk
    cases hg : AL.get hs k with
    | none => rw [hg] at h3; cases h3
    | some x =>
      obtain ⟨a, b⟩ := h.mem k x hg
      exact List.mem_map.2 ⟨_, b, a⟩
theorem Rel.len {hs : List (BA × Rm)} {l : List RM} (h : Rel hs l) (hn : (hs.map (·.1)).Nodup) : l.length = hs.length := by
  have := (h.perm hn).length_eq
  simpa using this
theorem le_of_lt' {a b : List UInt8} (h : a < b) : a ≤ b := List.le_of_lt h
theorem Rel.keys {hs : List (BA × Rm)} {l : List RM} (h : Rel hs l) (hn : (hs.map (·.1)).Nodup) {L : List BA} (hL : KeysOfS L hs) : L = l.map (·.f5) := by
  refine List.Perm.eq_of_pairwise (le := fun a b : BA => a.data.toList ≤ b.data.toList) ?_ hL.2 ?_ (hL.1.trans (h.perm hn).symm)
  · intro a b _ _ h1 h2
    exact ba_ext (List.le_antisymm h1 h2)
  · exact List.pairwise_map.2 (h.sorted.imp fun h => le_of_lt' h)
theorem woR_sorted {l : List RM} (h : l.Pairwise (fun a b => a.f5.data.toList < b.f5.data.toList)) (k : BA) : (woR l k).Pairwise (fun a b => a.f5.data.toList < b.f5.data.toList) := h.sublist List.filter_sublist
theorem Rel.del {hs : List (BA × Rm)} {l : List RM} (h : Rel hs l) (hn : (hs.map (·.1)).Nodup) (k : BA) : Rel (AL.del hs k) (woR l k) := by
  refine ⟨woR_sorted h.sorted k, fun j x hj => ?_, fun m hm => ?_⟩
  · rw [AL.get_del hn] at hj
    by_cases e : j = k
    · rw [if_pos e] at hj; cases hj
    · rw [if_neg e] at hj
      obtain ⟨a, b⟩ := h.mem j x hj
      refine ⟨a, List.mem_filter.2 ⟨b, ?_⟩⟩
      show decide ((toM x).f5 ≠ k) = true
      have : (toM x).f5 = j := a
      rw [this]; simpa using e
  · obtain ⟨h1, h2⟩ := List.mem_filter.1 hm
    obtain ⟨x, hx, hxm⟩ := h.back m h1
    simp at h2
    exact ⟨x, by rw [AL.get_del hn, if_neg h2]; exact hx, hxm⟩
theorem mem_ins {m x : RM} : ∀ {l : List RM}, x ∈ insR m l ↔ x = m ∨ x ∈ l := by
  intro l
  induction l with
  | nil => simp [insR]
  | cons a t ih =>
    simp only [insR]
    split
    · simp
    · simp only [List.mem_cons, ih]
      constructor
      · rintro (h | h | h) <;> simp [h]
      · rintro (h | h | h) <;> simp [h]
theorem ins_sorted {m : RM} : ∀ {l : List RM}, l.Pairwise (fun a b => a.f5.data.toList < b.f5.data.toList) → (∀ x ∈ l, x.f5 ≠ m.f5) → (insR m l).Pairwise (fun a b => a.f5.data.toList < b.f5.data.toList) := by
  intro l
  induction l with
  | nil => intro _ _; simp [insR]
  | cons a t ih =>
    intro hs hne
    rw [List.pairwise_cons] at hs
    simp only [insR]
    split
    · rename_i hlt
      refine List.pairwise_cons.2 ⟨fun x hx => ?_, List.pairwise_cons.2 hs⟩
      rcases List.mem_cons.1 hx with rfl | hx
      · exact hlt
      · exact List.lt_trans hlt (hs.1 x hx)
    · rename_i hnl
      refine List.pairwise_cons.2 ⟨fun x hx => ?_, ih hs.2 (fun x hx => hne x (List.mem_cons_of_mem _ hx))⟩
      rcases mem_ins.1 hx with rfl | hx
      · rcases List.le_iff_lt_or_eq.1 (List.not_lt.1 hnl) with h | h
        · exact h
        · exact absurd (ba_ext h) (hne a (List.mem_cons_self))
      · exact hs.1 x hx
theorem Rel.put {hs : List (BA × Rm)} {l : List RM} (h : Rel hs l) (k : BA) (x : Rm) (hx : x.tp = k) : Rel (AL.set hs k x) (insR (rOf x) (woR l k)) := by
  have hk : (rOf x).f5 = k := hx
  refine ⟨ins_sorted (woR_sorted h.sorted k) (fun y hy => by
    have := (List.mem_filter.1 hy).2
    rw [hk]; simpa using this), fun j y hj => ?_, fun m hm => ?_⟩
  · rw [AL.get_set] at hj
    by_cases e : j = k
    · rw [if_pos e] at hj; cases hj
      exact ⟨by rw [hx, e], mem_ins.2 (Or.inl rfl)⟩
    · rw [if_neg e] at hj
      obtain ⟨a, b⟩ := h.mem j y hj
      refine ⟨a, mem_ins.2 (Or.inr (List.mem_filter.2 ⟨b, ?_⟩))⟩
      show decide ((toM y).f5 ≠ k) = true
      have : (toM y).f5 = j := a
      rw [this]; simpa using e
  · rcases mem_ins.1 hm with rfl | hm
    · exact ⟨x, by rw [hk, AL.get_set, if_pos rfl], rfl⟩
    · obtain ⟨h1, h2⟩ := List.mem_filter.1 hm
      obtain ⟨y, hy, hym⟩ := h.back m h1
      simp at h2
      exact ⟨y, by rw [AL.get_set, if_neg h2]; exact hy, hym⟩
end R12
end Go.Proofs.YtbgondiibnjcgaaDoor
