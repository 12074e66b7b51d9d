import Derived.Test.YtbgondiibnjcgaaDoorR12
import Derived.Test.YtbgondiibnjcgaaDoorRm
import Derived.Test.YtbgondiibnjcgaaDoorRt4
import Derived.Test.YtbgondiibnjcgaaDoorMsg
import Derived.Test.YtbgondiibnjcgaaDoorCmp
import Derived.Test.YtbgondiibnjcgaaDoorDf
namespace Go.Proofs.YtbgondiibnjcgaaDoor
open Go.RowKit Go.Lib Go.Proofs.YtbgondiibnjcgaaDoor.PRetainPlays Go.Proofs.YtbgondiibnjcgaaDoorW.PrintWords Go.Proofs.YtbgondiibnjcgaaDoorW.PrintLast
set_option maxRecDepth 10000
set_option linter.unusedVariables false
set_option maxHeartbeats 1000000
namespace R12
def rOf (x : Rm) : RM := toR (toM x)
structure Rel (hs : List (BA × Rm)) (l : List RM) : Prop where
  sorted : l.Pairwise (fun a b => a.f5.data.toList < b.f5.data.toList)
  mem : ∀ k x, AL.get hs k = some x → x.tp = k ∧ rOf x ∈ l
  back : ∀ m ∈ l, ∃ x, AL.get hs m.f5 = some x ∧ rOf x = m
theorem Rel.nil : Rel [] [] := ⟨List.Pairwise.nil, (fun k x h => by cases h), (fun m h => by cases h)⟩
theorem lt_ne {a b : ByteArray} (h : a.data.toList < b.data.toList) : a ≠ b := by rintro rfl; exact List.lt_irrefl _ h
theorem Rel.nd {hs : List (BA × Rm)} {l : List RM} (h : Rel hs l) : (l.map (·.f5)).Nodup := List.pairwise_map.2 (h.sorted.imp fun h => lt_ne h)
theorem Rel.perm {hs : List (BA × Rm)} {l : List RM} (h : Rel hs l) (hn : (hs.map (·.1)).Nodup) : (l.map (·.f5)).Perm (hs.map (·.1)) := (List.perm_ext_iff_of_nodup h.nd hn).2 fun k => by
  constructor
  · intro hk
    obtain ⟨m, hm, rfl⟩ := List.mem_map.1 hk
    obtain ⟨x, hx, _⟩ := h.back m hm
    exact AL.get_isSome.1 (by rw [hx]; rfl)
  · intro hk
    have h3 : (AL.get hs k).isSome = true := AL.get_isSome.2 hk
    cases hg : AL.get hs k with
    | none => rw [hg] at h3; cases h3
    | some x =>
      obtain ⟨a, b⟩ := h.mem k x hg
      exact List.mem_map.2 ⟨_, b, a⟩
theorem Rel.len {hs : List (BA × Rm)} {l : List RM} (h : Rel hs l) (hn : (hs.map (·.1)).Nodup) : l.length = hs.length := by
  have := (h.perm hn).length_eq
  simpa using this
theorem le_of_lt' {a b : List UInt8} (h : a < b) : a ≤ b := List.le_of_lt h
theorem Rel.keys {hs : List (BA × Rm)} {l : List RM} (h : Rel hs l) (hn : (hs.map (·.1)).Nodup) {L : List BA} (hL : KeysOfS L hs) : L = l.map (·.f5) := by
  refine List.Perm.eq_of_pairwise (le := fun a b : BA => a.data.toList ≤ b.data.toList) ?_ hL.2 ?_ (hL.1.trans (h.perm hn).symm)
  · intro a b _ _ h1 h2
    exact ba_ext (List.le_antisymm h1 h2)
  · exact List.pairwise_map.2 (h.sorted.imp fun h => le_of_lt' h)
theorem Rel.told {hs : List (BA × Rm)} {l : List RM} (h : Rel hs l) (hn : (hs.map (·.1)).Nodup) {L : List BA} (hL : KeysOfS L hs) (f : BA) (now : Int) :
    l.filter (fun m => topM f m.f5 && !goneR now m) = (matchR hs f now L).map toR := by
  rw [h.keys hn hL]
  unfold matchR
  rw [List.filter_map, List.map_map, List.map_map]
  have hg : ∀ m ∈ l, ∃ x, AL.get hs m.f5 = some x ∧ rOf x = m := h.back
  clear h hL hn L
  induction l with
  | nil => rfl
  | cons m t ih =>
    have iht := ih (fun x hx => hg x (List.mem_cons_of_mem _ hx))
    obtain ⟨x, hx, hxm⟩ := hg m (List.mem_cons_self)
    have hgo : goneR now m = goneM now ((AL.get hs m.f5).getD Rm.zero) := by
      rw [hx, ← hxm]
      show goneR now (toR (toM x)) = _
      rw [gone_map]; rfl
    have hc : (topM f m.f5 && !goneR now m) = (isTold hs f now ∘ fun x : RM => x.f5) m := by
      show _ = isTold hs f now m.f5
      unfold isTold; rw [hgo]
    have hv : ((toR ∘ fun k => toM ((AL.get hs k).getD Rm.zero)) ∘ fun x : RM => x.f5) m = m := by
      show toR (toM ((AL.get hs m.f5).getD Rm.zero)) = m
      rw [hx]; exact hxm
    cases hb : (isTold hs f now ∘ fun x : RM => x.f5) m
    · rw [List.filter_cons_of_neg (by rw [hc, hb]; simp), List.filter_cons_of_neg (by rw [hb]; simp), iht]
    · rw [List.filter_cons_of_pos (by rw [hc, hb]), List.filter_cons_of_pos hb, List.map_cons, hv, iht]
theorem woR_sorted {l : List RM} (h : l.Pairwise (fun a b => a.f5.data.toList < b.f5.data.toList)) (k : BA) : (woR l k).Pairwise (fun a b => a.f5.data.toList < b.f5.data.toList) := h.sublist List.filter_sublist
theorem Rel.del {hs : List (BA × Rm)} {l : List RM} (h : Rel hs l) (hn : (hs.map (·.1)).Nodup) (k : BA) : Rel (AL.del hs k) (woR l k) := by
  refine ⟨woR_sorted h.sorted k, fun j x hj => ?_, fun m hm => ?_⟩
  · rw [AL.get_del hn] at hj
    by_cases e : j = k
    · rw [if_pos e] at hj; cases hj
    · rw [if_neg e] at hj
      obtain ⟨a, b⟩ := h.mem j x hj
      refine ⟨a, List.mem_filter.2 ⟨b, ?_⟩⟩
      show decide ((toM x).f5 ≠ k) = true
      have : (toM x).f5 = j := a
      rw [this]; simpa using e
  · obtain ⟨h1, h2⟩ := List.mem_filter.1 hm
    obtain ⟨x, hx, hxm⟩ := h.back m h1
    simp at h2
    exact ⟨x, by rw [AL.get_del hn, if_neg h2]; exact hx, hxm⟩
theorem mem_ins {m x : RM} : ∀ {l : List RM}, x ∈ insR m l ↔ x = m ∨ x ∈ l := by
  intro l
  induction l with
  | nil => simp [insR]
  | cons a t ih =>
    simp only [insR]
    split
    · simp
    · simp only [List.mem_cons, ih]
      constructor
      · rintro (h | h | h) <;> simp [h]
      · rintro (h | h | h) <;> simp [h]
theorem ins_sorted {m : RM} : ∀ {l : List RM}, l.Pairwise (fun a b => a.f5.data.toList < b.f5.data.toList) → (∀ x ∈ l, x.f5 ≠ m.f5) → (insR m l).Pairwise (fun a b => a.f5.data.toList < b.f5.data.toList) := by
  intro l
  induction l with
  | nil => intro _ _; simp [insR]
  | cons a t ih =>
    intro hs hne
    rw [List.pairwise_cons] at hs
    simp only [insR]
    split
    · rename_i hlt
      refine List.pairwise_cons.2 ⟨fun x hx => ?_, List.pairwise_cons.2 hs⟩
      rcases List.mem_cons.1 hx with rfl | hx
      · exact hlt
      · exact List.lt_trans hlt (hs.1 x hx)
    · rename_i hnl
      refine List.pairwise_cons.2 ⟨fun x hx => ?_, ih hs.2 (fun x hx => hne x (List.mem_cons_of_mem _ hx))⟩
      rcases mem_ins.1 hx with rfl | hx
      · rcases List.le_iff_lt_or_eq.1 (List.not_lt.1 hnl) with h | h
        · exact h
        · exact absurd (ba_ext h) (hne a (List.mem_cons_self))
      · exact hs.1 x hx
theorem Rel.put {hs : List (BA × Rm)} {l : List RM} (h : Rel hs l) (k : BA) (x : Rm) (hx : x.tp = k) : Rel (AL.set hs k x) (insR (rOf x) (woR l k)) := by
  have hk : (rOf x).f5 = k := hx
  refine ⟨ins_sorted (woR_sorted h.sorted k) (fun y hy => by
    have := (List.mem_filter.1 hy).2
    rw [hk]; simpa using this), fun j y hj => ?_, fun m hm => ?_⟩
  · rw [AL.get_set] at hj
    by_cases e : j = k
    · rw [if_pos e] at hj; cases hj
      exact ⟨by rw [hx, e], mem_ins.2 (Or.inl rfl)⟩
    · rw [if_neg e] at hj
      obtain ⟨a, b⟩ := h.mem j y hj
      refine ⟨a, mem_ins.2 (Or.inr (List.mem_filter.2 ⟨b, ?_⟩))⟩
      show decide ((toM y).f5 ≠ k) = true
      have : (toM y).f5 = j := a
      rw [this]; simpa using e
  · rcases mem_ins.1 hm with rfl | hm
    · exact ⟨x, by rw [hk, AL.get_set, if_pos rfl], rfl⟩
    · obtain ⟨h1, h2⟩ := List.mem_filter.1 hm
      obtain ⟨y, hy, hym⟩ := h.back m h1
      simp at h2
      exact ⟨y, by rw [AL.get_set, if_neg h2]; exact hy, hym⟩
theorem Rel.has {hs : List (BA × Rm)} {l : List RM} (h : Rel hs l) (k : BA) : (AL.get hs k).isSome = decide ((woR l k).length ≠ l.length) := by
  cases hg : AL.get hs k with
  | none =>
    have : woR l k = l := List.filter_eq_self.2 fun m hm => by
      obtain ⟨x, hx, _⟩ := h.back m hm
      simp only [ne_eq, decide_not, Bool.not_eq_eq_eq_not, Bool.not_true, decide_eq_false_iff_not]
      rintro e
      rw [e, hg] at hx; cases hx
    rw [this]; simp
  | some x =>
    obtain ⟨a, b⟩ := h.mem k x hg
    have hlt : (woR l k).length < l.length := by
      have h1 := List.length_filter_le (fun m : RM => decide (m.f5 ≠ k)) l
      rcases Nat.lt_or_eq_of_le h1 with h2 | h2
      · exact h2
      · exfalso
        have h3 := List.filter_eq_self.1 (List.filter_sublist.eq_of_length h2) _ b
        have h4 : (rOf x).f5 = k := a
        simp at h3
        exact h3 h4
    simp; omega
theorem get_of_mem {ν : Type} {l : List (BA × ν)} (h : (l.map (·.1)).Nodup) {k : BA} {v : ν} (hp : (k, v) ∈ l) : AL.get l k = some v := by
  induction l with
  | nil => simp at hp
  | cons a t ih =>
    obtain ⟨a, y⟩ := a
    simp only [List.map_cons, List.nodup_cons] at h
    simp only [AL.get]
    rcases List.mem_cons.1 hp with e | hp
    · cases e; simp
    · rw [if_neg (by intro e; exact h.1 (e ▸ List.mem_map_of_mem (f := (·.1)) hp))]
      exact ih h.2 hp
theorem Rel.expire {hs : List (BA × Rm)} {l : List RM} (h : Rel hs l) (hn : (hs.map (·.1)).Nodup) (now : Int) : Rel (hs.filter fun p => !goneM now p.2) (l.filter fun m => !goneR now m) := by
  have hgo : ∀ x : Rm, goneR now (rOf x) = goneM now x := fun x => gone_map (toM x) now
  have hnf : ((hs.filter fun p => !goneM now p.2).map (·.1)).Nodup := hn.sublist (List.filter_sublist.map _)
  have hget : ∀ k x, AL.get (hs.filter fun p => !goneM now p.2) k = some x ↔ AL.get hs k = some x ∧ goneM now x = false := by
    intro k x
    constructor
    · intro hg
      have h1 := List.mem_filter.1 (get_mem2 hg)
      refine ⟨?_, by simpa using h1.2⟩
      exact get_of_mem hn h1.1
    · rintro ⟨hg, h2⟩
      exact get_of_mem hnf (List.mem_filter.2 ⟨get_mem2 hg, by simp [h2]⟩)
  refine ⟨h.sorted.sublist List.filter_sublist, fun k x hk => ?_, fun m hm => ?_⟩
  · obtain ⟨h1, h2⟩ := (hget k x).1 hk
    obtain ⟨a, b⟩ := h.mem k x h1
    exact ⟨a, List.mem_filter.2 ⟨b, by rw [hgo, h2]; rfl⟩⟩
  · obtain ⟨h1, h2⟩ := List.mem_filter.1 hm
    obtain ⟨x, hx, rfl⟩ := h.back m h1
    rw [hgo] at h2
    exact ⟨x, (hget _ x).2 ⟨hx, by simpa using h2⟩, rfl⟩
end R12
end Go.Proofs.YtbgondiibnjcgaaDoor
