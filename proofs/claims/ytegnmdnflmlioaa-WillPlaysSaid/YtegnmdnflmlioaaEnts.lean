import Derived.Test.YtegnmdnflmlioaaAll
import Derived.Test.YtegnmdnflmlioaaDue
namespace Go.Proofs.Ytegnmdnflmlioaa
def rmE (r : List En) (k : BA) : List En := r.filter fun p => decide (p.1 ≠ k)
def insE : List En → En → List En
  | [], x => [x]
  | e :: t, x => if ltE x e then x :: e :: t else e :: insE t x
theorem insE_perm : ∀ (r : List En) (x : En), (insE r x).Perm (x :: r)
  | [], x => .refl _
  | e :: t, x => by
    unfold insE
    split
    · exact .refl _
    · exact ((insE_perm t x).cons e).trans (.swap _ _ _)
theorem insE_sorted : ∀ (r : List En) (x : En), r.Pairwise ltE → (∀ e ∈ r, e.1 ≠ x.1) → (insE r x).Pairwise ltE
  | [], x, _, _ => by simp [insE]
  | e :: t, x, h, hn => by
    have h' := List.pairwise_cons.1 h
    unfold insE
    split
    · rename_i hx
      refine List.pairwise_cons.2 ⟨fun y hy => ?_, h⟩
      rcases List.mem_cons.1 hy with rfl | hy
      · exact hx
      · exact hx.trans (h'.1 y hy)
    · rename_i hx
      refine List.pairwise_cons.2 ⟨fun y hy => ?_, insE_sorted t x h'.2 (fun y hy => hn y (List.mem_cons_of_mem _ hy))⟩
      rcases List.mem_cons.1 ((insE_perm t x).mem_iff.1 hy) with rfl | hy
      · rcases ltE.total e y with h1 | h1 | h1
        · exact h1
        · exact absurd (by rw [h1]) (hn e (by simp))
        · exact absurd h1 hx
      · exact h'.1 y hy
theorem ents_unique : ∀ {xs r : List En}, xs.Perm r → xs.Pairwise ltE → r.Pairwise ltE → xs = r
  | [], r, h, _, _ => (List.nil_perm.1 h).symm ▸ rfl
  | a :: t, r, h, h1, h2 => by
    cases r with
    | nil => exact absurd h.symm (by simp)
    | cons b s =>
      have h1' := List.pairwise_cons.1 h1
      have h2' := List.pairwise_cons.1 h2
      have hab : a = b := by
        have ha := h.mem_iff.1 (List.mem_cons_self (a := a) (l := t))
        have hb := h.mem_iff.2 (List.mem_cons_self (a := b) (l := s))
        rcases List.mem_cons.1 ha with e | ha
        · exact e
        · rcases List.mem_cons.1 hb with e | hb
          · exact e.symm
          · exact absurd (h1'.1 b hb) (ltE.asymm (h2'.1 a ha))
      subst hab
      rw [ents_unique ((List.perm_cons _).1 h) h1'.2 h2'.2]
theorem EntsOf.eq {xs r l : List En} (h1 : EntsOf xs l) (h2 : EntsOf r l) : xs = r := ents_unique (h1.1.trans h2.1.symm) h1.2 h2.2
theorem del_filter {l : List En} (h : (l.map (·.1)).Nodup) (k : BA) : AL.del l k = rmE l k := by
  induction l with
  | nil => rfl
  | cons p t ih =>
    obtain ⟨a, x⟩ := p
    simp only [List.map_cons, List.nodup_cons] at h
    unfold rmE at *
    simp only [AL.del]
    by_cases hk : k = a
    · subst hk
      rw [if_pos rfl, List.filter_cons_of_neg (by simp)]
      refine (List.filter_eq_self.2 fun p hp => ?_).symm
      have : p.1 ≠ k := fun e => h.1 (e ▸ List.mem_map_of_mem hp)
      simpa using this
    · rw [if_neg hk, List.filter_cons_of_pos (by simpa using fun e => hk e.symm), ih h.2]
theorem set_perm {l : List En} (h : (l.map (·.1)).Nodup) (k : BA) (a : Int) : (AL.set l k a).Perm ((k, a) :: rmE l k) := by
  induction l with
  | nil => exact .refl _
  | cons p t ih =>
    obtain ⟨b, x⟩ := p
    simp only [List.map_cons, List.nodup_cons] at h
    simp only [AL.set]
    by_cases hk : k = b
    · subst hk
      rw [if_pos rfl]
      have : rmE ((k, x) :: t) k = t := by
        unfold rmE
        rw [List.filter_cons_of_neg (by simp)]
        refine List.filter_eq_self.2 fun p hp => ?_
        have : p.1 ≠ k := fun e => h.1 (e ▸ List.mem_map_of_mem hp)
        simpa using this
      rw [this]
    · rw [if_neg hk]
      have : rmE ((b, x) :: t) k = (b, x) :: rmE t k := by
        unfold rmE
        rw [List.filter_cons_of_pos (by simpa using fun e => hk e.symm)]
      rw [this]
      exact ((ih h.2).cons _).trans (.swap _ _ _)
theorem EntsOf.set {r l : List En} (h : EntsOf r l) (hn : (l.map (·.1)).Nodup) (k : BA) (a : Int) : EntsOf (insE (rmE r k) (k, a)) (AL.set l k a) :=
  ⟨((insE_perm _ _).trans ((h.1.filter _).cons _)).trans (set_perm hn k a).symm, insE_sorted _ _ (h.2.sublist List.filter_sublist) (fun e he => by
    have := (List.mem_filter.1 he).2; simpa using this)⟩
theorem EntsOf.del {r l : List En} (h : EntsOf r l) (hn : (l.map (·.1)).Nodup) (k : BA) : EntsOf (rmE r k) (AL.del l k) := by
  rw [del_filter hn]
  exact ⟨h.1.filter _, h.2.sublist List.filter_sublist⟩
theorem EntsOf.get {r l : List En} (h : EntsOf r l) (hn : (l.map (·.1)).Nodup) (k : BA) : AL.get l k = (r.find? fun p => decide (p.1 = k)).map (·.2) := by
  cases hf : r.find? fun p => decide (p.1 = k) with
  | none =>
    refine AL.get_none.2 fun hm => ?_
    obtain ⟨p, hp, e⟩ := List.mem_map.1 hm
    have := List.find?_eq_none.1 hf p (h.1.mem_iff.2 hp)
    simp [e] at this
  | some p =>
    have h1 := List.find?_some hf
    have h2 := h.1.mem_iff.1 (List.mem_of_find?_eq_some hf)
    simp at h1
    rw [← h1]
    exact get_mem hn h2
def notIn (ds : List En) (p : En) : Bool := ds.all fun d => decide (d.1 ≠ p.1)
theorem notIn_iff {ds : List En} {p : En} : notIn ds p = true ↔ ∀ d ∈ ds, d.1 ≠ p.1 := by
  unfold notIn; simp [List.all_eq_true]
theorem delAll_filter : ∀ (ds l : List En), (l.map (·.1)).Nodup → delAll l ds = l.filter (notIn ds) ∧ ((delAll l ds).map (·.1)).Nodup
  | [], l, h => ⟨(List.filter_eq_self.2 fun p _ => rfl).symm, h⟩
  | d :: ds, l, h => by
    have h1 : (AL.del l d.1).map (·.1) = (l.map (·.1)).filter (fun k => decide (k ≠ d.1)) := by
      rw [del_filter h]; unfold rmE; rw [List.filter_map]; rfl
    have h2 : ((AL.del l d.1).map (·.1)).Nodup := by rw [h1]; exact h.filter _
    obtain ⟨h3, h4⟩ := delAll_filter ds (AL.del l d.1) h2
    refine ⟨?_, h4⟩
    show delAll (AL.del l d.1) ds = _
    rw [h3, del_filter h]
    unfold rmE
    rw [List.filter_filter]
    refine List.filter_congr fun p _ => ?_
    unfold notIn
    rw [List.all_cons]
    by_cases e : p.1 = d.1
    · simp [e]
    · have e' : d.1 ≠ p.1 := fun h => e h.symm
      simp [e, e']
theorem EntsOf.due {r l : List En} (h : EntsOf r l) (hn : (l.map (·.1)).Nodup) (now : Int) : EntsOf (r.filter fun p => decide (now < p.2)) (delAll l (r.filter fun p => decide (p.2 ≤ now))) := by
  rw [(delAll_filter _ _ hn).1]
  refine ⟨?_, h.2.sublist List.filter_sublist⟩
  have : (r.filter fun p => decide (now < p.2)) = r.filter (notIn (r.filter fun p => decide (p.2 ≤ now))) := by
    refine List.filter_congr fun p hp => ?_
    have hr : (r.map (·.1)).Nodup := (h.1.map (·.1)).nodup_iff.2 hn
    rw [Bool.eq_iff_iff, decide_eq_true_eq, notIn_iff]
    constructor
    · intro h1 q hq e
      obtain ⟨hq1, hq2⟩ := List.mem_filter.1 hq
      have h2 := get_mem hr hp
      have h3 := get_mem hr hq1
      rw [e, h2] at h3
      simp at hq2
      have : p.2 = q.2 := by injection h3
      omega
    · intro h1
      by_cases h2 : now < p.2
      · exact h2
      · exact absurd rfl (h1 p (List.mem_filter.2 ⟨hp, by simp; omega⟩))
  rw [this]
  exact h.1.filter _
theorem EntsOf.len {r l : List En} (h : EntsOf r l) : r.length = l.length := h.1.length_eq
end Go.Proofs.Ytegnmdnflmlioaa
