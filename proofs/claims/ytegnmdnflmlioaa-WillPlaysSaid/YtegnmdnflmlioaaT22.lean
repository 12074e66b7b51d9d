import Derived.Test.YtegnmdnflmlioaaS22
namespace Go.Proofs.Ytegnmdnflmlioaa
open Go.RowKit Go.Proofs.Ytegnmdnflmlioaa.PWillPlays Go.Proofs.YtegnmdnflmlioaaW.PrintWords Go.Proofs.YtegnmdnflmlioaaW.PrintLast
set_option maxRecDepth 10000
set_option linter.unusedVariables false
set_option maxHeartbeats 1000000
namespace R22
def cutP (p : SP) : SP := ⟨p.f0, p.f1, cutS p.f2 20, cutS p.f3 20⟩
def fewP (l : List SP) : List SP := (l.take 8).map cutP
theorem cut_f (s : BA) (n : Nat) : switchboardlaw01_Cut.f s (n : Int) = some (cutS s n) := by
  unfold switchboardlaw01_Cut.f cutS
  by_cases h : s.size > n
  · rw [if_pos (by omega), if_pos (by omega), if_pos (by omega), if_pos h]; rfl
  · rw [if_neg (by omega), if_neg h]
theorem few_l0 (l : List SP) : ∀ (d k i : Nat) (out : List SP), 8 - i = d → i ≤ 8 → 2 * d + 2 < k → out.length ≤ i →
    switchboardlaw03_Few.l0 k l out (i : Int) = some (out ++ ((l.drop i).take (8 - i)).map cutP) := by
  intro d
  induction d with
  | zero =>
    intro k i out h1 h2 h3 h4
    obtain ⟨k, rfl⟩ : ∃ m, k = m + 1 + 1 := ⟨k - 2, by omega⟩
    obtain rfl : i = 8 := by omega
    have hd : decide (((8 : Nat) : Int) < 8) = false := by decide
    simp only [switchboardlaw03_Few.l0, hd, switchboardlaw03_Few.j1]
    rw [ite_self]
    simp
  | succ d ih =>
    intro k i out h1 h2 h3 h4
    obtain ⟨k, rfl⟩ : ∃ m, k = m + 1 + 1 := ⟨k - 2, by omega⟩
    have e : wrap64 ((i : Int) + 1) = ((i + 1 : Nat) : Int) := by unfold wrap64; omega
    have hd : decide ((i : Int) < 8) = true := by simp; omega
    simp only [switchboardlaw03_Few.l0, hd, switchboardlaw03_Few.j1]
    by_cases hi : i < l.length
    · rw [if_pos (by omega), if_pos trivial, if_pos (by omega), if_pos (by omega), rdP_at l i hi]
      rw [show (20 : Int) = ((20 : Nat) : Int) from rfl, cut_f, cut_f]
      simp only [Option.bind_some]
      rw [if_pos (by omega), e, ih k (i + 1) _ (by omega) (by omega) (by omega) (by simp; omega)]
      rw [List.drop_eq_getElem_cons hi, show 8 - i = (8 - (i + 1)) + 1 by omega, List.take_succ_cons, List.map_cons]
      simp [cutP]
    · rw [if_neg (by omega), if_neg (by simp), List.drop_of_length_le (by omega)]; simp
theorem few_f (l : List SP) (tp pl : BA) (q : Int) (rt : Bool) (k : Nat) (hk : 20 ≤ k) : switchboardlaw22_few.f k l tp pl q rt = some (fewP l, cutS tp 20, cutS pl 20, q, rt) := by
  unfold switchboardlaw22_few.f switchboardlaw03_Few.f
  rw [show (20 : Int) = ((20 : Nat) : Int) from rfl, cut_f, cut_f]
  simp only [Option.bind_some]
  have := few_l0 l 8 k 0 [] rfl (by omega) (by omega) (by simp)
  simp only [List.drop_zero, List.nil_append, Nat.sub_zero] at this
  rw [show ((0 : Nat) : Int) = 0 from rfl] at this
  rw [this]
  rfl
theorem toldp_l0 (l : List SP) (hl : l.length < 1000000) : ∀ (d k i : Nat) (out : List RP), l.length - i = d → i ≤ l.length → d < k → out.length ≤ i →
    switchboardlaw03_Told.l0 k out l (l.length : Int) (i : Int) = some (out ++ (l.drop i).map toP) := by
  intro d
  induction d with
  | zero =>
    intro k i out h1 h2 h3 h4
    obtain ⟨k, rfl⟩ : ∃ m, k = m + 1 := ⟨k - 1, by omega⟩
    simp only [switchboardlaw03_Told.l0]
    rw [if_neg (by omega), List.drop_of_length_le (by omega)]
    simp
  | succ d ih =>
    intro k i out h1 h2 h3 h4
    obtain ⟨k, rfl⟩ : ∃ m, k = m + 1 := ⟨k - 1, by omega⟩
    have hi : i < l.length := by omega
    have e : wrap64 ((i : Int) + 1) = ((i + 1 : Nat) : Int) := by unfold wrap64; omega
    simp only [switchboardlaw03_Told.l0]
    rw [if_pos (by omega), if_pos (by omega), if_pos (by omega), if_pos (by omega), rdP_at l i hi, e, ih k (i + 1) _ (by omega) (by omega) (by omega) (by simp; omega), List.drop_eq_getElem_cons hi]
    simp [toP, -List.getElem_cons_drop]
theorem toldp_f (l : List SP) (hl : l.length < 1000000) (k : Nat) (hk : l.length < k) : switchboardlaw03_Told.f k l = some (l.map toP) := by
  have := toldp_l0 l hl l.length k 0 [] (by omega) (by omega) hk (by simp)
  simpa [switchboardlaw03_Told.f] using this
theorem told_f (l : List SP) (tp pl : BA) (q : Int) (rt : Bool) (hl : l.length < 1000000) (k : Nat) (hk : l.length < k) : switchboardlaw22_told.f k l tp pl q rt = some (l.map toP, tp, pl, q, rt) := by
  unfold switchboardlaw22_told.f
  rw [toldp_f l hl k hk]; rfl
theorem same_l0 (l : List RP) (hl : l.length < 1000000) : ∀ (d k i : Nat), l.length - i = d → i ≤ l.length → d < k → switchboardref06_same.l0 k l l (l.length : Int) (i : Int) = some true := by
  intro d
  induction d with
  | zero =>
    intro k i h1 h2 h3
    obtain ⟨k, rfl⟩ : ∃ m, k = m + 1 := ⟨k - 1, by omega⟩
    simp only [switchboardref06_same.l0]
    rw [if_neg (by omega)]
  | succ d ih =>
    intro k i h1 h2 h3
    obtain ⟨k, rfl⟩ : ∃ m, k = m + 1 := ⟨k - 1, by omega⟩
    have e : wrap64 ((i : Int) + 1) = ((i + 1 : Nat) : Int) := by unfold wrap64; omega
    simp only [switchboardref06_same.l0]
    rw [if_pos (by omega), if_pos (by omega), if_pos (by omega), if_pos (by omega), if_neg (by simp), e]
    exact ih k (i + 1) (by omega) (by omega) (by omega)
theorem same_f (m : RM) (hl : m.f4.length < 1000000) (k : Nat) (hk : m.f4.length < k) : switchboardlaw12_Same.f k m.f0 m.f1 m.f2 m.f3 m.f4 m.f5 m.f6 m.f0 m.f1 m.f2 m.f3 m.f4 m.f5 m.f6 = some 0 := by
  unfold switchboardlaw12_Same.f switchboardref06_Props.f switchboardref06_same.f
  rw [if_pos rfl, if_pos rfl, if_pos rfl, if_pos (by simp), if_pos rfl]
  have := same_l0 m.f4 hl m.f4.length k 0 (by omega) (by omega) hk
  rw [show ((0 : Nat) : Int) = 0 from rfl] at this
  rw [this]
  simp
theorem is_l0 (l : List SM) (hl : l.length < 1000000) (hp : ∀ m ∈ l, m.f4.length ≤ 100) : ∀ (d k i : Nat), l.length - i = d → i ≤ l.length → d + 200 < k → switchboardlaw12_Is.l0 k l (l.map toM) (l.length : Int) (i : Int) = some 0 := by
  intro d
  induction d with
  | zero =>
    intro k i h1 h2 h3
    obtain ⟨k, rfl⟩ : ∃ m, k = m + 1 := ⟨k - 1, by omega⟩
    simp only [switchboardlaw12_Is.l0]
    rw [if_neg (by omega)]
  | succ d ih =>
    intro k i h1 h2 h3
    obtain ⟨k, rfl⟩ : ∃ m, k = m + 1 := ⟨k - 1, by omega⟩
    have hi : i < l.length := by omega
    have e : wrap64 ((i : Int) + 1) = ((i + 1 : Nat) : Int) := by unfold wrap64; omega
    have hpi := hp _ (List.getElem_mem hi)
    simp only [switchboardlaw12_Is.l0]
    rw [if_pos (by omega), if_pos (by omega), if_pos (by omega), rdM_at l i hi]
    unfold switchboardlaw12_Told.f
    rw [toldp_f _ (by omega) k (by omega)]
    simp only [Option.bind_some]
    rw [if_pos (by simp; omega), rdN_at (l.map toM) i (by simpa using hi), List.getElem_map]
    have := same_f (toM l[i]) (by simp [toM]; omega) k (by simp [toM]; omega)
    simp only [toM] at this ⊢
    rw [this]
    simp only [Option.bind_some]
    rw [if_pos trivial, e]
    exact ih k (i + 1) (by omega) (by omega) (by omega)
theorem is_f (l : List SM) (hl : l.length < 1000000) (hp : ∀ m ∈ l, m.f4.length ≤ 100) (k : Nat) (hk : l.length + 200 < k) : switchboardlaw12_Is.f k l (l.map toM) = some 0 := by
  unfold switchboardlaw12_Is.f
  rw [if_pos (by simp), List.length_map]
  exact is_l0 l hl hp l.length k 0 (by omega) (by omega) hk
def dueOf (r : List En) (c : BA) : Int := if (findE r c).2 then (findE r c).1 else -1
theorem findE_mem {r : List En} (hn : (r.map (·.1)).Nodup) {c : BA} {a : Int} (h : (c, a) ∈ r) : findE r c = (a, true) := by
  unfold findE
  have h1 := get_mem hn h
  cases hf : r.find? (fun p => decide (p.1 = c)) with
  | none => have := List.find?_eq_none.1 hf _ h; simp at this
  | some p =>
    have h2 := List.find?_some hf
    have h3 := List.mem_of_find?_eq_some hf
    simp at h2
    have h4 := get_mem hn h3
    rw [h2, h1] at h4
    injection h4 with h4
    show (p.2, true) = (a, true)
    rw [show p.2 = a from h4.symm]
theorem findE_none {r : List En} {c : BA} (h : ∀ p ∈ r, p.1 ≠ c) : findE r c = (0, false) := by
  unfold findE
  have : r.find? (fun p => decide (p.1 = c)) = none := List.find?_eq_none.2 fun p hp => by simpa using h p hp
  rw [this]
theorem dueOf_cases (r : List En) (hn : (r.map (·.1)).Nodup) (c : BA) : (∃ a, (c, a) ∈ r ∧ dueOf r c = a ∧ findE r c = (a, true)) ∨ ((∀ p ∈ r, p.1 ≠ c) ∧ dueOf r c = -1 ∧ findE r c = (0, false)) := by
  by_cases h : ∃ p ∈ r, p.1 = c
  · obtain ⟨⟨k, a⟩, hp, rfl⟩ := h
    have := findE_mem hn hp
    exact .inl ⟨a, hp, by unfold dueOf; rw [this]; rfl, this⟩
  · have h' : ∀ p ∈ r, p.1 ≠ c := fun p hp e => h ⟨p, hp, e⟩
    have := findE_none h'
    exact .inr ⟨h', by unfold dueOf; rw [this]; rfl, this⟩
structure Rel (hs : List (BA × Hd)) (r : List En) (l : List One) : Prop where
  nd : (l.map (·.f0)).Nodup
  mem : ∀ x ∈ l, ∃ h, AL.get hs x.f0 = some h ∧ x.f1 = toM h.m ∧ x.f2 = h.d ∧ x.f3 = dueOf r x.f0
  all : ∀ c, (AL.get hs c).isSome = true → ∃ x ∈ l, x.f0 = c
  len : l.length = hs.length
theorem Rel.nil : Rel [] [] [] := ⟨by simp, by simp, fun c h => by simp [AL.get] at h, rfl⟩
theorem Rel.has {hs : List (BA × Hd)} {r : List En} {l : List One} (h : Rel hs r l) (hr : (r.map (·.1)).Nodup) (c : BA) : hasO l c = hasW hs r c := by
  unfold hasO hasW
  cases hf : l.find? (fun x => decide (x.f0 = c)) with
  | none =>
    have : (AL.get hs c).isSome = false := by
      cases hg : (AL.get hs c).isSome with
      | false => rfl
      | true =>
        obtain ⟨x, hx, hc⟩ := h.all c hg
        have := List.find?_eq_none.1 hf x hx
        simp [hc] at this
    rw [this]; rfl
  | some x =>
    have h2 := List.find?_some hf
    have h3 := List.mem_of_find?_eq_some hf
    simp at h2
    subst h2
    obtain ⟨y, h4, _, _, h5⟩ := h.mem x h3
    show (x.f3, true) = _
    rw [h4, h5]
    rcases dueOf_cases r hr x.f0 with ⟨a, _, e1, e2⟩ | ⟨_, e1, e2⟩
    · rw [e1, e2]; rfl
    · rw [e1, e2]; rfl
theorem Rel.any {hs : List (BA × Hd)} {r : List En} {l : List One} (h : Rel hs r l) (c : BA) : l.any (fun x => decide (x.f0 = c)) = (AL.get hs c).isSome := by
  rw [Bool.eq_iff_iff, List.any_eq_true]
  constructor
  · rintro ⟨x, hx, e⟩
    simp at e
    subst e
    obtain ⟨y, h4, _⟩ := h.mem x hx
    rw [h4]; rfl
  · intro hg
    obtain ⟨x, hx, e⟩ := h.all c hg
    exact ⟨x, hx, by simp [e]⟩
theorem rm_len_any {l : List One} (hn : (l.map (·.f0)).Nodup) (c : BA) : (rmO l c).length + (if l.any (fun x => decide (x.f0 = c)) then 1 else 0) = l.length := by
  induction l with
  | nil => simp [rmO]
  | cons a t ih =>
    simp only [List.map_cons, List.nodup_cons] at hn
    have ih := ih hn.2
    by_cases h : a.f0 = c
    · subst h
      have h0 : t.any (fun x => decide (x.f0 = a.f0)) = false := by
        rw [List.any_eq_false]
        intro x hx
        simp only [decide_eq_true_eq]
        exact fun e => hn.1 (e ▸ List.mem_map_of_mem hx)
      rw [h0] at ih
      simp only [rmO] at ih ⊢
      rw [List.filter_cons_of_neg (by simp), List.any_cons]
      simp at ih ⊢
      omega
    · simp only [rmO] at ih ⊢
      rw [List.filter_cons_of_pos (by simpa using h), List.any_cons]
      simp only [h, decide_false, Bool.false_or, List.length_cons]
      omega
theorem dueOf_rm {r : List En} (hr : (r.map (·.1)).Nodup) {c c' : BA} (h : c' ≠ c) : dueOf (rmE r c) c' = dueOf r c' := by
  rcases dueOf_cases r hr c' with ⟨a, h1, e1, _⟩ | ⟨h1, e1, _⟩
  · have hm : (c', a) ∈ rmE r c := List.mem_filter.2 ⟨h1, by simpa using h⟩
    have := findE_mem (r := rmE r c) (hr.sublist (List.filter_sublist.map _)) hm
    rw [e1]; unfold dueOf; rw [this]; rfl
  · have := findE_none (r := rmE r c) (c := c') fun p hp => h1 p (List.mem_filter.1 hp).1
    rw [e1]; unfold dueOf; rw [this]; rfl
theorem dueOf_rm_self (r : List En) (c : BA) : dueOf (rmE r c) c = -1 := by
  have := findE_none (r := rmE r c) (c := c) fun p hp => by have := (List.mem_filter.1 hp).2; simpa using this
  unfold dueOf; rw [this]; rfl
theorem Rel.drop {hs : List (BA × Hd)} {r : List En} {l : List One} (h : Rel hs r l) (hh : (hs.map (·.1)).Nodup) (hr : (r.map (·.1)).Nodup) (c : BA) : Rel (AL.del hs c) (rmE r c) (rmO l c) := by
  refine ⟨nd_rm h.nd c, fun x hx => ?_, fun c' hc' => ?_, ?_⟩
  · obtain ⟨h1, h2⟩ := mem_rm.1 hx
    obtain ⟨y, h3, h4, h5, h6⟩ := h.mem x h1
    exact ⟨y, by rw [AL.get_del hh, if_neg h2]; exact h3, h4, h5, by rw [dueOf_rm hr h2]; exact h6⟩
  · rw [AL.get_del hh] at hc'
    by_cases e : c' = c
    · rw [if_pos e] at hc'; cases hc'
    · rw [if_neg e] at hc'
      obtain ⟨x, hx, hxc⟩ := h.all c' hc'
      exact ⟨x, mem_rm.2 ⟨hx, by rw [hxc]; exact e⟩, hxc⟩
  · have h1 := rm_len_any h.nd c
    rw [h.any c] at h1
    rw [AL.length_del, ← h.len]
    split at h1 <;> simp_all <;> omega
theorem Rel.hold {hs : List (BA × Hd)} {r : List En} {l : List One} (h : Rel hs r l) (hr : (r.map (·.1)).Nodup) (c : BA) (x : Hd) : Rel (AL.set hs c x) (rmE r c) (rmO l c ++ [⟨c, toM x.m, x.d, -1⟩]) := by
  refine ⟨?_, fun y hy => ?_, fun c' hc' => ?_, ?_⟩
  · rw [List.map_append, List.nodup_append]
    refine ⟨nd_rm h.nd c, by simp, ?_⟩
    intro a ha b hb e
    obtain ⟨y, hy, rfl⟩ := List.mem_map.1 ha
    simp at hb
    exact (mem_rm.1 hy).2 (e.trans hb)
  · rcases List.mem_append.1 hy with hy | hy
    · obtain ⟨h1, h2⟩ := mem_rm.1 hy
      obtain ⟨z, h3, h4, h5, h6⟩ := h.mem y h1
      exact ⟨z, by rw [AL.get_set, if_neg h2]; exact h3, h4, h5, by rw [dueOf_rm hr h2]; exact h6⟩
    · simp at hy
      subst hy
      exact ⟨x, by rw [AL.get_set, if_pos rfl], rfl, rfl, (dueOf_rm_self r c).symm⟩
  · by_cases e : c' = c
    · exact ⟨_, List.mem_append_right _ (List.mem_singleton.2 rfl), e.symm⟩
    · rw [AL.get_set, if_neg e] at hc'
      obtain ⟨y, hy, hyc⟩ := h.all c' hc'
      exact ⟨y, List.mem_append_left _ (mem_rm.2 ⟨hy, by rw [hyc]; exact e⟩), hyc⟩
  · have h1 := rm_len_any h.nd c
    rw [h.any c] at h1
    rw [AL.length_set, ← h.len, List.length_append, List.length_singleton]
    split at h1 <;> simp_all
theorem Rel.endw {hs : List (BA × Hd)} {r : List En} {l : List One} (h : Rel hs r l) (hr : (r.map (·.1)).Nodup) (c : BA) (now ex : Int) : Rel hs (endW hs r c now ex) (endO l c now ex) := by
  have hf0 : ∀ x : One, (if x.f0 = c then { x with f3 := now + min x.f2 ex } else x).f0 = x.f0 := fun x => by split <;> rfl
  have hmap : (endO l c now ex).map (·.f0) = l.map (·.f0) := by
    unfold endO; rw [List.map_map]; exact List.map_congr_left fun x _ => hf0 x
  refine ⟨by rw [hmap]; exact h.nd, fun y hy => ?_, fun c' hc' => ?_, by unfold endO; rw [List.length_map]; exact h.len⟩
  · obtain ⟨x, hx, rfl⟩ := List.mem_map.1 hy
    obtain ⟨z, h3, h4, h5, h6⟩ := h.mem x hx
    rw [hf0]
    refine ⟨z, h3, by split <;> exact h4, by split <;> exact h5, ?_⟩
    unfold endW
    by_cases e : x.f0 = c
    · rw [if_pos e]
      rw [e] at h3
      rw [h3, e]
      have hm : (c, now + min z.d ex) ∈ insE (rmE r c) (c, now + min z.d ex) := (insE_perm _ _).mem_iff.2 (by simp)
      have hnd : ((insE (rmE r c) (c, now + min z.d ex)).map (·.1)).Nodup := by
        refine ((insE_perm _ _).map (·.1)).nodup_iff.2 ?_
        rw [List.map_cons, List.nodup_cons]
        refine ⟨fun hm => ?_, hr.sublist (List.filter_sublist.map _)⟩
        obtain ⟨p, hp, e2⟩ := List.mem_map.1 hm
        have := (List.mem_filter.1 hp).2
        simp at this
        exact this e2
      have := findE_mem hnd hm
      simp only
      unfold dueOf
      rw [this, h5]; rfl
    · rw [if_neg e]
      rw [h6]
      cases hg : AL.get hs c with
      | none => rfl
      | some z' =>
        simp only
        have hnd : ((insE (rmE r c) (c, now + min z'.d ex)).map (·.1)).Nodup := by
          refine ((insE_perm _ _).map (·.1)).nodup_iff.2 ?_
          rw [List.map_cons, List.nodup_cons]
          refine ⟨fun hm => ?_, hr.sublist (List.filter_sublist.map _)⟩
          obtain ⟨p, hp, e2⟩ := List.mem_map.1 hm
          have := (List.mem_filter.1 hp).2
          simp at this
          exact this e2
        rcases dueOf_cases r hr x.f0 with ⟨a, h1, e1, _⟩ | ⟨h1, e1, _⟩
        · have hm : (x.f0, a) ∈ insE (rmE r c) (c, now + min z'.d ex) := (insE_perm _ _).mem_iff.2 (List.mem_cons_of_mem _ (List.mem_filter.2 ⟨h1, by simpa using e⟩))
          have := findE_mem hnd hm
          rw [e1]; unfold dueOf; rw [this]; rfl
        · have := findE_none (r := insE (rmE r c) (c, now + min z'.d ex)) (c := x.f0) fun p hp => by
            rcases List.mem_cons.1 ((insE_perm _ _).mem_iff.1 hp) with rfl | hp
            · exact fun e2 => e e2.symm
            · exact h1 p (List.mem_filter.1 hp).1
          rw [e1]; unfold dueOf; rw [this]; rfl
  · obtain ⟨x, hx, hxc⟩ := h.all c' hc'
    exact ⟨_, List.mem_map_of_mem hx, by rw [hf0]; exact hxc⟩
theorem Rel.due {hs : List (BA × Hd)} {r : List En} {l : List One} (h : Rel hs r l) (hr : (r.map (·.1)).Nodup) (hst : r.Pairwise ltE) (hin : ∀ p ∈ r, (AL.get hs p.1).isSome = true) (hpos : ∀ p ∈ r, 0 ≤ p.2) (now : Int) :
    D l now (r.filter fun p => decide (p.2 ≤ now)) ∧ ∀ e ∈ r, msgR l now e = toM (msgAt hs now e) := by
  have hk : ∀ e ∈ r, ∃ x ∈ l, pr x = e ∧ (∃ y, AL.get hs e.1 = some y ∧ x.f1 = toM y.m) := fun e he => by
    obtain ⟨x, hx, hxc⟩ := h.all _ (hin e he)
    obtain ⟨y, h1, h2, _, h3⟩ := h.mem x hx
    have hd : dueOf r x.f0 = e.2 := by
      rw [hxc]
      rcases dueOf_cases r hr e.1 with ⟨a, h4, e1, _⟩ | ⟨h4, _⟩
      · have a1 := get_mem hr h4
        have a2 := get_mem hr he
        rw [a1] at a2
        injection a2 with a2
        rw [e1]; exact a2
      · exact absurd rfl (h4 e he)
    refine ⟨x, hx, ?_, y, by rw [← hxc]; exact h1, h2⟩
    unfold pr
    rw [h3, hd, hxc]
  refine ⟨⟨h.nd, hst.sublist List.filter_sublist, fun e he => ?_, fun x hx hd => ?_⟩, fun e he => ?_⟩
  · obtain ⟨h1, h2⟩ := List.mem_filter.1 he
    simp at h2
    obtain ⟨x, hx, hxe, _⟩ := hk e h1
    refine ⟨x, hx, hxe, ?_⟩
    have h3 : x.f3 = e.2 := congrArg Prod.snd hxe
    have := hpos e h1
    exact ⟨by omega, by omega⟩
  · obtain ⟨y, _, _, _, h3⟩ := h.mem x hx
    have hd' := hd
    unfold dueB at hd'
    rcases dueOf_cases r hr x.f0 with ⟨a, h4, e1, _⟩ | ⟨_, e1, _⟩
    · refine List.mem_filter.2 ⟨?_, decide_eq_true hd'.2⟩
      unfold pr
      rw [h3, e1]
      exact h4
    · rw [h3, e1] at hd'; omega
  · obtain ⟨x, hx, hxe, y, h1, h2⟩ := hk e he
    have h3 : e.1 = x.f0 := by rw [← hxe]; rfl
    unfold msgR msgAt
    rw [h3, getO_mem h.nd hx, ← h3, h1, h2]
    rfl
theorem Rel.after {hs : List (BA × Hd)} {r : List En} {l : List One} (h : Rel hs r l) (hh : (hs.map (·.1)).Nodup) (hr : (r.map (·.1)).Nodup) (hin : ∀ p ∈ r, (AL.get hs p.1).isSome = true) (hpos : ∀ p ∈ r, 0 ≤ p.2) (now : Int) :
    Rel (delsH hs (r.filter fun p => decide (p.2 ≤ now))) (r.filter fun p => decide (now < p.2)) (l.filter fun x => decide (¬ dueB now x)) := by
  have hnb : ∀ x ∈ l, dueB now x ↔ ∃ e ∈ r.filter (fun p => decide (p.2 ≤ now)), e.1 = x.f0 := fun x hx => by
    obtain ⟨y, _, _, _, h3⟩ := h.mem x hx
    constructor
    · intro hd
      unfold dueB at hd
      rcases dueOf_cases r hr x.f0 with ⟨a, h4, e1, _⟩ | ⟨_, e1, _⟩
      · exact ⟨_, List.mem_filter.2 ⟨h4, by simp; omega⟩, rfl⟩
      · rw [h3, e1] at hd; omega
    · rintro ⟨e, he, hec⟩
      obtain ⟨h1, h2⟩ := List.mem_filter.1 he
      simp at h2
      have := hpos e h1
      rcases dueOf_cases r hr x.f0 with ⟨a, h4, e1, _⟩ | ⟨h4, _⟩
      · have a1 := get_mem hr h4
        have a2 := get_mem hr h1
        rw [hec, a1] at a2
        injection a2 with a2
        have a3 : a = e.2 := a2
        unfold dueB
        rw [h3, e1]; omega
      · exact absurd hec (h4 e h1)
  refine ⟨h.nd.sublist (List.filter_sublist.map _), fun x hx => ?_, fun c hc => ?_, ?_⟩
  · obtain ⟨h1, h2⟩ := List.mem_filter.1 hx
    simp only [decide_eq_true_eq] at h2
    obtain ⟨y, h3, h4, h5, h6⟩ := h.mem x h1
    refine ⟨y, ?_, h4, h5, ?_⟩
    · rw [delsH_get hh, if_neg (fun e => h2 ((hnb x h1).2 e))]; exact h3
    · rw [h6]
      rcases dueOf_cases r hr x.f0 with ⟨a, h7, e1, _⟩ | ⟨h7, e1, _⟩
      · have hgt : now < a := by
          refine Int.not_le.1 fun hle => h2 ((hnb x h1).2 ⟨_, List.mem_filter.2 ⟨h7, by simpa using hle⟩, rfl⟩)
        have := findE_mem (r := r.filter fun p => decide (now < p.2)) (hr.sublist (List.filter_sublist.map _)) (List.mem_filter.2 ⟨h7, by simpa using hgt⟩)
        rw [e1]; unfold dueOf; rw [this]; rfl
      · have := findE_none (r := r.filter fun p => decide (now < p.2)) (c := x.f0) fun p hp => h7 p (List.mem_filter.1 hp).1
        rw [e1]; unfold dueOf; rw [this]; rfl
  · rw [delsH_get hh] at hc
    by_cases e : ∃ e ∈ r.filter (fun p => decide (p.2 ≤ now)), e.1 = c
    · rw [if_pos e] at hc; cases hc
    · rw [if_neg e] at hc
      obtain ⟨x, hx, hxc⟩ := h.all c hc
      refine ⟨x, List.mem_filter.2 ⟨hx, ?_⟩, hxc⟩
      simp only [decide_eq_true_eq]
      intro hd
      exact e (hxc ▸ (hnb x hx).1 hd)
  ·
    have key : ∀ (ks : List BA) (hs' : List (BA × Hd)) (l' : List One), (l'.map (·.f0)).Nodup → (hs'.map (·.1)).Nodup → (∀ c, c ∈ l'.map (·.f0) ↔ c ∈ hs'.map (·.1)) → l'.length = hs'.length := fun _ hs' l' h1 h2 h3 => by
      have := ((List.perm_ext_iff_of_nodup h1 h2).2 h3).length_eq
      simpa using this
    refine key [] _ _ (h.nd.sublist (List.filter_sublist.map _)) (delsH_nodup hh _) fun c => ?_
    have hget : c ∈ (delsH hs (r.filter fun p => decide (p.2 ≤ now))).map (·.1) ↔ (AL.get (delsH hs (r.filter fun p => decide (p.2 ≤ now))) c).isSome = true := AL.get_isSome.symm
    rw [hget, delsH_get hh]
    constructor
    · intro hc
      obtain ⟨x, hx, rfl⟩ := List.mem_map.1 hc
      obtain ⟨h1, h2⟩ := List.mem_filter.1 hx
      simp only [decide_eq_true_eq] at h2
      obtain ⟨y, h3, _⟩ := h.mem x h1
      rw [if_neg (fun e => h2 ((hnb x h1).2 e)), h3]; rfl
    · intro hc
      by_cases e : ∃ e ∈ r.filter (fun p => decide (p.2 ≤ now)), e.1 = c
      · rw [if_pos e] at hc; cases hc
      · rw [if_neg e] at hc
        obtain ⟨x, hx, rfl⟩ := h.all c hc
        refine List.mem_map_of_mem (List.mem_filter.2 ⟨hx, ?_⟩)
        simp only [decide_eq_true_eq]
        exact fun hd => e ((hnb x hx).1 hd)
end R22
end Go.Proofs.Ytegnmdnflmlioaa
