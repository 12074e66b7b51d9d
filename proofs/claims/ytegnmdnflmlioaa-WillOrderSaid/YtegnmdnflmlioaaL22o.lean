/- WillOrder: the walk. -/
import Derived.Test.YtegnmdnflmlioaaRows
import Derived.Test.YtegnmdnflmlioaaChecked
import Derived.Test.YtegnmdnflmlioaaA22
import Derived.Test.YtegnmdnflmlioaaIn
import Derived.Test.YtegnmdnflmlioaaChr
import Derived.Deep.QuietTactic
import Derived.BigQuiet
namespace Go.Proofs.Ytegnmdnflmlioaa
open Go.RowKit Go.Shelf Go.Proofs.Ytegnmdnflmlioaa.PWillPlays Go.Proofs.YtegnmdnflmlioaaW.PrintWords Go.Proofs.YtegnmdnflmlioaaW.PrintLast
set_option maxRecDepth 10000
set_option linter.unusedVariables false
set_option maxHeartbeats 2000000

def dl (z : List Int) (i : Nat) : Int := z.getD i 0 % 50

structure OrdH (hs : List (BA × Hd)) (k : Nat) (z : List Int) : Prop where
  mem : ∀ p ∈ hs, ∃ i, i < k ∧ p.1 = ch i ∧ p.2.m.f5 = ch i ∧ p.2.d = dl z i
  get : ∀ i, i < k → (AL.get hs (ch i)).isSome = true
  len : hs.length = k
  nd : (hs.map (·.1)).Nodup

theorem OrdH.nil (z : List Int) : OrdH [] 0 z := ⟨by simp, by omega, rfl, by simp⟩

theorem mem_set_key {ν : Type} {hs : List (BA × ν)} {c : BA} {y : ν} {p : BA × ν} (h : p ∈ AL.set hs c y) : p = (c, y) ∨ p ∈ hs := by
  induction hs with
  | nil => simp [AL.set] at h; exact .inl h
  | cons a t ih =>
    obtain ⟨k, x⟩ := a
    simp only [AL.set] at h
    split at h
    · rename_i e
      rcases List.mem_cons.1 h with h | h
      · exact .inl (by rw [h, e])
      · exact .inr (List.mem_cons_of_mem _ h)
    · rcases List.mem_cons.1 h with h | h
      · exact .inr (by rw [h]; simp)
      · rcases ih h with h | h
        · exact .inl h
        · exact .inr (List.mem_cons_of_mem _ h)

theorem OrdH.step {hs : List (BA × Hd)} {k : Nat} {z : List Int} (h : OrdH hs k z) (hk : k < 20) (x : Hd) (h1 : x.m.f5 = ch k) (h2 : x.d = dl z k) : OrdH (AL.set hs (ch k) x) (k + 1) z := by
  have hno : (AL.get hs (ch k)).isSome = false := by
    cases hg : AL.get hs (ch k) with
    | none => rfl
    | some y =>
      obtain ⟨i, hi, e, _⟩ := h.mem _ (get_mem2 hg)
      have := ch_inj (by omega) (by omega) e
      omega
  refine ⟨fun p hp => ?_, fun i hi => ?_, ?_, AL.nodup_set h.nd _ _⟩
  · rcases mem_set_key hp with rfl | hp
    · exact ⟨k, by omega, rfl, h1, h2⟩
    · obtain ⟨i, hi, r⟩ := h.mem p hp
      exact ⟨i, by omega, r⟩
  · by_cases e : i = k
    · subst e
      rw [AL.get_set, if_pos rfl]; rfl
    · exact set_isSome (h.get i (by omega))
  · rw [AL.length_set, hno, h.len]; simp

theorem OrdH.at {hs : List (BA × Hd)} {k : Nat} {z : List Int} (h : OrdH hs k z) (hk : k ≤ 20) {i : Nat} (hi : i < k) : ∃ x, AL.get hs (ch i) = some x ∧ x.m.f5 = ch i ∧ x.d = dl z i := by
  cases hg : AL.get hs (ch i) with
  | none => have := h.get i hi; rw [hg] at this; cases this
  | some y =>
    obtain ⟨j, hj, e, h1, h2⟩ := h.mem _ (get_mem2 hg)
    have := ch_inj (by omega) (by omega) e
    subst this
    exact ⟨y, rfl, h1, h2⟩

theorem get_mem' {ν : Type} {l : List (BA × ν)} (h : (l.map (·.1)).Nodup) {p : BA × ν} (hp : p ∈ l) : AL.get l p.1 = some p.2 := by
  induction l with
  | nil => simp at hp
  | cons a t ih =>
    obtain ⟨k, x⟩ := a
    simp only [List.map_cons, List.nodup_cons] at h
    simp only [AL.get]
    rcases List.mem_cons.1 hp with rfl | hp
    · simp
    · have : p.1 ≠ k := fun e => h.1 (e ▸ List.mem_map_of_mem hp)
      rw [if_neg this]
      exact ih h.2 hp

theorem OrdH.gone {hs : List (BA × Hd)} {k : Nat} {z : List Int} (h : OrdH hs k z) {ds : List En} (hd : ∀ i, i < k → ∃ e ∈ ds, e.1 = ch i) : delsH hs ds = [] := by
  cases he : delsH hs ds with
  | nil => rfl
  | cons p t =>
    have hp : p ∈ delsH hs ds := by rw [he]; simp
    obtain ⟨i, hi, e, _⟩ := h.mem p (delsH_mem hp)
    obtain ⟨q, hq, e2⟩ := hd i hi
    have h1 := delsH_get h.nd ds p.1
    rw [if_pos ⟨q, hq, by rw [e2, e]⟩] at h1
    rw [get_mem' (delsH_nodup h.nd ds) hp] at h1
    cases h1

structure OrdR (r : List En) (j n : Nat) (z : List Int) : Prop where
  mem : ∀ e ∈ r, ∃ i, j ≤ i ∧ i < n ∧ e = (ch i, dl z i)
  all : ∀ i, j ≤ i → i < n → (ch i, dl z i) ∈ r
  len : r.length = n - j

theorem OrdR.nil (n : Nat) (z : List Int) : OrdR [] n n z := ⟨by simp, by omega, by simp⟩

theorem OrdR.step {r : List En} {j n : Nat} {z : List Int} (h : OrdR r (j + 1) n z) (hj : j < n) (hn : n ≤ 20) : OrdR (insE (rmE r (ch j)) (ch j, dl z j)) j n z := by
  have hrm : rmE r (ch j) = r := by
    refine List.filter_eq_self.2 fun p hp => ?_
    obtain ⟨i, h1, h2, rfl⟩ := h.mem p hp
    simp only [ne_eq, decide_eq_true_eq]
    intro e
    have := ch_inj (by omega) (by omega) e
    omega
  rw [hrm]
  refine ⟨fun e he => ?_, fun i h1 h2 => ?_, ?_⟩
  · rcases List.mem_cons.1 ((insE_perm _ _).mem_iff.1 he) with rfl | he
    · exact ⟨j, Nat.le_refl _, hj, rfl⟩
    · obtain ⟨i, h1, h2, h3⟩ := h.mem e he
      exact ⟨i, by omega, h2, h3⟩
  · refine (insE_perm _ _).mem_iff.2 ?_
    by_cases e : i = j
    · subst e; simp
    · exact List.mem_cons_of_mem _ (h.all i (by omega) h2)
  · rw [ins_len, h.len]; omega

theorem Mt.sorted {W w : World} {n b : Nat} {r : List En} {K : Nat} (h : Mt W w n b r K) : r.Pairwise ltE := by
  obtain ⟨l, h1, h2, h3, h4, h5, h6⟩ := h.ex
  exact h4.2

theorem OrdR.lt {r : List En} {n : Nat} {z : List Int} (h : OrdR r 0 n z) (hs : r.Pairwise ltE) (hn : n ≤ 20) {i : Nat} (hi : i + 1 < r.length) :
    ∃ a b, a < n ∧ b < n ∧ r[i] = (ch a, dl z a) ∧ r[i + 1] = (ch b, dl z b) ∧ (dl z a < dl z b ∨ dl z a = dl z b ∧ a < b) := by
  obtain ⟨a, _, ha, ea⟩ := h.mem _ (List.getElem_mem (l := r) (n := i) (by omega))
  obtain ⟨b, _, hb, eb⟩ := h.mem _ (List.getElem_mem hi)
  refine ⟨a, b, ha, hb, ea, eb, ?_⟩
  have := List.pairwise_iff_getElem.1 hs i (i + 1) (by omega) hi (by omega)
  rw [ea, eb] at this
  rcases this with h | h
  · exact .inl h
  · exact .inr ⟨h.1, ch_lt (by omega) (by omega) h.2⟩

theorem dl_bd (z : List Int) (i : Nat) : 0 ≤ dl z i ∧ dl z i ≤ 49 := by unfold dl; omega
end Go.Proofs.Ytegnmdnflmlioaa
