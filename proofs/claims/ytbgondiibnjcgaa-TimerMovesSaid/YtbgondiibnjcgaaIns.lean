/- Lists of entries: what a set leaves. -/
import Derived.Test.YtbgondiibnjcgaaM18
namespace Go.Proofs.Ytbgondiibnjcgaa
open Go.RowKit
set_option maxRecDepth 10000
set_option linter.unusedVariables false

theorem Mt.nodup {W w : World} {n b : Nat} {r : List En} {K : Nat} (h : Mt W w n b r K) : (r.map (·.1)).Nodup := by
  obtain ⟨l, h1, h2, h3, h4, h5, h6⟩ := h.ex
  exact (h4.1.map (·.1)).nodup_iff.2 h1.2.nodup

theorem ins_length {r : List En} (h : (r.map (·.1)).Nodup) (k : BA) (a : Int) : (insE (rmE r k) (k, a)).length = if (AL.get r k).isSome then r.length else r.length + 1 := by
  rw [ins_len, ← del_filter h, AL.length_del]
  cases hg : (AL.get r k).isSome
  · rfl
  · have : r ≠ [] := by rintro rfl; simp [AL.get] at hg
    have := List.length_pos_iff.2 this
    simp only [if_true]; omega

theorem ins_mem {r : List En} {k : BA} {a : Int} {p : En} : p ∈ insE (rmE r k) (k, a) ↔ p = (k, a) ∨ (p ∈ r ∧ p.1 ≠ k) := by
  rw [(insE_perm _ _).mem_iff, List.mem_cons]
  unfold rmE
  rw [List.mem_filter]
  simp

theorem ins_rm (r : List En) (k : BA) (a : Int) : rmE (insE (rmE r k) (k, a)) k = rmE r k := by
  have h : ∀ (l : List En), (∀ p ∈ l, p.1 ≠ k) → rmE (insE l (k, a)) k = l := by
    intro l
    induction l with
    | nil => intro _; simp [insE, rmE]
    | cons e t ih =>
      intro hl
      have he := hl e (by simp)
      have ht := ih (fun p hp => hl p (List.mem_cons_of_mem _ hp))
      have hf : rmE t k = t := List.filter_eq_self.2 (fun p hp => by have := hl p (List.mem_cons_of_mem _ hp); simpa using this)
      unfold insE
      split
      · unfold rmE at *
        rw [List.filter_cons_of_neg (by simp), List.filter_cons_of_pos (by simpa using he), hf]
      · unfold rmE at *
        rw [List.filter_cons_of_pos (by simpa using he), ht]
  exact h _ (fun p hp => by have := (List.mem_filter.1 hp).2; simpa using this)

theorem ins_twice (r : List En) (k : BA) (a b : Int) : insE (rmE (insE (rmE r k) (k, a)) k) (k, b) = insE (rmE r k) (k, b) := by rw [ins_rm]

theorem get_some_iff {r : List En} (k : BA) : (AL.get r k).isSome = true ↔ ∃ p ∈ r, p.1 = k := by
  rw [AL.get_isSome]
  unfold AL.keys
  rw [List.mem_map]

end Go.Proofs.Ytbgondiibnjcgaa
