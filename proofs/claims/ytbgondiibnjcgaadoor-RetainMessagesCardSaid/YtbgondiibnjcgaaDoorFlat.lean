import Derived.Test.YtbgondiibnjcgaaDoorKd
import Derived.Shelf.GgSortFunc.RowK
import Derived.Shelf.GgSortFunc.InsertionK
namespace Go.Proofs.YtbgondiibnjcgaaDoor
open Go.RowKit Go.Sort Go.Proofs.YtbgondiibnjcgaaDoorW.PrintWords Go.Proofs.YtbgondiibnjcgaaDoorW.PrintLast
set_option maxRecDepth 10000
set_option linter.unusedVariables false
structure Flat {α : Type} (d : Kd α) (enc : α → List Value) : Prop where
  len : ∀ x, (enc x).length = d.sz
  M : ∀ {w : World} {base : Nat} {ok : Nat → Prop} {x cs}, d.M w base ok x cs ↔ cs = enc x
section
variable {α : Type} {enc : α → List Value} {k : Nat}
theorem reps_flat (hk : ∀ x, (enc x).length = k) : ∀ (ps : List α) (cs : List Value), Reps (fun x c => c = enc x) k ps cs ↔ cs = ps.flatMap enc := by
  intro ps
  induction ps with
  | nil => intro cs; unfold Reps; simp
  | cons p ps ih =>
    intro cs
    rw [List.flatMap_cons]
    constructor
    · rintro ⟨h1, h2⟩
      have e0 := h2 0 p rfl
      have hl : k ≤ cs.length := by rw [h1, List.length_cons, Nat.succ_mul]; omega
      rw [Nat.zero_mul, List.drop_zero] at e0
      have e1 := (ih (cs.drop k)).1 ⟨by rw [List.length_drop, h1, List.length_cons, Nat.succ_mul]; omega, fun j q hq => by
        have := h2 (j + 1) q (by simpa using hq)
        rw [List.drop_drop, show k + j * k = (j + 1) * k by rw [Nat.succ_mul]; omega]
        exact this⟩
      rw [← e0, ← e1, List.take_append_drop]
    · rintro rfl
      have e2 := (ih (ps.flatMap enc)).2 rfl
      refine ⟨by rw [List.length_append, hk, e2.1, List.length_cons, Nat.succ_mul]; omega, fun j q hq => ?_⟩
      cases j with
      | zero => simp at hq; subst hq; rw [Nat.zero_mul, List.drop_zero, List.take_append_of_le_length (by rw [hk]; omega), List.take_of_length_le (by rw [hk]; omega)]
      | succ j =>
        have := e2.2 j q (by simpa using hq)
        rw [← this, show (j + 1) * k = k + j * k by rw [Nat.succ_mul]; omega, ← List.drop_drop, List.drop_append_of_le_length (i := k) (by rw [hk]; omega), List.drop_of_length_le (i := k) (l := enc p) (by rw [hk]; omega), List.nil_append]
theorem flat_len (hk : ∀ x, (enc x).length = k) (xs : List α) : (xs.flatMap enc).length = xs.length * k := by
  induction xs with
  | nil => simp
  | cons a t ih => rw [List.flatMap_cons, List.length_append, hk, ih, List.length_cons, Nat.succ_mul]; omega
theorem flat_get [Inhabited α] (hk : ∀ x, (enc x).length = k) : ∀ (xs : List α) (t : Nat), t < xs.length * k → (xs.flatMap enc)[t]? = (enc xs[t / k]!)[t % k]? := by
  intro xs
  induction xs with
  | nil => intro t h; simp at h
  | cons a xs ih =>
    intro t h
    have hk0 : 0 < k := by
      rcases Nat.eq_zero_or_pos k with rfl | h'
      · simp at h
      · exact h'
    rw [List.flatMap_cons]
    by_cases ht : t < k
    · rw [List.getElem?_append_left (by rw [hk]; exact ht), Nat.div_eq_of_lt ht, Nat.mod_eq_of_lt ht]; rfl
    · obtain ⟨s, rfl⟩ : ∃ s, t = s + k := ⟨t - k, by omega⟩
      rw [List.getElem?_append_right (by rw [hk]; omega), hk, Nat.add_sub_cancel, Nat.add_div_right _ hk0, Nat.add_mod_right, ih s (by rw [List.length_cons, Nat.succ_mul] at h; omega)]
      rfl
theorem flatK_toList [Inhabited α] (hk : ∀ x, (enc x).length = k) (xs : List α) : (flatK enc k xs.toArray).toList = xs.flatMap enc := by
  apply List.ext_getElem?
  intro t
  by_cases ht : t < xs.length * k
  · rw [flat_get hk xs t ht]
    have hk0 : 0 < k := by
      rcases Nat.eq_zero_or_pos k with rfl | h'
      · simp at ht
      · exact h'
    have h1 : t % k < (enc xs[t / k]!).length := by rw [hk]; exact Nat.mod_lt _ hk0
    unfold flatK
    rw [Array.toList_map, List.getElem?_map, Array.toList_range]
    simp only [List.size_toArray]
    rw [List.getElem?_eq_getElem (by simpa using ht), List.getElem?_eq_getElem h1]
    simp only [List.getElem_range, Option.map_some, Option.some.injEq]
    rw [show xs.toArray[t / k]! = xs[t / k]! by simp]
    rw [getElem!_pos (enc xs[t / k]!) (t % k) h1]
  · rw [List.getElem?_eq_none (by rw [Array.length_toList, size_flatK]; simpa using ht), List.getElem?_eq_none (by rw [flat_len hk]; omega)]
end
section
variable {α : Type} {d : Kd α} {enc : α → List Value} {e base : Nat} {w w' : World} {v : Value} {xs : List α}
theorem Own.flat (F : Flat d enc) (h : Own d e base w v xs) : w.ownsRow base e d.sz v xs.length (xs.flatMap enc) := by
  obtain ⟨_, inner, ho, hr⟩ := h
  have : inner = xs.flatMap enc := (reps_flat F.len xs inner).1 (hr.imp_ fun p c hp => F.M.1 hp)
  rw [← this]; exact ho
theorem Own.of_flat (F : Flat d enc) (h : w.ownsRow base e d.sz v xs.length (xs.flatMap enc)) : Own d e base w v xs :=
  ⟨fun _ _ => trivial, _, h, ((reps_flat F.len xs _).2 rfl).imp_ fun p c hp => F.M.2 hp⟩
theorem Own.holds [Inhabited α] (F : Flat d enc) (h : Own d e base w v xs) (h0 : 0 < xs.length) (hs : 0 < d.sz) :
    ∃ g cap, v = .slice (some ⟨g, 0, none⟩) xs.length cap ∧ base ≤ g ∧ g < w.heap.size ∧ HoldsK enc d.sz w g 0 xs.toArray ∧
      ∀ (xs' : List α) (n : Nat) (os : Array Obj), xs'.length = xs.length → Own d e base (sortWorldK enc d.sz w g 0 n xs'.toArray os) v xs' ∧ Keep [g] w (sortWorldK enc d.sz w g 0 n xs'.toArray os) := by
  have ho := h.flat F
  obtain ⟨hl, ho | ⟨g, cap, cur, rfl, hb, hg, hc, hm, hz, ht⟩⟩ := ho
  · omega
  · have hlt : g < w.heap.size := (Array.getElem?_eq_some_iff.1 hg).1
    have hfl := flatK_toList F.len xs
    refine ⟨g, cap, rfl, hb, hlt, ?_, ?_⟩
    · intro j hj
      rw [size_flatK] at hj
      simp only [List.size_toArray] at hj
      have hj2 : j < cur.size := by rw [hz]; exact Nat.lt_of_lt_of_le hj (Nat.mul_le_mul_right _ hc)
      refine ⟨?_, ?_⟩
      · have e1 : (flatK enc d.sz xs.toArray)[j]? = cur[j]? := by
          rw [← Array.getElem?_toList, hfl, ← ht, List.getElem?_take_of_lt hj, Array.getElem?_toList]
        have e2 : (flatK enc d.sz xs.toArray)[j]! = cur[j] := by
          rw [Array.getElem?_eq_getElem hj2] at e1
          rw [getElem!_def, e1]
        rw [e2]
        simp [World.cell?, hg, hj2]
      · simp [World.frozen?, hg]
    · intro xs' n os hxl
      have hfl' := flatK_toList F.len xs'
      have hh : (sortWorldK enc d.sz w g 0 n xs'.toArray os).heap[g]? = some (.cells (putCells id 0 (flatK enc d.sz xs'.toArray) cur) e (0, 0)) := by
        show ((w.heap.modify g _) ++ os)[g]? = _
        rw [Array.getElem?_append_left (by simpa using hlt), Array.getElem?_modify, if_pos rfl, hg]
        rfl
      refine ⟨Own.of_flat F ⟨flat_len F.len xs', .inr ⟨g, cap, _, by rw [hxl], hb, hh, by omega, hm, ?_, ?_⟩⟩, ?_⟩
      · simp [putCells, hz]
      · rw [← hfl']
        apply List.ext_getElem?
        intro t
        by_cases h1 : t < xs'.length * d.sz
        · have h2 : t < cur.size := by rw [hz]; exact Nat.lt_of_lt_of_le h1 (Nat.mul_le_mul_right _ (by omega))
          have h3 : t < (flatK enc d.sz xs'.toArray).size := by simpa using h1
          rw [List.getElem?_take_of_lt h1, Array.getElem?_toList, Array.getElem?_toList, Array.getElem?_eq_getElem h3]
          unfold putCells
          rw [Array.getElem?_mapIdx, Array.getElem?_eq_getElem h2]
          simp only [Option.map_some, Option.some.injEq]
          rw [if_pos ⟨by omega, by simpa using h1⟩, Nat.sub_zero, getElem!_pos (flatK enc d.sz xs'.toArray) t h3]
          rfl
        · rw [List.getElem?_eq_none (by simp [putCells]; omega), List.getElem?_eq_none (by rw [Array.length_toList, size_flatK]; simpa using h1)]
      · refine ⟨rfl, rfl, rfl, ?_, fun q hq hS => ?_⟩
        · show w.heap.size ≤ ((w.heap.modify g _) ++ os).size
          simp
        · show ((w.heap.modify g _) ++ os)[q]? = _
          have hne : g ≠ q := fun e => hS (by simp [e])
          rw [Array.getElem?_append_left (by simpa using hq)]
          show (w.heap.modify g _)[q]? = _
          rw [Array.getElem?_modify, if_neg hne]
end
end Go.Proofs.YtbgondiibnjcgaaDoor
