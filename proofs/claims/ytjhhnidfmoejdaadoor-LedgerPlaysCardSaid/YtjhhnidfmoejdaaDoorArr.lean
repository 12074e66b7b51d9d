import Derived.Test.YtjhhnidfmoejdaaDoorMem
import Derived.RegionTactic
import Derived.BigRegion
import Derived.Deep.QuietTactic
import Derived.BigQuiet
namespace Go.Proofs.YtjhhnidfmoejdaaDoor
open Go.RowKit
set_option maxRecDepth 10000
set_option linter.unusedVariables false
set_option maxHeartbeats 1000000
def Arr (w : World) (b n : Nat) (d : Nat → Int) (T : TypeId) (rest : List Value) : Prop :=
  Blk w b (((List.range n).map fun i => Value.int .u32 (d i)) ++ rest).toArray T
def swp (d : Nat → Int) (i j : Nat) : Nat → Int := fun k => if k = i then d j else if k = j then d i else d k
def upd (d : Nat → Int) (i : Nat) (v : Int) : Nat → Int := fun k => if k = i then v else d k
theorem Arr.cell {w : World} {b n : Nat} {d : Nat → Int} {T : TypeId} {rest : List Value} (h : Arr w b n d T rest) {i : Nat} (hi : i < n) : w.cell? ⟨b, i, none⟩ = some (.int .u32 (d i)) := by
  rw [Blk.cell h i]
  simp [List.getElem?_append, hi]
theorem Arr.frozen {w : World} {b n : Nat} {d : Nat → Int} {T : TypeId} {rest : List Value} (h : Arr w b n d T rest) {i : Nat} (hi : i < n) : w.frozen? ⟨b, i, none⟩ = false :=
  Blk.frozen h i (by simp; omega)
theorem Arr.set {w : World} {b n : Nat} {d : Nat → Int} {T : TypeId} {rest : List Value} (h : Arr w b n d T rest) {i : Nat} (hi : i < n) (v : Int) : Arr (w.setCell ⟨b, i, none⟩ (.int .u32 v)) b n (upd d i v) T rest := by
  have := Blk.set h i (.int .u32 v)
  have e : ((((List.range n).map fun k => Value.int .u32 (d k)) ++ rest).toArray).setIfInBounds i (.int .u32 v) = (((List.range n).map fun k => Value.int .u32 (upd d i v k)) ++ rest).toArray := by
    apply Array.ext'
    simp only [Array.toList_setIfInBounds]
    rw [List.set_append_left _ _ (by simpa using hi)]
    congr 1
    apply List.ext_getElem?
    intro k
    simp only [List.getElem?_set, List.length_map, List.length_range, List.getElem?_map]
    by_cases hk : k < n
    · by_cases e : i = k
      · subst e; simp [hk, upd]
      · have e' : ¬ k = i := fun h => e h.symm
        rw [if_neg e]; simp [hk, upd, e']
    · by_cases e : i = k
      · omega
      · rw [if_neg e]; simp [hk]
  unfold Arr; rw [← e]; exact this
theorem Arr.swap {w : World} {b n : Nat} {d : Nat → Int} {T : TypeId} {rest : List Value} (h : Arr w b n d T rest) {i j : Nat} (hi : i < n) (hj : j < n) :
    Arr ((w.setCell ⟨b, i, none⟩ (.int .u32 (d j))).setCell ⟨b, j, none⟩ (.int .u32 (d i))) b n (swp d i j) T rest := by
  have e : upd (upd d i (d j)) j (d i) = swp d i j := by
    funext k
    unfold upd swp
    by_cases h1 : k = i
    · by_cases h2 : k = j
      · rw [if_pos h2, if_pos h1]; subst h1; rw [h2]
      · rw [if_neg h2, if_pos h1, if_pos h1]
    · by_cases h2 : k = j
      · rw [if_pos h2, if_neg h1, if_pos h2]
      · rw [if_neg h2, if_neg h1, if_neg h1, if_neg h2]
  rw [← e]
  exact (h.set hi _).set hj _
theorem Arr.drewN {w : World} {b n : Nat} {d : Nat → Int} {T : TypeId} {rest : List Value} (h : Arr w b n d T rest) (m : Nat) : Arr (w.drewN m) b n d T rest := h
theorem Arr.drew {w : World} {b n : Nat} {d : Nat → Int} {T : TypeId} {rest : List Value} (h : Arr w b n d T rest) : Arr w.drew b n d T rest := h
theorem Arr.keep {S : List Nat} {w w' : World} {b n : Nat} {d : Nat → Int} {T : TypeId} {rest : List Value} (h : Arr w b n d T rest) (hk : Keep S w w') (hS : b ∉ S) : Arr w' b n d T rest := Blk.keep h hk hS
theorem Arr.lt {w : World} {b n : Nat} {d : Nat → Int} {T : TypeId} {rest : List Value} (h : Arr w b n d T rest) : b < w.heap.size := Blk.lt h
inductive SwR (a b : Nat) (d : Nat → Int) : (Nat → Int) → Prop
  | refl : SwR a b d d
  | step (d' : Nat → Int) (i j : Nat) : SwR a b d d' → a ≤ i → i < b → a ≤ j → j < b → SwR a b d (swp d' i j)
theorem SwR.trans {a b : Nat} {d d' d'' : Nat → Int} (h : SwR a b d d') (h' : SwR a b d' d'') : SwR a b d d'' := by
  induction h' with
  | refl => exact h
  | step e i j _ h1 h2 h3 h4 ih => exact .step e i j ih h1 h2 h3 h4
theorem SwR.mono {a b a' b' : Nat} {d d' : Nat → Int} (h : SwR a b d d') (ha : a' ≤ a) (hb : b ≤ b') : SwR a' b' d d' := by
  induction h with
  | refl => exact .refl
  | step e i j _ h1 h2 h3 h4 ih => exact .step e i j ih (by omega) (by omega) (by omega) (by omega)
theorem SwR.one {a b : Nat} (d : Nat → Int) {i j : Nat} (h1 : a ≤ i) (h2 : i < b) (h3 : a ≤ j) (h4 : j < b) : SwR a b d (swp d i j) := .step d i j .refl h1 h2 h3 h4
theorem SwR.outside {a b : Nat} {d d' : Nat → Int} (h : SwR a b d d') {k : Nat} (hk : k < a ∨ b ≤ k) : d' k = d k := by
  induction h with
  | refl => rfl
  | step e i j _ h1 h2 h3 h4 ih => rw [← ih]; unfold swp; rw [if_neg (by omega), if_neg (by omega)]
theorem SwR.all {a b : Nat} {d d' : Nat → Int} (h : SwR a b d d') {p : Int → Prop} (hp : ∀ k, a ≤ k → k < b → p (d k)) : ∀ k, a ≤ k → k < b → p (d' k) := by
  induction h with
  | refl => exact hp
  | step e i j _ h1 h2 h3 h4 ih =>
    intro k ha hb
    unfold swp
    split
    · exact ih j h3 h4
    · split
      · exact ih i h1 h2
      · exact ih k ha hb
theorem swp_inj {d : Nat → Int} {n : Nat} (h : ∀ i j, i < n → j < n → d i = d j → i = j) {x y : Nat} (hx : x < n) (hy : y < n) : ∀ i j, i < n → j < n → swp d x y i = swp d x y j → i = j := by
  intro i j hi hj e
  unfold swp at e
  split at e <;> split at e <;> (try split at e) <;> (try split at e) <;> (have := h _ _ (by omega) (by omega) e; omega)
theorem SwR.inj {a b n : Nat} {d d' : Nat → Int} (h : SwR a b d d') (hb : b ≤ n) (hi : ∀ i j, i < n → j < n → d i = d j → i = j) : ∀ i j, i < n → j < n → d' i = d' j → i = j := by
  induction h with
  | refl => exact hi
  | step e i j _ h1 h2 h3 h4 ih => exact swp_inj ih (by omega) (by omega)
theorem SwR.mem {a b n : Nat} {d d' : Nat → Int} (h : SwR a b d d') (hb : b ≤ n) (x : Int) : (∃ k, k < n ∧ d' k = x) ↔ (∃ k, k < n ∧ d k = x) := by
  induction h with
  | refl => exact Iff.rfl
  | step e i j _ h1 h2 h3 h4 ih =>
    rw [← ih]
    constructor
    · rintro ⟨k, hk, hx⟩
      unfold swp at hx
      split at hx
      · exact ⟨j, by omega, hx⟩
      · split at hx
        · exact ⟨i, by omega, hx⟩
        · exact ⟨k, hk, hx⟩
    · rintro ⟨k, hk, hx⟩
      by_cases e1 : k = i
      · refine ⟨j, by omega, ?_⟩
        unfold swp
        subst e1
        by_cases e2 : j = k
        · rw [if_pos e2, e2]; exact hx
        · rw [if_neg e2, if_pos rfl]; exact hx
      · by_cases e2 : k = j
        · exact ⟨i, by omega, by unfold swp; simp; rw [← e2]; exact hx⟩
        · exact ⟨k, hk, by unfold swp; rw [if_neg e1, if_neg e2]; exact hx⟩
def Ris (d : Nat → Int) (a b : Nat) : Prop := ∀ i j, a ≤ i → i ≤ j → j < b → d i ≤ d j
end Go.Proofs.YtjhhnidfmoejdaaDoor
