/- The document's answer for layer 13 as plain lists: what the printed functions give, and how it goes with the pairs that package ids holds. -/
import Derived.Test.YtfnleddabfpkgaaPIdsPlaysx2
import Derived.Test.YtfnleddabfpkgaaL13
import Derived.Test.YtfnleddabfpkgaaSorted
namespace Go.Proofs.Ytfnleddabfpkgaa
open Go.RowKit Go.Proofs.Ytfnleddabfpkgaa.PIdsPlays Go.Proofs.YtfnleddabfpkgaaW.PrintWords
set_option maxRecDepth 10000
set_option linter.unusedVariables false
set_option maxHeartbeats 1000000

namespace R13
def put : List Int → Int → List Int
  | [], n => [n]
  | x :: t, n => if n < x then n :: x :: t else x :: put t n

theorem rd_at (l : List Int) (i : Nat) (h : i < l.length) : rd l (i : Int) = l[i] := by
  unfold rd; simp [List.getD, h]

theorem has_l0 (l : List Int) (id : Int) (hl : l.length < 1000000) : ∀ (d k i : Nat), l.length - i = d → i ≤ l.length → d < k → switchboardref13_Has.l0 k id l (l.length : Int) (i : Int) = some (decide (id ∈ l.drop i)) := by
  intro d
  induction d with
  | zero =>
    intro k i h1 h2 h3
    obtain ⟨k, rfl⟩ : ∃ m, k = m + 1 := ⟨k - 1, by omega⟩
    simp only [switchboardref13_Has.l0]
    rw [if_neg (by omega), List.drop_of_length_le (by omega)]
    rfl
  | succ d ih =>
    intro k i h1 h2 h3
    obtain ⟨k, rfl⟩ : ∃ m, k = m + 1 := ⟨k - 1, by omega⟩
    have hi : i < l.length := by omega
    have e : wrap64 ((i : Int) + 1) = ((i + 1 : Nat) : Int) := by unfold wrap64; omega
    simp only [switchboardref13_Has.l0]
    rw [if_pos (by omega), if_pos (by omega), if_pos (by omega), rd_at l i hi, e, ih k (i + 1) (by omega) (by omega) (by omega)]
    have hd := List.drop_eq_getElem_cons hi
    by_cases hx : l[i] = id
    · rw [if_pos hx, hd]; simp [hx]
    · rw [if_neg hx, hd]
      congr 1
      rw [decide_eq_decide, List.mem_cons]
      exact ⟨.inr, fun h => h.elim (fun e => absurd e.symm hx) (fun e => e)⟩

theorem has_f (l : List Int) (a b id : Int) (hl : l.length < 1000000) (k : Nat) (hk : l.length < k) : switchboardref13_Has.f k l a b id = some (decide (id ∈ l)) := by
  have := has_l0 l id hl l.length k 0 (by omega) (by omega) hk
  unfold switchboardref13_Has.f
  simpa using this

def putR (l : List Int) (done : Bool) (id : Int) : List Int := if done then l else put l id

theorem put_l0 (l : List Int) (id : Int) (hl : l.length < 1000000) : ∀ (d k i : Nat) (out : List Int) (done : Bool), l.length - i = d → i ≤ l.length → d < k → out.length ≤ i + done.toNat →
    switchboardref13_put.l0 k id out done l (l.length : Int) (i : Int) = some (out ++ putR (l.drop i) done id) := by
  intro d
  induction d with
  | zero =>
    intro k i out done h1 h2 h3 h4
    obtain ⟨k, rfl⟩ : ∃ m, k = m + 1 := ⟨k - 1, by omega⟩
    simp only [switchboardref13_put.l0]
    rw [if_neg (by omega), List.drop_of_length_le (by omega)]
    cases done
    · simp at h4
      rw [if_neg (by simp), if_pos (by omega)]; rfl
    · rw [if_pos rfl]; simp [putR]
  | succ d ih =>
    intro k i out done h1 h2 h3 h4
    obtain ⟨k, rfl⟩ : ∃ m, k = m + 1 := ⟨k - 1, by omega⟩
    have hi : i < l.length := by omega
    have e : wrap64 ((i : Int) + 1) = ((i + 1 : Nat) : Int) := by unfold wrap64; omega
    have hd := List.drop_eq_getElem_cons hi
    simp only [switchboardref13_put.l0]
    rw [if_pos (by omega), if_pos (by omega), if_pos (by omega), rd_at l i hi, e]
    cases done
    · simp at h4
      rw [if_neg (by simp)]
      by_cases hx : l[i] > id
      · rw [if_pos hx, if_pos (by omega)]
        simp only [Option.bind_some]
        rw [if_pos (by simp; omega), ih k (i + 1) _ true (by omega) (by omega) (by omega) (by simp at h4 ⊢; omega), hd]
        simp [putR, put, hx]
      · rw [if_neg hx, if_pos (by omega), ih k (i + 1) _ false (by omega) (by omega) (by omega) (by simp; omega), hd]
        simp [putR, put, show ¬ id < l[i] from hx]
    · simp at h4
      rw [if_pos rfl, if_pos (by omega), ih k (i + 1) _ true (by omega) (by omega) (by omega) (by simp; omega), hd]
      simp [putR]

theorem put_f (l : List Int) (id : Int) (hl : l.length < 1000000) (k : Nat) (hk : l.length < k) : switchboardref13_put.f k l id = some (put l id) := by
  have := put_l0 l id hl l.length k 0 [] false (by omega) (by omega) hk (by simp)
  unfold switchboardref13_put.f
  simpa [putR] using this

theorem take_f (l : List Int) (a b id : Int) (hl : l.length < 1000000) (k : Nat) (hk : l.length + 1 < k) :
    switchboardref13_Take.f k l a b id = some (if id < 1 ∨ b < id then (l, a, b, 5) else if id ∈ l then (l, a, b, 8) else (put l id, a, b, 0)) := by
  obtain ⟨k, rfl⟩ : ∃ m, k = m + 1 := ⟨k - 1, by omega⟩
  unfold switchboardref13_Take.f
  by_cases h1 : id < 1
  · rw [if_pos h1, if_pos (.inl h1)]; simp [switchboardref13_Take.j0]
  · rw [if_neg h1]
    by_cases h2 : b < id
    · rw [if_pos (.inr h2), show decide (id > b) = true from decide_eq_true h2]; simp [switchboardref13_Take.j0]
    · rw [if_neg (by omega), show decide (id > b) = false from decide_eq_false h2]
      simp only [switchboardref13_Take.j0]
      rw [if_neg (by simp), has_f l a b id hl k (by omega), put_f l id hl k (by omega)]
      simp only [Option.bind_some]
      by_cases h3 : id ∈ l <;> simp [h3]

theorem free_l0 (l : List Int) (id : Int) (m : List Int) (a b : Int) (hl : l.length < 1000000) : ∀ (d k i : Nat) (out : List Int), l.length - i = d → i ≤ l.length → d < k → out.length ≤ i →
    switchboardref13_Free.l0 k id out l (l.length : Int) (i : Int) m a b = some (out ++ (l.drop i).filter (fun x => x != id), a, b, 0) := by
  intro d
  induction d with
  | zero =>
    intro k i out h1 h2 h3 h4
    obtain ⟨k, rfl⟩ : ∃ m, k = m + 1 := ⟨k - 1, by omega⟩
    simp only [switchboardref13_Free.l0]
    rw [if_neg (by omega), List.drop_of_length_le (by omega)]
    simp
  | succ d ih =>
    intro k i out h1 h2 h3 h4
    obtain ⟨k, rfl⟩ : ∃ m, k = m + 1 := ⟨k - 1, by omega⟩
    have hi : i < l.length := by omega
    have e : wrap64 ((i : Int) + 1) = ((i + 1 : Nat) : Int) := by unfold wrap64; omega
    have hd := List.drop_eq_getElem_cons hi
    simp only [switchboardref13_Free.l0]
    rw [if_pos (by omega), if_pos (by omega), if_pos (by omega), rd_at l i hi, e]
    by_cases hx : l[i] = id
    · rw [if_pos hx, ih k (i + 1) _ (by omega) (by omega) (by omega) (by omega), hd]
      simp [hx]
    · rw [if_neg hx, if_pos (by omega), ih k (i + 1) _ (by omega) (by omega) (by omega) (by simp; omega), hd, List.filter_cons_of_pos (by simpa using hx)]
      simp only [List.append_assoc, List.singleton_append]

theorem free_f (l : List Int) (a b id : Int) (hl : l.length < 1000000) (k : Nat) (hk : l.length < k) :
    switchboardref13_Free.f k l a b id = some (if id ∈ l then (l.filter (fun x => x != id), a, b, 0) else (l, a, b, 7)) := by
  unfold switchboardref13_Free.f
  rw [has_f l a b id hl k hk]
  simp only [Option.bind_some]
  by_cases h : id ∈ l
  · have := free_l0 l id l a b hl l.length k 0 [] (by omega) (by omega) hk (by simp)
    simp only [h, decide_true, if_true]
    simpa using this
  · simp [h]

theorem step_mod {most m : Int} (h1 : 1 ≤ most) (h0 : 0 ≤ m) : Ids.step most (m % most + 1) = (m + 1) % most + 1 := by
  have r0 := Int.emod_nonneg m (show most ≠ 0 by omega)
  have r1 := Int.emod_lt_of_pos m (show 0 < most by omega)
  have e : (m + 1) % most = (m % most + 1) % most := by rw [Int.add_emod, Int.add_emod (m % most)]; simp
  rw [e]
  unfold Ids.step
  by_cases h : most < m % most + 1 + 1
  · rw [if_pos h, show m % most + 1 = most by omega, Int.emod_self]; rfl
  · rw [if_neg h, Int.emod_eq_of_lt (a := m % most + 1) (by omega) (by omega)]

theorem next_l0 {used : List (Int × Int)} {most y x : Int} {n : Nat} (hs : Ids.Seek used most x y n) (l : List Int) (last : Int) (hu : ∀ z, Ids.has used z = decide (z ∈ l)) (hl : l.length < 100000) (h1 : 1 ≤ most) (h2 : most ≤ 65535) (h3 : 0 ≤ last) (h4 : last ≤ most) :
    ∀ (i k : Nat), 1 ≤ i → i + n ≤ l.length + 1 → (i : Int) + n ≤ most → Ids.step most x = (last + i - 1) % most + 1 → l.length + 2 * n + 2 < k →
      switchboardref13_Next.l0 k (i : Int) l last most = some (put l y, y, most, y) := by
  induction hs with
  | here x hx =>
    intro i k hi1 hi2 hi3 hst hk
    obtain ⟨k, rfl⟩ : ∃ m, k = m + 1 + 1 := ⟨k - 2, by omega⟩
    have c1 : (i : Int) ≤ (l.length : Int) + 1 := by omega
    have c2 : ¬ most = 0 := by omega
    have c3 : decide ((i : Int) ≤ most) = true := decide_eq_true (by omega)
    have hkl : l.length < k := by omega
    have hl6 : l.length < 1000000 := by omega
    have w1 : wrap64 ((l.length : Int) + 1) = (l.length : Int) + 1 := by unfold wrap64; omega
    have w2 : wrap64 (last + i) = last + i := by unfold wrap64; omega
    have w3 : wrap64 (last + i - 1) = last + i - 1 := by unfold wrap64; omega
    have tm : Int.tmod (last + i - 1) most = (last + i - 1) % most := Int.tmod_eq_emod_of_nonneg (by omega)
    have r0 := Int.emod_nonneg (last + i - 1) (show most ≠ 0 by omega)
    have r1 := Int.emod_lt_of_pos (last + i - 1) (show 0 < most by omega)
    have w4 : wrap64 ((last + i - 1) % most + 1) = (last + i - 1) % most + 1 := by unfold wrap64; omega
    simp only [switchboardref13_Next.l0, switchboardref13_Next.j1]
    rw [w1, if_pos c1, c3]
    simp only [if_true]
    rw [if_neg c2, w2, w3, tm, w4, ← hst, has_f l last most _ hl6 k hkl, put_f l _ hl6 k hkl]
    rw [hu] at hx
    simp only [Option.bind_some, hx, Bool.false_eq_true, if_false]
  | on x y n hx hs ih =>
    intro i k hi1 hi2 hi3 hst hk
    obtain ⟨k, rfl⟩ : ∃ m, k = m + 1 + 1 := ⟨k - 2, by omega⟩
    have c1 : (i : Int) ≤ (l.length : Int) + 1 := by omega
    have c2 : ¬ most = 0 := by omega
    have c3 : decide ((i : Int) ≤ most) = true := decide_eq_true (by omega)
    have hkl : l.length < k := by omega
    have hl6 : l.length < 1000000 := by omega
    have w1 : wrap64 ((l.length : Int) + 1) = (l.length : Int) + 1 := by unfold wrap64; omega
    have w2 : wrap64 (last + i) = last + i := by unfold wrap64; omega
    have w3 : wrap64 (last + i - 1) = last + i - 1 := by unfold wrap64; omega
    have tm : Int.tmod (last + i - 1) most = (last + i - 1) % most := Int.tmod_eq_emod_of_nonneg (by omega)
    have r0 := Int.emod_nonneg (last + i - 1) (show most ≠ 0 by omega)
    have r1 := Int.emod_lt_of_pos (last + i - 1) (show 0 < most by omega)
    have w4 : wrap64 ((last + i - 1) % most + 1) = (last + i - 1) % most + 1 := by unfold wrap64; omega
    have w5 : wrap64 ((i : Int) + 1) = ((i + 1 : Nat) : Int) := by unfold wrap64; omega
    simp only [switchboardref13_Next.l0, switchboardref13_Next.j1]
    rw [w1, if_pos c1, c3]
    simp only [if_true]
    rw [if_neg c2, w2, w3, tm, w4, ← hst, has_f l last most _ hl6 k hkl]
    rw [hu] at hx
    simp only [Option.bind_some, hx, if_true, w5]
    clear w1 w2 w3 w4 w5 tm c3
    refine ih (i + 1) k (by omega) (by omega) (by omega) ?_ (by omega)
    rw [hst, step_mod h1 (by omega)]
    congr 1; congr 1; omega

theorem next_f {used : List (Int × Int)} {most y last : Int} {n : Nat} (hs : Ids.Seek used most last y n) (l : List Int) (hu : ∀ z, Ids.has used z = decide (z ∈ l)) (hl : l.length < 100000) (h1 : 1 ≤ most) (h2 : most ≤ 65535) (h3 : 0 ≤ last) (h4 : last ≤ most)
    (hn : n ≤ l.length) (hn2 : (n : Int) < most) (k : Nat) (hk : l.length + 2 * n + 2 < k) : switchboardref13_Next.f k l last most = some (put l y, y, most, y) := by
  unfold switchboardref13_Next.f
  refine next_l0 hs l last hu hl h1 h2 h3 h4 1 k (by omega) (by omega) (by omega) ?_ hk
  unfold Ids.step
  by_cases h : most < last + 1
  · rw [if_pos h, show last + ((1 : Nat) : Int) - 1 = most by omega, Int.emod_self]; rfl
  · rw [if_neg h, show last + ((1 : Nat) : Int) - 1 = last by omega, Int.emod_eq_of_lt (by omega) (by omega)]

/-- All are in use: none is given. -/
theorem full_l0 (l : List Int) (last most : Int) (hu : ∀ z, 1 ≤ z → z ≤ most → z ∈ l) (hl : l.length < 100000) (h1 : 1 ≤ most) (h2 : most ≤ 65535) (h3 : 0 ≤ last) (h4 : last ≤ most) (h5 : most ≤ l.length) :
    ∀ (d i k : Nat), (most : Int) + 1 - i = d → 1 ≤ i → l.length + 2 * d + 2 < k → switchboardref13_Next.l0 k (i : Int) l last most = some (l, last, most, 0) := by
  intro d
  induction d with
  | zero =>
    intro i k hd hi hk
    obtain ⟨k, rfl⟩ : ∃ m, k = m + 1 + 1 := ⟨k - 2, by omega⟩
    have w1 : wrap64 ((l.length : Int) + 1) = (l.length : Int) + 1 := by unfold wrap64; omega
    simp only [switchboardref13_Next.l0, switchboardref13_Next.j1]
    rw [w1]
    have e : decide ((i : Int) ≤ most) = false := decide_eq_false (by omega)
    rw [e]
    split <;> simp
  | succ d ih =>
    intro i k hd hi hk
    obtain ⟨k, rfl⟩ : ∃ m, k = m + 1 + 1 := ⟨k - 2, by omega⟩
    have c1 : (i : Int) ≤ (l.length : Int) + 1 := by omega
    have c2 : ¬ most = 0 := by omega
    have c3 : decide ((i : Int) ≤ most) = true := decide_eq_true (by omega)
    have hkl : l.length < k := by omega
    have hl6 : l.length < 1000000 := by omega
    have w1 : wrap64 ((l.length : Int) + 1) = (l.length : Int) + 1 := by unfold wrap64; omega
    have w2 : wrap64 (last + i) = last + i := by unfold wrap64; omega
    have w3 : wrap64 (last + i - 1) = last + i - 1 := by unfold wrap64; omega
    have tm : Int.tmod (last + i - 1) most = (last + i - 1) % most := Int.tmod_eq_emod_of_nonneg (by omega)
    have r0 := Int.emod_nonneg (last + i - 1) (show most ≠ 0 by omega)
    have r1 := Int.emod_lt_of_pos (last + i - 1) (show 0 < most by omega)
    have w4 : wrap64 ((last + i - 1) % most + 1) = (last + i - 1) % most + 1 := by unfold wrap64; omega
    have w5 : wrap64 ((i : Int) + 1) = ((i + 1 : Nat) : Int) := by unfold wrap64; omega
    simp only [switchboardref13_Next.l0, switchboardref13_Next.j1]
    rw [w1, if_pos c1, c3]
    simp only [if_true]
    rw [if_neg c2, w2, w3, tm, w4, has_f l last most _ hl6 k hkl]
    have hin0 : 1 ≤ (last + i - 1) % most + 1 ∧ (last + i - 1) % most + 1 ≤ most := ⟨by clear w1 w2 w3 w4 w5 tm c3; omega, by clear w1 w2 w3 w4 w5 tm c3; omega⟩
    have hin : decide ((last + i - 1) % most + 1 ∈ l) = true := decide_eq_true (hu _ hin0.1 hin0.2)
    simp only [Option.bind_some, hin, if_true, w5]
    clear w1 w2 w3 w4 w5 tm c3 hin
    exact ih (i + 1) k (by omega) (by omega) (by omega)

theorem full_f (l : List Int) (last most : Int) (hu : ∀ z, 1 ≤ z → z ≤ most → z ∈ l) (hl : l.length < 100000) (h1 : 1 ≤ most) (h2 : most ≤ 65535) (h3 : 0 ≤ last) (h4 : last ≤ most) (h5 : most ≤ l.length) (k : Nat) (hk : l.length + 2 * most.toNat + 2 < k) :
    switchboardref13_Next.f k l last most = some (l, last, most, 0) :=
  full_l0 l last most hu hl h1 h2 h3 h4 h5 most.toNat 1 k (by omega) (by omega) hk

/-- The i-th behind x. -/
def walk (most x : Int) : Nat → Int
  | 0 => x
  | n + 1 => Ids.step most (walk most x n)

theorem walk_mod {most x : Int} (h1 : 1 ≤ most) (h3 : 0 ≤ x) (h4 : x ≤ most) (n : Nat) : walk most x (n + 1) = (x + n) % most + 1 := by
  induction n with
  | zero =>
    simp only [walk]
    unfold Ids.step
    by_cases h : most < x + 1
    · rw [if_pos h, show x + ((0 : Nat) : Int) = most by omega, Int.emod_self]; rfl
    · rw [if_neg h, show x + ((0 : Nat) : Int) = x by omega, Int.emod_eq_of_lt (by omega) (by omega)]
  | succ n ih =>
    have e : walk most x (n + 1 + 1) = Ids.step most (walk most x (n + 1)) := rfl
    rw [e, ih, step_mod h1 (by omega)]
    congr 1; congr 1; omega

theorem walk_step (most x : Int) (n : Nat) : walk most (Ids.step most x) n = walk most x (n + 1) := by
  induction n with
  | zero => rfl
  | succ n ih => simp only [walk] at ih ⊢; rw [ih]

theorem seek_or {used : List (Int × Int)} {most : Int} : ∀ (n : Nat) (x : Int), (∃ y m, m ≤ n ∧ Ids.Seek used most x y m) ∨ (∀ i, i ≤ n → Ids.has used (walk most x (i + 1)) = true) := by
  intro n
  induction n with
  | zero =>
    intro x
    cases h : Ids.has used (Ids.step most x) with
    | false => exact .inl ⟨_, 0, Nat.le_refl _, Ids.Seek.here x h⟩
    | true => exact .inr fun i hi => by obtain rfl : i = 0 := by omega
                                        exact h
  | succ n ih =>
    intro x
    cases h : Ids.has used (Ids.step most x) with
    | false => exact .inl ⟨_, 0, by omega, Ids.Seek.here x h⟩
    | true =>
      rcases ih (Ids.step most x) with ⟨y, m, hm, hs⟩ | hall
      · exact .inl ⟨y, m + 1, by omega, Ids.Seek.on x y m h hs⟩
      · refine .inr fun i hi => ?_
        cases i with
        | zero => exact h
        | succ i => rw [← walk_step]; exact hall i (by omega)

theorem mod_inj {most x : Int} (h1 : 1 ≤ most) {i j : Nat} (hij : i < j) (hj : (j : Int) - i < most) : (x + i) % most ≠ (x + j) % most := by
  intro e
  have h := Int.emod_emod_of_dvd (x + j - (x + i)) (Int.dvd_refl most)
  have h2 : (x + j - (x + i)) % most = 0 := by
    rw [Int.sub_emod, e]; simp
  rw [show x + j - (x + i) = (j : Int) - i by omega, Int.emod_eq_of_lt (by omega) hj] at h2
  omega

/-- While not all are in use one is found, behind no more than are in use. -/
theorem seek_some {used : List (Int × Int)} {most x : Int} {l : List Int} (hu : ∀ z, Ids.has used z = decide (z ∈ l)) (h1 : 1 ≤ most) (h3 : 0 ≤ x) (h4 : x ≤ most) (hl : (l.length : Int) < most) : ∃ y n, n ≤ l.length ∧ Ids.Seek used most x y n := by
  rcases seek_or (used := used) (most := most) l.length x with ⟨y, m, hm, hs⟩ | hall
  · exact ⟨y, m, hm, hs⟩
  · exfalso
    have hnd : ((List.range (l.length + 1)).map fun i => walk most x (i + 1)).Nodup := by
      refine List.pairwise_map.2 (List.pairwise_lt_range.imp_of_mem fun {i j} hi hj hij e => ?_)
      have hi' := List.mem_range.1 hi
      have hj' := List.mem_range.1 hj
      rw [walk_mod h1 h3 h4, walk_mod h1 h3 h4] at e
      exact mod_inj (x := x) h1 hij (by omega) (by omega)
    have := hnd.length_le_of_subset (l₂ := l) (fun z hz => by
      obtain ⟨i, hi, rfl⟩ := List.mem_map.1 hz
      have := hall i (by have := List.mem_range.1 hi; omega)
      rw [hu] at this; simpa using this)
    simp at this
    omega

theorem seek_range {used : List (Int × Int)} {most x y : Int} {n : Nat} (h : Ids.Seek used most x y n) (h1 : 1 ≤ most) (h3 : 0 ≤ x) (h4 : x ≤ most) : 1 ≤ y ∧ y ≤ most ∧ Ids.has used y = false := by
  have st : ∀ x : Int, 0 ≤ x → x ≤ most → 1 ≤ Ids.step most x ∧ Ids.step most x ≤ most := fun x a b => by unfold Ids.step; split <;> omega
  induction h with
  | here x hx => exact ⟨(st x h3 h4).1, (st x h3 h4).2, hx⟩
  | on x y n hx hs ih => exact ih (by have := (st x h3 h4).1; omega) (st x h3 h4).2

/-- The list rises, and holds what is in use. -/
structure Same (used : List (Int × Int)) (l : List Int) (most : Int) : Prop where
  rise : l.Pairwise (· < ·)
  look : ∀ x, AL.get used x = if x ∈ l then some 1 else none
  len : used.length = l.length
  ids : ∀ x ∈ l, 1 ≤ x ∧ x ≤ most

theorem Same.has {used : List (Int × Int)} {l : List Int} {most : Int} (h : Same used l most) (z : Int) : Ids.has used z = decide (z ∈ l) := by
  unfold Ids.has
  rw [h.look]
  by_cases hz : z ∈ l <;> simp [hz]

theorem put_mem (l : List Int) (n z : Int) : z ∈ put l n ↔ z = n ∨ z ∈ l := by
  induction l with
  | nil => simp [put]
  | cons x t ih =>
    simp only [put]
    split
    · simp
    · simp only [List.mem_cons, ih]; constructor
      · rintro (h | h | h) <;> simp [h]
      · rintro (h | h | h) <;> simp [h]

theorem put_rise {l : List Int} (h : l.Pairwise (· < ·)) (n : Int) (hn : n ∉ l) : (put l n).Pairwise (· < ·) := by
  induction l with
  | nil => simp [put]
  | cons x t ih =>
    have h1 := (List.pairwise_cons.1 h).1
    have h2 := (List.pairwise_cons.1 h).2
    simp only [List.mem_cons, not_or] at hn
    simp only [put]
    split
    · rename_i hlt
      refine List.pairwise_cons.2 ⟨fun z hz => ?_, h⟩
      simp only [List.mem_cons] at hz
      rcases hz with rfl | hz
      · exact hlt
      · have := h1 z hz; omega
    · rename_i hlt
      refine List.pairwise_cons.2 ⟨fun z hz => ?_, ih h2 hn.2⟩
      rcases (put_mem t n z).1 hz with rfl | hz
      · omega
      · exact h1 z hz

theorem put_len (l : List Int) (n : Int) : (put l n).length = l.length + 1 := by
  induction l with
  | nil => rfl
  | cons x t ih => simp only [put]; split <;> simp [ih]

theorem Same.put {used : List (Int × Int)} {l : List Int} {most : Int} (h : Same used l most) (n : Int) (hn : n ∉ l) (h1 : 1 ≤ n) (h2 : n ≤ most) : Same (AL.set used n 1) (put l n) most := by
  refine ⟨put_rise h.rise n hn, fun x => ?_, ?_, fun x hx => ?_⟩
  · rw [AL.get_set, h.look]
    by_cases hx : x = n
    · rw [if_pos hx, if_pos ((put_mem l n x).2 (.inl hx))]
    · rw [if_neg hx]
      by_cases hx2 : x ∈ l
      · rw [if_pos hx2, if_pos ((put_mem l n x).2 (.inr hx2))]
      · rw [if_neg hx2, if_neg (fun hh => ((put_mem l n x).1 hh).elim hx hx2)]
  · rw [put_len, AL.length_set, h.look, if_neg hn, if_neg (by simp), h.len]
  · rcases (put_mem l n x).1 hx with rfl | hx
    · exact ⟨h1, h2⟩
    · exact h.ids x hx

theorem filter_len {l : List Int} (h : l.Pairwise (· < ·)) (n : Int) (hn : n ∈ l) : (l.filter fun x => x != n).length + 1 = l.length := by
  induction l with
  | nil => simp at hn
  | cons x t ih =>
    have h1 := (List.pairwise_cons.1 h).1
    have h2 := (List.pairwise_cons.1 h).2
    by_cases e : x = n
    · subst e
      have : t.filter (fun z => z != x) = t := List.filter_eq_self.2 (fun z hz => by have := h1 z hz; simp; omega)
      rw [List.filter_cons_of_neg (by simp), this]; rfl
    · have hn2 : n ∈ t := by
        simp only [List.mem_cons] at hn
        exact hn.elim (fun hh => absurd hh.symm e) (fun hh => hh)
      rw [List.filter_cons_of_pos (by simpa using e)]
      simp [ih h2 hn2]

theorem Same.free {used : List (Int × Int)} {l : List Int} {most : Int} (h : Same used l most) (hnd : (AL.keys used).Nodup) (n : Int) (hn : n ∈ l) : Same (AL.del used n) (l.filter fun x => x != n) most := by
  refine ⟨h.rise.filter _, fun x => ?_, ?_, fun x hx => h.ids x (List.mem_filter.1 hx).1⟩
  · rw [AL.get_del hnd, h.look]
    by_cases hx : x = n
    · rw [if_pos hx, if_neg (by simp [hx])]
    · rw [if_neg hx]
      by_cases hx2 : x ∈ l
      · rw [if_pos hx2, if_pos (List.mem_filter.2 ⟨hx2, by simpa using hx⟩)]
      · rw [if_neg hx2, if_neg (fun hh => hx2 (List.mem_filter.1 hh).1)]
  · rw [AL.length_del, h.look, if_pos hn, h.len]
    have := filter_len h.rise n hn
    simp only [Option.isSome_some, if_true]; omega
theorem sorted_ext : ∀ {L M : List Int}, L.Pairwise (· < ·) → M.Pairwise (· < ·) → (∀ x, x ∈ L ↔ x ∈ M) → L = M
  | [], [], _, _, _ => rfl
  | [], b :: M, _, _, h => by have := (h b).2 (by simp); simp at this
  | a :: L, [], _, _, h => by have := (h a).1 (by simp); simp at this
  | a :: L, b :: M, h1, h2, h => by
    have a1 := (List.pairwise_cons.1 h1).1
    have b1 := (List.pairwise_cons.1 h2).1
    have e : a = b := by
      have g1 := (h a).1 (by simp)
      have g2 := (h b).2 (by simp)
      simp only [List.mem_cons] at g1 g2
      rcases g1 with g1 | g1
      · exact g1
      · rcases g2 with g2 | g2
        · exact g2.symm
        · have := a1 b g2; have := b1 a g1; omega
    subst e
    have ih := sorted_ext (List.pairwise_cons.1 h1).2 (List.pairwise_cons.1 h2).2 (fun x => by
      constructor
      · intro hx
        have := (h x).1 (by simp [hx])
        simp only [List.mem_cons] at this
        rcases this with rfl | this
        · exact absurd (a1 x hx) (by omega)
        · exact this
      · intro hx
        have := (h x).2 (by simp [hx])
        simp only [List.mem_cons] at this
        rcases this with rfl | this
        · exact absurd (b1 x hx) (by omega)
        · exact this)
    rw [ih]

/-- What the list of package ids is. -/
theorem Same.keys {used : List (Int × Int)} {l L : List Int} {most : Int} (h : Same used l most) (hK : KeysOf L used) : L = l :=
  sorted_ext hK.1 h.rise (fun x => by
    rw [hK.2.1]
    refine (AL.get_isSome (l := used) (k := x)).symm.trans ?_
    rw [h.look]
    by_cases hx : x ∈ l <;> simp [hx])
/-- As many as may be are in use: all are. -/
theorem all_in {l : List Int} {most : Int} (hr : l.Pairwise (· < ·)) (hi : ∀ x ∈ l, 1 ≤ x ∧ x ≤ most) (hl : most ≤ l.length) : ∀ z, 1 ≤ z → z ≤ most → z ∈ l := by
  intro z h1 h2
  refine Classical.byContradiction fun hz => ?_
  have hnd : (z :: l).Nodup := List.nodup_cons.2 ⟨hz, hr.imp fun h e => by omega⟩
  have := hnd.length_le_of_subset (l₂ := (List.range most.toNat).map fun i : Nat => ((i : Int) + 1)) (fun x hx => by
    have hx' : 1 ≤ x ∧ x ≤ most := by
      simp only [List.mem_cons] at hx
      rcases hx with rfl | hx
      · exact ⟨h1, h2⟩
      · exact hi x hx
    exact List.mem_map.2 ⟨(x - 1).toNat, List.mem_range.2 (by omega), by omega⟩)
  simp at this
  omega
theorem Same.take {used : List (Int × Int)} {l : List Int} {most : Int} (h : Same used l most) (id last : Int) (hl : l.length < 1000) : ∃ e u2 l2, Ids.take used most id = (e, u2) ∧ switchboardref13_Take.f (l.length + 2) l last most id = some (l2, last, most, e) ∧ Same u2 l2 most ∧ l2.length ≤ l.length + 1 := by
  rw [take_f l last most id (by omega) _ (by omega)]
  unfold Ids.take
  by_cases h1 : id < 1 ∨ most < id
  · exact ⟨5, used, l, by rw [if_pos h1], by rw [if_pos h1], h, by omega⟩
  · by_cases h2 : id ∈ l
    · exact ⟨8, used, l, by rw [if_neg h1, h.has, if_pos (decide_eq_true h2)], by rw [if_neg h1, if_pos h2], h, by omega⟩
    · exact ⟨0, _, _, by rw [if_neg h1, h.has, if_neg (by simp [h2])], by rw [if_neg h1, if_neg h2], h.put id h2 (by omega) (by omega), by rw [put_len]; omega⟩

theorem Same.free' {used : List (Int × Int)} {l : List Int} {most : Int} (h : Same used l most) (hnd : (AL.keys used).Nodup) (id last : Int) (hl : l.length < 1000) : ∃ e u2 l2, Ids.free used id = (e, u2) ∧ switchboardref13_Free.f (l.length + 2) l last most id = some (l2, last, most, e) ∧ Same u2 l2 most ∧ l2.length ≤ l.length + 1 := by
  rw [free_f l last most id (by omega) _ (by omega)]
  unfold Ids.free
  by_cases h2 : id ∈ l
  · exact ⟨0, _, _, by rw [h.has, if_pos (decide_eq_true h2)], by rw [if_pos h2], h.free hnd id h2, by have := filter_len h.rise id h2; omega⟩
  · exact ⟨7, used, l, by rw [h.has, if_neg (by simp [h2])], by rw [if_neg h2], h, by omega⟩
end R13
end Go.Proofs.Ytfnleddabfpkgaa
