import Derived.Test.YtjhhnidfmoejdaaDoorSrt2
namespace Go.Proofs.YtjhhnidfmoejdaaDoor
open Go.RowKit
set_option maxRecDepth 10000
set_option linter.unusedVariables false
set_option maxHeartbeats 1000000
theorem sift0_any (blk n cap hi f : Nat) (d : Nat → Int) (rest : List Value) (w : World) (hA : Arr w blk n d 22 rest) (hb : f + hi ≤ n) (hn : n < 1000000000) (hh : HeapFrom d f 1 hi) :
    Calls Tryd.prog 59 #[.slice (some ⟨blk, 0, none⟩) n cap, .int .i64 0, .int .i64 hi, .int .i64 f] w (Px fun (d' : Nat → Int) e w' => e = .returned (.tuple #[]) ∧ Arr w' blk n d' 22 rest ∧ SwR f (f + hi) d d' ∧ Keep [blk] w w' ∧ HeapFrom d' f 0 hi) :=
  sift_any blk n cap 0 hi f d rest w hA (Nat.zero_le _) hb hn hh
def HSt (d : Nat → Int) (a k hi : Nat) : Prop := HeapFrom d a 0 k ∧ ∀ p q, p < q → k ≤ q → q < hi → d (a + p) ≤ d (a + q)
theorem HSt.pop {d d' : Nat → Int} {a m hi : Nat} (h : HSt d a (m + 1) hi) (hm : m < hi) (hS : SwR a (a + m) (swp d a (a + m)) d') (hh : HeapFrom d' a 0 m) : HSt d' a m hi := by
  refine ⟨hh, fun p q hpq hq hqi => ?_⟩
  have top : ∀ k, k < m + 1 → d (a + k) ≤ d a := fun k hk => h.1.top k hk
  have oq : d' (a + q) = swp d a (a + m) (a + q) := hS.outside (.inr (by omega))
  have sw : ∀ k, m < k → swp d a (a + m) (a + k) = d (a + k) := fun k hk => by unfold swp; rw [if_neg (by omega), if_neg (by omega)]
  have swm : swp d a (a + m) (a + m) = d a := by
    unfold swp
    by_cases e : m = 0
    · subst e; simp
    · rw [if_neg (by omega), if_pos rfl]
  have swl : ∀ k, k ≤ m → swp d a (a + m) (a + k) ≤ d a := fun k hk => by
    unfold swp
    split
    · exact top m (by omega)
    · split
      · exact Int.le_refl _
      · exact top k (by omega)
  rw [oq]
  by_cases hqm : q = m
  · subst hqm
    rw [swm]
    have := hS.all (p := fun x => x ≤ d a) (fun k h1 h2 => by
      obtain ⟨j, rfl⟩ : ∃ j, k = a + j := ⟨k - a, by omega⟩
      exact swl j (by omega)) (a + p) (by omega) (by omega)
    exact this
  · rw [sw q (by omega)]
    by_cases hp : p < m
    · have := hS.all (p := fun x => x ≤ d (a + q)) (fun k h1 h2 => by
        obtain ⟨j, rfl⟩ : ∃ j, k = a + j := ⟨k - a, by omega⟩
        exact Int.le_trans (swl j (by omega)) (h.2 0 q (by omega) (by omega) hqi)) (a + p) (by omega) (by omega)
      exact this
    · have op : d' (a + p) = swp d a (a + m) (a + p) := hS.outside (.inr (by omega))
      rw [op]
      by_cases hpm : p = m
      · subst hpm; rw [swm]; exact h.2 0 q (by omega) (by omega) hqi
      · rw [sw p (by omega)]; exact h.2 p q hpq (by omega) hqi
theorem HSt.mid {d : Nat → Int} {a m hi : Nat} (h : HSt d a (m + 1) hi) : HeapFrom (swp d a (a + m)) a 1 m := fun r c h1 h2 h3 => by
  have e : ∀ k, k ≠ 0 → k ≠ m → swp d a (a + m) (a + k) = d (a + k) := fun k h1 h2 => by unfold swp; rw [if_neg (by omega), if_neg (by omega)]
  rw [e r (by omega) (by omega), e c (by omega) (by omega)]
  exact h.1 r c (by omega) h2 (by omega)
def heapRel1 (w : World) (blk n : Nat) (d : Nat → Int) (rest : List Value) (a hi : Nat) (i : Value) (wr : World) : Prop :=
  ∃ (k : Nat) (d' : Nat → Int), i = .int .i64 (k - 1) ∧ k ≤ hi ∧ Arr wr blk n d' 22 rest ∧ SwR a (a + hi) d d' ∧ Keep [blk] w wr ∧ HeapFrom d' a k hi
def heapRel2 (w : World) (blk n : Nat) (d : Nat → Int) (rest : List Value) (a hi : Nat) (i : Value) (wr : World) : Prop :=
  ∃ (k : Nat) (d' : Nat → Int), i = .int .i64 (k - 1) ∧ k ≤ hi ∧ Arr wr blk n d' 22 rest ∧ SwR a (a + hi) d d' ∧ Keep [blk] w wr ∧ HSt d' a k hi
theorem heap_any (blk n cap a b : Nat) (d : Nat → Int) (rest : List Value) (w : World) (hA : Arr w blk n d 22 rest) (hab : a < b) (hb : b ≤ n) (hn : n < 1000000000) :
    Calls Tryd.prog 45 #[.slice (some ⟨blk, 0, none⟩) n cap, .int .i64 a, .int .i64 b] w (Px fun (d' : Nat → Int) e w' => e = .returned (.tuple #[]) ∧ Arr w' blk n d' 22 rest ∧ SwR a b d d' ∧ Keep [blk] w w' ∧ Ris d' a b) := by
  obtain ⟨hi, rfl⟩ : ∃ hi, b = a + hi := ⟨b - a, by omega⟩
  have e1 : (((a + hi : Nat) : Int) - (a : Int)) = (hi : Int) := by omega
  have h1 : 0 ≤ (hi : Int) - 1 := by omega
  obtain ⟨B, hB⟩ : ∃ B : Int, ((a + hi : Nat) : Int) = B := ⟨_, rfl⟩
  rw [hB] at e1 ⊢
  have HB := hide hB
  clear hB
  go_enter Tryd.func45, Tryd.ntmps45
  go_wp2
  clear e1
  go_loopw [9] (fun i wr => heapRel1 w blk n d rest a hi i wr) (fun i _ => (intOf i + 1).toNat)
  case atStart =>
    refine ⟨(hi - 1) / 2 + 1, d, ?_, by omega, hA, .refl, Keep.refl _ _, ?_⟩
    · congr 1; omega
    · intro r c h1 h2 h3; omega
  case round =>
    obtain ⟨k, d', rfl, hk, hA1, hS1, hK1, hH⟩ := hrel
    by_cases h0 : 0 < k
    · obtain ⟨m, rfl⟩ : ∃ m, k = m + 1 := ⟨k - 1, by omega⟩
      have e1 : (((m + 1 : Nat) : Int) - 1) = (m : Int) := by omega
      rw [e1]
      clear e1
      have HH := hide (sift_any blk n cap m hi a d' rest wr hA1 (by omega) (by omega) hn hH)
      clear hH
      go_wp2_with fail
      refine HH.out.mono ?_
      rintro e w1 ⟨d2, rfl, hA2, hS2, hK2, hH2⟩
      go_wp2
      exact ⟨⟨m, d2, rfl, by omega, hA2, hS1.trans hS2, hK1.then hK2, hH2⟩, by simp [intOf] <;> omega⟩
    · obtain rfl : k = 0 := by omega
      have q : ¬ (0 : Int) ≤ ((0 : Nat) : Int) - 1 := by omega
      have HH := hide (show HSt d' a hi hi from ⟨hH, fun p q h1 h2 h3 => by omega⟩)
      clear hH
      go_wp2
      go_loopw [10] (fun i wr => heapRel2 w blk n d rest a hi i wr) (fun i _ => (intOf i + 1).toNat)
      case atStart => exact ⟨hi, d', rfl, by omega, hA1, hS1, hK1, HH.out⟩
      case round =>
        obtain ⟨k, d2, rfl, hk, hA2, hS2, hK2, hH2⟩ := hrel
        by_cases h0 : 0 < k
        · obtain ⟨m, rfl⟩ : ∃ m, k = m + 1 := ⟨k - 1, by omega⟩
          have e1 : (((m + 1 : Nat) : Int) - 1) = (m : Int) := by omega
          rw [e1]
          clear e1
          have HH := hide hH2
          clear hH2
          have c0 := hA2.cell (show a < n by omega)
          have c1 := hA2.cell (show a + m < n by omega)
          have f0 := hA2.frozen (show a < n by omega)
          have f1 := hA2.frozen (show a + m < n by omega)
          have b0 : (a : Int) < n := by omega
          have b1 : (a : Int) + m < n := by omega
          have x1 : IntKind.i64.wrap ((a : Int) + m) = (a : Int) + m := IntWalk.i64_in _ (by omega)
          have y1 : 0 ≤ (a : Int) + m := by omega
          have z1 : ((a : Int) + m).toNat = a + m := by omega
          obtain ⟨v, hv⟩ := cell?_setCell_some (w := wr) (p := ⟨blk, a, none⟩) (x := .int .u32 (d2 (a + m))) (q := ⟨blk, a + m, none⟩) (v := .int .u32 (d2 (a + m))) (by go_simp)
          go_wp2
          go_region
          have hA3 := hA2.drew.swap (i := a) (j := a + m) (by omega) (by omega)
          have HS := hide (sift0_any blk n cap m a (swp d2 a (a + m)) rest _ hA3 (by omega) hn HH.out.mid)
          clear x1 z1 hv c0 c1 f0 f1
          go_wp2_with fail
          refine HS.out.mono ?_
          rintro e w1 ⟨d3, rfl, hA4, hS4, hK4, hH4⟩
          go_wp2
          exact ⟨⟨m, d3, rfl, by omega, hA4, (SwR.step d2 a (a + m) hS2 (by omega) (by omega) (by omega) (by omega)).trans (hS4.mono (by omega) (by omega)), ((hK2.drew.setCell (by simp) _).setCell (by simp) _).then hK4, HH.out.pop (by omega) hS4 hH4⟩, by simp [intOf] <;> omega⟩
        · obtain rfl : k = 0 := by omega
          have q2 : ¬ (0 : Int) ≤ ((0 : Nat) : Int) - 1 := by omega
          go_wp2
          go_end0
          refine ⟨d2, rfl, hA2, hS2, hK2, fun i j h1 h2 h3 => ?_⟩
          obtain ⟨p, rfl⟩ : ∃ p, i = a + p := ⟨i - a, by omega⟩
          obtain ⟨q, rfl⟩ : ∃ q, j = a + q := ⟨j - a, by omega⟩
          by_cases e : p = q
          · subst e; exact Int.le_refl _
          · exact hH2.2 p q (by omega) (by omega) (by omega)
end Go.Proofs.YtjhhnidfmoejdaaDoor
