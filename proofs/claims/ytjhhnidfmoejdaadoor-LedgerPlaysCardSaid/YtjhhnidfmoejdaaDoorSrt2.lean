import Derived.Test.YtjhhnidfmoejdaaDoorSrt1
import Derived.IntWalk
namespace Go.Proofs.YtjhhnidfmoejdaaDoor
open Go.RowKit
set_option maxRecDepth 10000
set_option linter.unusedVariables false
set_option maxHeartbeats 1000000
def HeapFrom (d : Nat → Int) (f lo hi : Nat) : Prop := ∀ r c, lo ≤ r → (c = 2 * r + 1 ∨ c = 2 * r + 2) → c < hi → d (f + c) ≤ d (f + r)
def SiftAt (d : Nat → Int) (f lo hi root : Nat) : Prop :=
  (∀ r c, lo ≤ r → r ≠ root → (c = 2 * r + 1 ∨ c = 2 * r + 2) → c < hi → d (f + c) ≤ d (f + r)) ∧
  (∀ r c, lo ≤ r → (root = 2 * r + 1 ∨ root = 2 * r + 2) → (c = 2 * root + 1 ∨ c = 2 * root + 2) → c < hi → d (f + c) ≤ d (f + r))
theorem SiftAt.start {d : Nat → Int} {f lo hi : Nat} (h : HeapFrom d f (lo + 1) hi) : SiftAt d f lo hi lo :=
  ⟨fun r c h1 h2 h3 h4 => h r c (by omega) h3 h4, fun r c h1 h2 h3 h4 => by omega⟩
theorem SiftAt.leaf {d : Nat → Int} {f lo hi root : Nat} (h : SiftAt d f lo hi root) (hl : hi ≤ 2 * root + 1) : HeapFrom d f lo hi := fun r c h1 h2 h3 => by
  by_cases e : r = root
  · omega
  · exact h.1 r c h1 e h2 h3
theorem SiftAt.done {d : Nat → Int} {f lo hi root : Nat} (h : SiftAt d f lo hi root) (h1 : d (f + (2 * root + 1)) ≤ d (f + root)) (h2 : 2 * root + 2 < hi → d (f + (2 * root + 2)) ≤ d (f + root)) : HeapFrom d f lo hi := fun r c a1 a2 a3 => by
  by_cases e : r = root
  · subst e
    rcases a2 with rfl | rfl
    · exact h1
    · exact h2 a3
  · exact h.1 r c a1 e a2 a3
theorem SiftAt.step {d : Nat → Int} {f lo hi root c : Nat} (h : SiftAt d f lo hi root) (hlo : lo ≤ root) (hc : c = 2 * root + 1 ∨ c = 2 * root + 2) (hci : c < hi)
    (hmax : ∀ x, (x = 2 * root + 1 ∨ x = 2 * root + 2) → x < hi → d (f + x) ≤ d (f + c)) (hlt : d (f + root) < d (f + c)) : SiftAt (swp d (f + root) (f + c)) f lo hi c := by
  have e : ∀ k, k ≠ root → k ≠ c → swp d (f + root) (f + c) (f + k) = d (f + k) := fun k h1 h2 => by unfold swp; rw [if_neg (by omega), if_neg (by omega)]
  have er : swp d (f + root) (f + c) (f + root) = d (f + c) := by unfold swp; rw [if_pos rfl]
  have ec : swp d (f + root) (f + c) (f + c) = d (f + root) := by unfold swp; rw [if_neg (by omega), if_pos rfl]
  constructor
  · intro r x h1 h2 h3 h4
    by_cases hr : r = root
    · rw [hr, er]
      by_cases hx : x = c
      · rw [hx, ec]; omega
      · rw [e x (by omega) hx]; exact hmax x (by omega) h4
    · rw [e r hr h2]
      by_cases hx : x = root
      · rw [hx, er]; exact h.2 r c h1 (by omega) hc hci
      · rw [e x hx (by omega)]; exact h.1 r x h1 hr h3 h4
  · intro r x h1 h2 h3 h4
    have hr : r = root := by omega
    rw [hr, er, e x (by omega) (by omega)]
    exact h.1 c x (by omega) (by omega) h3 h4
theorem HeapFrom.top {d : Nat → Int} {f hi : Nat} (h : HeapFrom d f 0 hi) : ∀ k, k < hi → d (f + k) ≤ d (f + 0) := by
  intro k
  induction k using Nat.strongRecOn with
  | _ k ih =>
    intro hk
    by_cases h0 : k = 0
    · rw [h0]; exact Int.le_refl _
    · have hp := h ((k - 1) / 2) k (by omega) (by omega) hk
      exact Int.le_trans hp (ih ((k - 1) / 2) (by omega) (by omega))
theorem less_qq (x y : Int) (r : Bool) (w : World) (a b : Nat) (h : decide (x < y) = r) : Calls Tryd.prog 50 #[.int .u32 x, .int .u32 y] (w.drewN (a + b)) fun e w' => e = .returned (.bool r) ∧ ∃ n, w' = w.drewN (a + n) :=
  (less_any x y _).mono fun e w' ⟨h1, h2⟩ => ⟨by rw [h1, h], b, h2.symm⟩
def siftRel (w : World) (blk n : Nat) (d : Nat → Int) (rest : List Value) (lo hi f : Nat) (i : Value) (wr : World) : Prop :=
  ∃ (k : Nat) (d' : Nat → Int), i = .int .i64 k ∧ lo ≤ k ∧ k < hi + 1 + lo ∧ Arr wr blk n d' 22 rest ∧ SwR f (f + hi) d d' ∧ Keep [blk] w wr ∧ SiftAt d' f lo hi k
theorem sift_any (blk n cap lo hi f : Nat) (d : Nat → Int) (rest : List Value) (w : World) (hA : Arr w blk n d 22 rest) (hlo : lo ≤ hi) (hb : f + hi ≤ n) (hn : n < 1000000000) (hh : HeapFrom d f (lo + 1) hi) :
    Calls Tryd.prog 59 #[.slice (some ⟨blk, 0, none⟩) n cap, .int .i64 lo, .int .i64 hi, .int .i64 f] w (Px fun (d' : Nat → Int) e w' => e = .returned (.tuple #[]) ∧ Arr w' blk n d' 22 rest ∧ SwR f (f + hi) d d' ∧ Keep [blk] w w' ∧ HeapFrom d' f lo hi) := by
  have HS := hide (SiftAt.start hh)
  clear hh
  go_enter Tryd.func59, Tryd.ntmps59
  go_wp2
  go_loopw [8] (fun i wr => siftRel w blk n d rest lo hi f i wr) (fun i _ => (hi + lo + 1 - intOf i).toNat)
  case atStart => exact ⟨lo, d, rfl, by omega, by omega, hA, .refl, Keep.refl _ _, HS.out⟩
  case round =>
    obtain ⟨k, d', rfl, h1, h2, hA1, hS1, hK1, hI⟩ := hrel
    have HI := hide hI
    clear hI
    by_cases hleaf : hi ≤ 2 * k + 1
    · go_wp2
      refine bodyPost_ret (results_none rfl _ _ _) rfl ?_
      exact ⟨d', rfl, hA1, hS1, hK1, HI.out.leaf hleaf⟩
    · have q1 : ¬ (hi : Int) ≤ 2 * (k : Int) + 1 := by omega
      have hk1 : 2 * k + 1 < hi := by omega
      clear hleaf
      have way : ∀ c : Nat, (c = 2 * k + 1 ∨ c = 2 * k + 2) → c < hi → (∀ x, (x = 2 * k + 1 ∨ x = 2 * k + 2) → x < hi → d' (f + x) ≤ d' (f + c)) →
          ((d' (f + k) < d' (f + c) → ∀ m : Nat, siftRel w blk n d rest lo hi f (.int .i64 c) ((wr.drewN m).setCell ⟨blk, f + k, none⟩ (.int .u32 (d' (f + c))) |>.setCell ⟨blk, f + c, none⟩ (.int .u32 (d' (f + k))))) ∧ (¬ d' (f + k) < d' (f + c) → HeapFrom d' f lo hi)) := by
        intro c hc hch hmax
        refine ⟨fun hlt m => ⟨c, swp d' (f + k) (f + c), rfl, by omega, by omega, (hA1.drewN m).swap (by omega) (by omega), .step d' _ _ hS1 (by omega) (by omega) (by omega) (by omega), ((hK1.drewN m).setCell (by simp) _).setCell (by simp) _, HI.out.step h1 hc hch hmax hlt⟩, fun hlt => HI.out.done ?_ ?_⟩
        · have := hmax (2 * k + 1) (.inl rfl) hk1; omega
        · intro h; have := hmax (2 * k + 2) (.inr rfl) h; omega
      have c0 := hA1.cell (show f + k < n by omega)
      have c1 := hA1.cell (show f + (2 * k + 1) < n by omega)
      have f0 := hA1.frozen (show f + k < n by omega)
      have f1 := hA1.frozen (show f + (2 * k + 1) < n by omega)
      have b0 : ((f : Int) + k) < n := by omega
      have b1 : ((f : Int) + (2 * (k : Int) + 1)) < n := by omega
      have x0 : IntKind.i64.wrap ((f : Int) + k) = (f : Int) + k := IntWalk.i64_in _ (by omega)
      have x1 : IntKind.i64.wrap ((f : Int) + (2 * (k : Int) + 1)) = (f : Int) + (2 * (k : Int) + 1) := IntWalk.i64_in _ (by omega)
      have x2 : IntKind.i64.wrap (2 * (k : Int) + 1 + 1) = 2 * (k : Int) + 1 + 1 := IntWalk.i64_in _ (by omega)
      have y0 : 0 ≤ (f : Int) + k := by omega
      have y1 : 0 ≤ (f : Int) + (2 * (k : Int) + 1) := by omega
      have z0 : ((f : Int) + k).toNat = f + k := by omega
      have z1 : ((f : Int) + (2 * (k : Int) + 1)).toNat = f + (2 * k + 1) := by omega
      by_cases h22 : 2 * k + 2 < hi
      · have c2 := hA1.cell (show f + (2 * k + 2) < n by omega)
        have f2 := hA1.frozen (show f + (2 * k + 2) < n by omega)
        have q2 : 2 * (k : Int) + 1 + 1 < hi := by omega
        have b2 : ((f : Int) + (2 * (k : Int) + 1) + 1) < n := by omega
        have x3 : IntKind.i64.wrap ((f : Int) + (2 * (k : Int) + 1) + 1) = (f : Int) + (2 * (k : Int) + 1) + 1 := IntWalk.i64_in _ (by omega)
        have y3 : 0 ≤ (f : Int) + (2 * (k : Int) + 1) + 1 := by omega
        have z3 : ((f : Int) + (2 * (k : Int) + 1) + 1).toNat = f + (2 * k + 2) := by omega
        by_cases hl12 : d' (f + (2 * k + 1)) < d' (f + (2 * k + 2))
        · have HD := hide (show decide (d' (f + (2 * k + 1)) < d' (f + (2 * k + 2))) = true from decide_eq_true hl12)
          go_wp2
          go_quiet ((go_at_call 50; exact Calls.quiet_of_same (less_q _ _ _ _ HD.out)))
          obtain ⟨nq0, rfl⟩ : ∃ m, m = nq := ⟨_, rfl⟩
          have x4 : IntKind.i64.wrap ((f : Int) + (2 * (k : Int) + 1 + 1)) = (f : Int) + (2 * (k : Int) + 1 + 1) := IntWalk.i64_in _ (by omega)
          have y4 : 0 ≤ (f : Int) + (2 * (k : Int) + 1 + 1) := by omega
          have z4 : ((f : Int) + (2 * (k : Int) + 1 + 1)).toNat = f + (2 * k + 2) := by omega
          have b4 : ((f : Int) + (2 * (k : Int) + 1 + 1)) < n := by omega
          have WY := hide (way (2 * k + 2) (.inr rfl) h22 (fun x hx _ => by rcases hx with rfl | rfl <;> omega))
          clear way
          by_cases hless : d' (f + k) < d' (f + (2 * k + 2))
          · have HD2 := hide (show decide (d' (f + k) < d' (f + (2 * k + 2))) = true from decide_eq_true hless)
            have HL := hide hless
            clear hless hl12
            go_wp2
            go_quiet ((go_at_call 50; exact less_qq _ _ _ _ _ _ HD2.out))
            go_wp2
            go_region
            go_wp2
            refine ⟨?_, by simp [intOf] <;> omega⟩
            have := WY.out.1 HL.out (nq0 + nq + 1)
            rw [show ((2 * k + 2 : Nat) : Int) = 2 * (k : Int) + 1 + 1 by omega] at this
            exact this
          · have HD2 := hide (show decide (d' (f + k) < d' (f + (2 * k + 2))) = false from decide_eq_false hless)
            have HL := hide hless
            clear hless hl12
            go_wp2
            go_quiet ((go_at_call 50; exact less_qq _ _ _ _ _ _ HD2.out))
            go_wp2
            refine bodyPost_ret (results_none rfl _ _ _) rfl ?_
            exact ⟨d', rfl, hA1, hS1, (hK1.drewN _).drewN _, WY.out.2 HL.out⟩
        · have HD := hide (show decide (d' (f + (2 * k + 1)) < d' (f + (2 * k + 2))) = false from decide_eq_false hl12)
          have WY := hide (way (2 * k + 1) (.inl rfl) hk1 (fun x hx hx2 => by rcases hx with rfl | rfl <;> omega))
          clear way
          by_cases hless : d' (f + k) < d' (f + (2 * k + 1))
          · have HD2 := hide (show decide (d' (f + k) < d' (f + (2 * k + 1))) = true from decide_eq_true hless)
            have HL := hide hless
            clear hless
            go_wp2
            go_quiet ((go_at_call 50; exact Calls.quiet_of_same (less_q _ _ _ _ HD.out)))
            obtain ⟨nq0, rfl⟩ : ∃ m, m = nq := ⟨_, rfl⟩
            go_wp2
            go_quiet ((go_at_call 50; exact less_qq _ _ _ _ _ _ HD2.out))
            go_wp2
            go_region
            go_wp2
            refine ⟨?_, by simp [intOf] <;> omega⟩
            have := WY.out.1 HL.out (nq0 + nq + 1)
            rw [show ((2 * k + 1 : Nat) : Int) = 2 * (k : Int) + 1 by omega] at this
            exact this
          · have HD2 := hide (show decide (d' (f + k) < d' (f + (2 * k + 1))) = false from decide_eq_false hless)
            have HL := hide hless
            clear hless
            go_wp2
            go_quiet ((go_at_call 50; exact Calls.quiet_of_same (less_q _ _ _ _ HD.out)))
            obtain ⟨nq0, rfl⟩ : ∃ m, m = nq := ⟨_, rfl⟩
            go_wp2
            go_quiet ((go_at_call 50; exact less_qq _ _ _ _ _ _ HD2.out))
            go_wp2
            refine bodyPost_ret (results_none rfl _ _ _) rfl ?_
            exact ⟨d', rfl, hA1, hS1, (hK1.drewN _).drewN _, WY.out.2 HL.out⟩
      · have q2 : decide (2 * (k : Int) + 1 + 1 < (hi : Int)) = false := decide_eq_false (by omega)
        have WY := hide (way (2 * k + 1) (.inl rfl) hk1 (fun x hx hx2 => by rcases hx with rfl | rfl <;> omega))
        clear way
        by_cases hless : d' (f + k) < d' (f + (2 * k + 1))
        · have HD2 := hide (show decide (d' (f + k) < d' (f + (2 * k + 1))) = true from decide_eq_true hless)
          have HL := hide hless
          clear hless
          go_wp2
          go_quiet (fail)
          obtain ⟨nq0, rfl⟩ : ∃ m, m = nq := ⟨_, rfl⟩
          go_wp2
          go_quiet ((go_at_call 50; exact less_qq _ _ _ _ _ _ HD2.out))
          go_wp2
          go_region
          go_wp2
          refine ⟨?_, by simp [intOf] <;> omega⟩
          have := WY.out.1 HL.out (nq0 + nq + 1)
          rw [show ((2 * k + 1 : Nat) : Int) = 2 * (k : Int) + 1 by omega] at this
          exact this
        · have HD2 := hide (show decide (d' (f + k) < d' (f + (2 * k + 1))) = false from decide_eq_false hless)
          have HL := hide hless
          clear hless
          go_wp2
          go_quiet (fail)
          obtain ⟨nq0, rfl⟩ : ∃ m, m = nq := ⟨_, rfl⟩
          go_wp2
          go_quiet ((go_at_call 50; exact less_qq _ _ _ _ _ _ HD2.out))
          go_wp2
          refine bodyPost_ret (results_none rfl _ _ _) rfl ?_
          exact ⟨d', rfl, hA1, hS1, (hK1.drewN _).drewN _, WY.out.2 HL.out⟩
end Go.Proofs.YtjhhnidfmoejdaaDoor
