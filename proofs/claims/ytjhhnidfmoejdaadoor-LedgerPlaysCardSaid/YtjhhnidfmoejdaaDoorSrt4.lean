import Derived.Test.YtjhhnidfmoejdaaDoorSrt1
import Derived.IntWalk
namespace Go.Proofs.YtjhhnidfmoejdaaDoor
open Go.RowKit
set_option maxRecDepth 10000
set_option linter.unusedVariables false
set_option maxHeartbeats 1000000
def Cnt (w : World) (sb : Nat) (s : Int) (k : Nat) : Prop := ∃ t : Int, Blk w sb #[.int .i64 t] 3 ∧ s ≤ t ∧ t ≤ s + k
theorem order2_any (blk n cap sb : Nat) (i j s : Int) (d : Nat → Int) (rest : List Value) (w : World) (hA : Arr w blk n d 22 rest) (hB : Blk w sb #[.int .i64 s] 3) (hne : sb ≠ blk) (hs0 : 0 ≤ s) (hs1 : s < 1000)
    (hi0 : 0 ≤ i) (hi1 : i < n) (hj0 : 0 ≤ j) (hj1 : j < n) (hn : n < 1000000000) :
    Calls Tryd.prog 69 #[.slice (some ⟨blk, 0, none⟩) n cap, .int .i64 i, .int .i64 j, .pointer (some ⟨sb, 0, none⟩)] w (Px fun (x : Int × Int) e w' => e = .returned (.tuple #[.int .i64 x.1, .int .i64 x.2]) ∧ ((x.1 = i ∧ x.2 = j) ∨ (x.1 = j ∧ x.2 = i)) ∧ Cnt w' sb s 1 ∧ Keep [sb] w w') := by
  obtain ⟨a, rfl⟩ := Int.eq_ofNat_of_zero_le hi0
  obtain ⟨b, rfl⟩ := Int.eq_ofNat_of_zero_le hj0
  have c0 := hA.cell (show a < n by omega)
  have c1 := hA.cell (show b < n by omega)
  have cs : w.cell? ⟨sb, 0, none⟩ = some (.int .i64 s) := hB.cell 0
  have fs := hB.frozen 0 (by simp)
  by_cases hl : d b < d a
  · have HD := hide (show decide (d b < d a) = true from decide_eq_true hl)
    clear hl
    go_enter Tryd.func69, Tryd.ntmps69
    go_wp2
    go_quiet ((go_at_call 50; exact Calls.quiet_of_same (less_q _ _ _ _ HD.out)))
    go_wp2
    go_ret2
    exact ⟨(_, _), rfl, .inr ⟨rfl, rfl⟩, ⟨s + 1, by simpa using (hB.drewN nq).set 0 (.int .i64 (s + 1)), by omega, by omega⟩, ((Keep.refl _ _).drewN _).setCell (by simp) _⟩
  · have HD := hide (show decide (d b < d a) = false from decide_eq_false hl)
    clear hl
    go_enter Tryd.func69, Tryd.ntmps69
    go_wp2
    go_quiet ((go_at_call 50; exact Calls.quiet_of_same (less_q _ _ _ _ HD.out)))
    go_wp2
    go_ret2
    exact ⟨(_, _), rfl, .inl ⟨rfl, rfl⟩, ⟨s, hB.drewN nq, by omega, by omega⟩, (Keep.refl _ _).drewN _⟩
theorem median_any (blk n cap sb : Nat) (i j k s : Int) (d : Nat → Int) (rest : List Value) (w : World) (hA : Arr w blk n d 22 rest) (hB : Blk w sb #[.int .i64 s] 3) (hne : sb ≠ blk) (hs0 : 0 ≤ s) (hs1 : s < 900)
    (hi0 : 0 ≤ i) (hi1 : i < n) (hj0 : 0 ≤ j) (hj1 : j < n) (hk0 : 0 ≤ k) (hk1 : k < n) (hn : n < 1000000000) :
    Calls Tryd.prog 63 #[.slice (some ⟨blk, 0, none⟩) n cap, .int .i64 i, .int .i64 j, .int .i64 k, .pointer (some ⟨sb, 0, none⟩)] w (Px fun (x : Int) e w' => e = .returned (.int .i64 x) ∧ (x = i ∨ x = j ∨ x = k) ∧ Cnt w' sb s 3 ∧ Keep [sb] w w') := by
  go_enter Tryd.func63, Tryd.ntmps63
  go_wp2_with fail
  refine (order2_any blk n cap sb i j s d rest _ hA hB hne hs0 (by omega) hi0 hi1 hj0 hj1 hn).mono ?_
  rintro e w1 ⟨⟨x1, y1⟩, rfl, hx1, ⟨t1, hB1, ht1, ht1'⟩, hK1⟩
  have HX1 := hide hx1
  have y10 : 0 ≤ y1 ∧ y1 < n := by rcases hx1 with ⟨h1, h2⟩ | ⟨h1, h2⟩ <;> simp only at h1 h2 <;> omega
  have x10 : 0 ≤ x1 ∧ x1 < n := by rcases hx1 with ⟨h1, h2⟩ | ⟨h1, h2⟩ <;> simp only at h1 h2 <;> omega
  clear hx1
  go_wp2_with fail
  refine (order2_any blk n cap sb y1 k t1 d rest _ (hA.keep hK1 (by simp; omega)) hB1 hne (by omega) (by omega) y10.1 y10.2 hk0 hk1 hn).mono ?_
  rintro e w2 ⟨⟨x2, y2⟩, rfl, hx2, ⟨t2, hB2, ht2, ht2'⟩, hK2⟩
  have HX2 := hide hx2
  have x20 : 0 ≤ x2 ∧ x2 < n := by rcases hx2 with ⟨h1, h2⟩ | ⟨h1, h2⟩ <;> simp only at h1 h2 <;> omega
  clear hx2
  have hK12 := hK1.then hK2
  go_wp2_with fail
  refine (order2_any blk n cap sb x1 x2 t2 d rest _ (hA.keep hK12 (by simp; omega)) hB2 hne (by omega) (by omega) x10.1 x10.2 x20.1 x20.2 hn).mono ?_
  rintro e w3 ⟨⟨x3, y3⟩, rfl, hx3, ⟨t3, hB3, ht3, ht3'⟩, hK3⟩
  have HX3 := hide hx3
  clear hx3
  go_wp2_with fail
  go_ret
  refine ⟨_, rfl, ?_, ⟨t3, hB3, by omega, by omega⟩, hK12.then hK3⟩
  have h1 := HX1.out; have h2 := HX2.out; have h3 := HX3.out
  try simp only at h1 h2 h3
  omega
theorem adjacent_any (blk n cap sb : Nat) (i s : Int) (d : Nat → Int) (rest : List Value) (w : World) (hA : Arr w blk n d 22 rest) (hB : Blk w sb #[.int .i64 s] 3) (hne : sb ≠ blk) (hs0 : 0 ≤ s) (hs1 : s < 900)
    (hi0 : 1 ≤ i) (hi1 : i + 1 < n) (hn : n < 1000000000) :
    Calls Tryd.prog 62 #[.slice (some ⟨blk, 0, none⟩) n cap, .int .i64 i, .pointer (some ⟨sb, 0, none⟩)] w (Px fun (x : Int) e w' => e = .returned (.int .i64 x) ∧ (i - 1 ≤ x ∧ x ≤ i + 1) ∧ Cnt w' sb s 3 ∧ Keep [sb] w w') := by
  have h0 : 0 ≤ i - 1 := by omega
  go_enter Tryd.func62, Tryd.ntmps62
  go_wp2_with fail
  refine (median_any blk n cap sb (i - 1) i (i + 1) s d rest _ hA hB hne hs0 hs1 (by omega) (by omega) (by omega) (by omega) (by omega) (by omega) hn).mono ?_
  rintro e w1 ⟨x, rfl, hx, hC, hK⟩
  have HX := hide hx
  clear hx
  go_wp2_with fail
  go_ret
  have := HX.out
  exact ⟨_, rfl, by omega, hC, hK⟩
theorem pivot_any (blk n cap a b : Nat) (d : Nat → Int) (rest : List Value) (w : World) (hA : Arr w blk n d 22 rest) (hab : a + 12 < b) (hb : b ≤ n) (hn : n < 1000000000) :
    Calls Tryd.prog 47 #[.slice (some ⟨blk, 0, none⟩) n cap, .int .i64 a, .int .i64 b] w (Px fun (x : Nat × Int) e w' => e = .returned (.tuple #[.int .i64 x.1, .int .i64 x.2]) ∧ a ≤ x.1 ∧ x.1 < b ∧ Keep [] w w') := by
  have hlt := hA.lt
  obtain ⟨l, rfl⟩ : ∃ l, b = a + l := ⟨b - a, by omega⟩
  have e1 : (((a + l : Nat) : Int) - (a : Int)) = (l : Int) := by omega
  obtain ⟨B, hB⟩ : ∃ B : Int, ((a + l : Nat) : Int) = B := ⟨_, rfl⟩
  rw [hB] at e1 ⊢
  have HB := hide hB
  clear hB
  obtain ⟨q, hq⟩ : ∃ q : Int, (l : Int) / 4 = q := ⟨_, rfl⟩
  have q0 : 4 * q ≤ l := by omega
  have q1 : l < 4 * q + 4 := by omega
  have q2 : 3 ≤ q := by omega
  have hn' : ∀ x : Int, a + 1 ≤ x → x < a + l - 1 → x < n := fun x h1 h2 => by omega
  have h8 : 8 ≤ (l : Int) := by omega
  have ne1 : w.heap.size ≠ blk := by omega
  have hqb : q < 1000000000 := by omega
  have hA1 : Arr (w.alloc (.cells #[.int .i64 0] 3)) blk n d 22 rest := hA.keep ((Keep.refl [] w).alloc _) (by simp)
  have hB1 : Blk (w.alloc (.cells #[.int .i64 0] 3)) w.heap.size #[.int .i64 0] 3 := Blk.new _ _ _
  have HA1 := hide hA1
  have HB1 := hide hB1
  clear hA1 hB1 hA
  have back : ∀ w1 : World, Keep [w.heap.size] (w.alloc (.cells #[.int .i64 0] 3)) w1 → Keep [] w w1 := fun w1 h => ((Keep.refl [] w).alloc _).trans h (by simp) (by simp)
  have HBK := hide back
  clear back
  have fin : ∀ x : Int, (a : Int) ≤ x → x < a + l → ∃ y : Nat, x = (y : Int) ∧ a ≤ y ∧ y < a + l := fun x h1 h2 => ⟨x.toNat, by omega, by omega, by omega⟩
  have HF := hide fin
  clear fin
  by_cases h50 : 50 ≤ (l : Int)
  · go_enter Tryd.func47, Tryd.ntmps47
    go_wp2_with fail
    refine (adjacent_any blk n cap w.heap.size _ 0 d rest _ HA1.out HB1.out ne1 (by omega) (by omega) (by omega) (by omega) hn).mono ?_
    rintro e w1 ⟨x1, rfl, ⟨g1, g2⟩, ⟨s1, hB1, u1, u2⟩, hK1⟩
    have hA2 := HA1.out.keep hK1 (by simp; omega)
    clear e1 hq
    go_wp2_with fail
    refine (adjacent_any blk n cap w.heap.size _ s1 d rest _ hA2 hB1 ne1 (by omega) (by omega) (by omega) (by omega) hn).mono ?_
    rintro e w2 ⟨x2, rfl, ⟨g3, g4⟩, ⟨s2, hB2, u3, u4⟩, hK2⟩
    have hK12 := hK1.then hK2
    have hA3 := HA1.out.keep hK12 (by simp; omega)
    go_wp2_with fail
    refine (adjacent_any blk n cap w.heap.size _ s2 d rest _ hA3 hB2 ne1 (by omega) (by omega) (by omega) (by omega) hn).mono ?_
    rintro e w3 ⟨x3, rfl, ⟨g5, g6⟩, ⟨s3, hB3, u5, u6⟩, hK3⟩
    have hK13 := hK12.then hK3
    have hA4 := HA1.out.keep hK13 (by simp; omega)
    go_wp2_with fail
    refine (median_any blk n cap w.heap.size _ _ _ s3 d rest _ hA4 hB3 ne1 (by omega) (by omega) (by omega) (by omega) (by omega) (by omega) (by omega) (by omega) hn).mono ?_
    rintro e w4 ⟨x4, rfl, hx, ⟨s4, hB4, u7, u8⟩, hK4⟩
    have h1 : (a : Int) ≤ x4 := by omega
    have h2 : x4 < a + l := by omega
    clear hx
    obtain ⟨y, rfl, y1, y2⟩ := HF.out x4 h1 h2
    have c4 : w4.cell? ⟨w.heap.size, 0, none⟩ = some (.int .i64 s4) := hB4.cell 0
    go_wp2
    all_goals
      go_ret2
      exact ⟨(y, _), rfl, y1, y2, HBK.out _ (hK13.then hK4)⟩
  · go_enter Tryd.func47, Tryd.ntmps47
    go_wp2_with fail
    refine (median_any blk n cap w.heap.size _ _ _ 0 d rest _ HA1.out HB1.out ne1 (by omega) (by omega) (by omega) (by omega) (by omega) (by omega) (by omega) (by omega) hn).mono ?_
    rintro e w4 ⟨x4, rfl, hx, ⟨s4, hB4, u7, u8⟩, hK4⟩
    have h1 : (a : Int) ≤ x4 := by omega
    have h2 : x4 < a + l := by omega
    clear hx
    obtain ⟨y, rfl, y1, y2⟩ := HF.out x4 h1 h2
    have c4 : w4.cell? ⟨w.heap.size, 0, none⟩ = some (.int .i64 s4) := hB4.cell 0
    go_wp2
    all_goals
      go_ret2
      exact ⟨(y, _), rfl, y1, y2, HBK.out _ hK4⟩
end Go.Proofs.YtjhhnidfmoejdaaDoor
