import Derived.Test.YtjhhnidfmoejdaaDoorSrt1
import Derived.Test.YtjhhnidfmoejdaaDoorBits
import Derived.IntWalk
import Derived.Sort.LotD1
import Derived.Sort.WalkA14
import Derived.Laws.Bits64
import Derived.Laws.Bits64b
namespace Go.Proofs.YtjhhnidfmoejdaaDoor
open Go.RowKit
set_option maxRecDepth 10000
set_option linter.unusedVariables false
set_option maxHeartbeats 1000000
theorem set_set (w : World) (a : Addr) (u v : Value) : (w.setCell a u).setCell a v = w.setCell a v := by
  unfold World.setCell
  simp only
  congr 1
  apply Array.ext_getElem?
  intro k
  simp only [Array.getElem?_modify]
  split
  · cases w.heap[k]? with
    | none => rfl
    | some o => cases o <;> simp <;> (try split <;> simp)
  · rfl
theorem next_any (rb X : Nat) (hX : X < 18446744073709551616) (w : World) (hB : Blk w rb #[.int .u64 X] 118) :
    Calls Tryd.prog 61 #[.pointer (some ⟨rb, 0, none⟩)] w (Px fun (r : Nat) e w' => e = .returned (.int .u64 r) ∧ r < 18446744073709551616 ∧ Blk w' rb #[.int .u64 r] 118 ∧ Keep [rb] w w') := by
  obtain ⟨A, hA⟩ : ∃ A : Nat, A = X ^^^ (X * 8192 % 18446744073709551616) := ⟨_, rfl⟩
  obtain ⟨B, hB'⟩ : ∃ B : Nat, B = A ^^^ (A / 128) := ⟨_, rfl⟩
  obtain ⟨C, hC⟩ : ∃ C : Nat, C = B ^^^ (B * 131072 % 18446744073709551616) := ⟨_, rfl⟩
  have lA : A < 18446744073709551616 := by rw [hA]; exact Nat.xor_lt_two_pow (n := 64) (by omega) (by omega)
  have lB : B < 18446744073709551616 := by rw [hB']; exact Nat.xor_lt_two_pow (n := 64) (by omega) (by omega)
  have lC : C < 18446744073709551616 := by rw [hC]; exact Nat.xor_lt_two_pow (n := 64) (by omega) (by omega)
  have e1 : bits .xor .u64 (X : Int) (IntKind.u64.wrap ((X : Int) * 8192)) = (A : Int) := by
    rw [IntKind.wrap_u64, show ((X : Int) * 8192 % 18446744073709551616) = ((X * 8192 % 18446744073709551616 : Nat) : Int) by omega, bits_xor_u64_nat _ _ hX (by omega), hA]
  have e2 : bits .xor .u64 (A : Int) ((A : Int) / 128) = (B : Int) := by
    rw [show ((A : Int) / 128) = ((A / 128 : Nat) : Int) by omega, bits_xor_u64_nat _ _ lA (by omega), hB']
  have e3 : bits .xor .u64 (B : Int) (IntKind.u64.wrap ((B : Int) * 131072)) = (C : Int) := by
    rw [IntKind.wrap_u64, show ((B : Int) * 131072 % 18446744073709551616) = ((B * 131072 % 18446744073709551616 : Nat) : Int) by omega, bits_xor_u64_nat _ _ lB (by omega), hC]
  have LC := hide lC
  clear hA hB' hC lA lB lC hX
  have hc : w.cell? ⟨rb, 0, none⟩ = some (.int .u64 X) := hB.cell 0
  have hf := hB.frozen 0 (by simp)
  have hss : ∀ v v', (w.setCell ⟨rb, 0, none⟩ v).setCell ⟨rb, 0, none⟩ v' = w.setCell ⟨rb, 0, none⟩ v' := set_set w _
  go_enter Tryd.func61, Tryd.ntmps61
  go_wp2
  go_region
  all_goals go_wp2
  all_goals go_region
  all_goals go_wp2
  all_goals go_region
  all_goals go_wp2
  go_ret
  exact ⟨C, rfl, LC.out, by simpa using ((hB.set 0 (.int .u64 (C : Int))).drew).drew.drew, (((Keep.refl _ _).setCell (by simp) _).drew).drew.drew⟩
theorem pow2_any (l : Nat) (hl : l < 1000000000) (h0 : 0 < l) (w : World) :
    Calls Tryd.prog 60 #[.int .i64 l] w (Px fun (M : Nat) e w' => e = .returned (.int .u64 M) ∧ 1 ≤ M ∧ M ≤ 2 * l ∧ w = w') := by
  have hk : Sort.bitsLen l ≤ 62 := (Sort.bitsLen_le_iff l 62).2 (by omega)
  have hl1 : Lib.bitLen l = Sort.bitsLen l := bitLen_eq _ (by omega)
  obtain ⟨k, hk'⟩ : ∃ k, Sort.bitsLen l = k := ⟨_, rfl⟩
  have h2 := Sort.two_pow_bitsLen_le h0
  rw [hk'] at hk hl1 h2
  have hp : IntKind.u64.wrap ((2 : Int) ^ k) = (2 ^ k : Nat) := by
    have h : (2 : Nat) ^ k ≤ 2 ^ 62 := Nat.pow_le_pow_right (by decide) hk
    rw [IntKind.wrap_u64, show ((2 : Int) ^ k) = ((2 ^ k : Nat) : Int) by push_cast; rfl]
    generalize (2 : Nat) ^ k = p at h
    omega
  have h1 : 1 ≤ 2 ^ k := Nat.one_le_two_pow
  have H := hide (And.intro h1 h2)
  have hw : IntKind.u64.wrap (l : Int) = (l : Int) := IntWalk.u64_in _ (by omega)
  obtain ⟨M, hM⟩ : ∃ M : Nat, 2 ^ k = M := ⟨_, rfl⟩
  rw [hM] at hp H
  clear hk' h2 h1 hM
  have hL : ∀ w, Calls Tryd.prog 41 #[.int .u64 (l : Int)] w fun e w' => e = .returned (.int .i64 k) ∧ w' = w := fun w => by
    have h := bits_Len (l : Int) w (by omega) (by omega)
    rwa [Int.toNat_natCast, hl1] at h
  have HL := hide hL
  clear hL hl1
  go_enter Tryd.func60, Tryd.ntmps60
  go_wp2_with fail
  refine (HL.out _).mono ?_
  rintro e w1 ⟨rfl, rfl⟩
  go_wp2_with fail
  go_ret
  exact ⟨M, rfl, H.out.1, H.out.2, rfl⟩
def brkRel (w : World) (blk n sb : Nat) (d : Nat → Int) (rest : List Value) (a l : Nat) (i : Value) (wr : World) : Prop :=
  ∃ (k X : Nat) (d' : Nat → Int), i = .int .i64 k ∧ a ≤ k ∧ k + 1 < a + l ∧ X < 18446744073709551616 ∧ Arr wr blk n d' 22 rest ∧ SwR a (a + l) d d' ∧ Keep [blk] w wr ∧ Blk wr sb #[.int .u64 X] 118
theorem break_any (blk n cap a b : Nat) (d : Nat → Int) (rest : List Value) (w : World) (hA : Arr w blk n d 22 rest) (hab : a + 12 < b) (hb : b ≤ n) (hn : n < 1000000000) :
    Calls Tryd.prog 46 #[.slice (some ⟨blk, 0, none⟩) n cap, .int .i64 a, .int .i64 b] w (Px fun (d' : Nat → Int) e w' => e = .returned (.tuple #[]) ∧ Arr w' blk n d' 22 rest ∧ SwR a b d d' ∧ Keep [blk] w w') := by
  have hlt := hA.lt
  obtain ⟨l, rfl⟩ : ∃ l, b = a + l := ⟨b - a, by omega⟩
  have e1 : (((a + l : Nat) : Int) - (a : Int)) = (l : Int) := by omega
  obtain ⟨B, hB⟩ : ∃ B : Int, ((a + l : Nat) : Int) = B := ⟨_, rfl⟩
  rw [hB] at e1 ⊢
  have HB := hide hB
  clear hB
  obtain ⟨q, hq⟩ : ∃ q : Int, (l : Int) / 4 = q := ⟨_, rfl⟩
  have q0 : 4 * q ≤ l := by omega
  have q1 : l < 4 * q + 4 := by omega
  have q2 : 3 ≤ q := by omega
  have h8 : 8 ≤ (l : Int) := by omega
  have hqb : q < 1000000000 := by omega
  have ne1 : w.heap.size ≠ blk := by omega
  have hw : IntKind.u64.wrap (l : Int) = (l : Int) := IntWalk.u64_in _ (by omega)
  go_enter Tryd.func46, Tryd.ntmps46
  go_wp2_with fail
  refine (pow2_any l (by omega) (by omega) _).mono ?_
  rintro e w1 ⟨M, rfl, hM1, hM2, rfl⟩
  go_wp2_with fail
  go_loopw [9] (fun i wr => brkRel w blk n w.heap.size d rest a l i wr) (fun i _ => (a + l + l - intOf i).toNat)
  case atStart =>
    refine ⟨(a + q * 2 - 1).toNat, l, d, ?_, by omega, by omega, by omega, hA.keep ((Keep.refl [] w).alloc _) (by simp), .refl, (Keep.refl _ _).alloc _, Blk.new _ _ _⟩
    congr 1; omega
  case round =>
    obtain ⟨k, X, d', rfl, h1, h2, hX, hA1, hS1, hK1, hB1⟩ := hrel
    by_cases hle : (k : Int) ≤ a + q * 2 + 1
    · have hsb : w.heap.size ∉ [blk] := by simpa using ne1
      go_wp2_with fail
      refine (next_any _ X hX _ hB1).mono ?_
      rintro e w2 ⟨r, rfl, hr, hB2, hK2⟩
      have hA2 := hA1.keep hK2 (by simp; omega)
      obtain ⟨O, hO⟩ : ∃ O : Nat, r &&& (M - 1) = O := ⟨_, rfl⟩
      have lO : O ≤ M - 1 := by rw [← hO]; exact Nat.and_le_right
      have eAnd : bits .and .u64 (r : Int) ((M : Int) - 1) = (O : Int) := by
        rw [show ((M : Int) - 1) = ((M - 1 : Nat) : Int) by omega, bits_and_u64_nat _ _ hr (by omega), hO]
      have m0 : 0 ≤ (M : Int) - 1 := by omega
      have m1 : (M : Int) ≤ 2000000000 := by omega
      have HR := hide hr
      clear hO hr hX
      have kn : (k : Int) < n := by omega
      have ck := hA2.cell (show k < n by omega)
      have fk := hA2.frozen (show k < n by omega)
      by_cases hOl : l ≤ O
      · obtain ⟨o, rfl⟩ : ∃ o, O = l + o := ⟨O - l, by omega⟩
        have e2 : (((l + o : Nat) : Int) - (l : Int)) = (o : Int) := by omega
        have hOl' : (l : Int) ≤ ((l + o : Nat) : Int) := by omega
        obtain ⟨OO, hOO⟩ : ∃ OO : Int, ((l + o : Nat) : Int) = OO := ⟨_, rfl⟩
        have oo1 : OO < 4000000000 := by omega
        have oo0 : 0 ≤ OO := by omega
        have lo : o < l := by omega
        rw [hOO] at e2 eAnd hOl'
        clear hOO hOl lO
        have co := hA2.cell (show a + o < n by omega)
        have fo := hA2.frozen (show a + o < n by omega)
        have b1 : (a : Int) + o < n := by omega
        have x1 : IntKind.i64.wrap ((a : Int) + o) = (a : Int) + o := IntWalk.i64_in _ (by omega)
        have y1 : 0 ≤ (a : Int) + o := by omega
        have z1 : ((a : Int) + o).toNat = a + o := by omega
        obtain ⟨v, hv⟩ := cell?_setCell_some (w := w2) (p := ⟨blk, k, none⟩) (x := .int .u32 (d' (a + o))) (q := ⟨blk, a + o, none⟩) (v := .int .u32 (d' (a + o))) (by go_simp)
        go_wp2
        go_region
        go_wp2
        refine ⟨⟨k + 1, r, swp d' k (a + o), rfl, by omega, by omega, HR.out, hA2.drew.swap (by omega) (by omega), .step d' k (a + o) hS1 (by omega) (by omega) (by omega) (by omega), ?_, ((hB2.drew.other (by simpa using ne1) _).other (by simpa using ne1) _)⟩, by simp [intOf] <;> omega⟩
        exact (((hK1.trans hK2 (by simp) (by simp)).drew.setCell (by simp) _).setCell (by simp) _)
      · have hOl' : ¬ (l : Int) ≤ (O : Int) := by omega
        have lo : O < l := by omega
        clear hOl lO
        have co := hA2.cell (show a + O < n by omega)
        have fo := hA2.frozen (show a + O < n by omega)
        have b1 : (a : Int) + O < n := by omega
        have x1 : IntKind.i64.wrap ((a : Int) + O) = (a : Int) + O := IntWalk.i64_in _ (by omega)
        have y1 : 0 ≤ (a : Int) + O := by omega
        have z1 : ((a : Int) + O).toNat = a + O := by omega
        obtain ⟨v, hv⟩ := cell?_setCell_some (w := w2) (p := ⟨blk, k, none⟩) (x := .int .u32 (d' (a + O))) (q := ⟨blk, a + O, none⟩) (v := .int .u32 (d' (a + O))) (by go_simp)
        go_wp2
        go_region
        go_wp2
        refine ⟨⟨k + 1, r, swp d' k (a + O), rfl, by omega, by omega, HR.out, hA2.drew.swap (by omega) (by omega), .step d' k (a + O) hS1 (by omega) (by omega) (by omega) (by omega), ?_, ((hB2.drew.other (by simpa using ne1) _).other (by simpa using ne1) _)⟩, by simp [intOf] <;> omega⟩
        exact (((hK1.trans hK2 (by simp) (by simp)).drew.setCell (by simp) _).setCell (by simp) _)
    · go_wp2
      go_end0
      exact ⟨d', rfl, hA1, hS1, hK1⟩
end Go.Proofs.YtjhhnidfmoejdaaDoor
