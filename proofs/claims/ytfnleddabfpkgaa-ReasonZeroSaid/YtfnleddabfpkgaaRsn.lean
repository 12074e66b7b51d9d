/- Package reason: what each function answers. -/
import Derived.Shelf.Small.Strs
import Derived.Shelf.Strings.Search1
import Derived.Test.YtfnleddabfpkgaaRows
import Derived.Test.YtfnleddabfpkgaaMem
namespace Go.Proofs.Ytfnleddabfpkgaa
open Go.RowKit Go.Shelf
set_option maxRecDepth 10000
set_option linter.unusedVariables false
set_option maxHeartbeats 1000000

def ixLays_ren : Go.Shelf.Ren := ⟨fun | 137 => 44 | 217 => 53 | 266 => 57 | n => n, fun | 9 => 9 | 5 => 5 | 3 => 3 | n => n, fun | n => n⟩
theorem ixLays : Go.Proofs.Lays.n137 Try.prog ixLays_ren := {
  mixed := by kernel_rfl
  f137 := Try.func44.trans (congrArg some (by kernel_rfl))
  f217 := Try.func53.trans (congrArg some (by kernel_rfl))
  f266 := Try.func57.trans (congrArg some (by kernel_rfl))
  t3 := Try.underlying3
  a3 := Try.isAgg3
  z3 := Try.sizeOf3
  v3 := Try.zeroValue3
  t5 := Try.underlying5
  a5 := Try.isAgg5
  z5 := Try.sizeOf5
  v5 := Try.zeroValue5
  t9 := Try.underlying9
  a9 := Try.isAgg9
  z9 := Try.sizeOf9
  v9 := Try.zeroValue9 }
open Go.RowKit in
/-- strings.IndexByte: "IndexByte returns the index of the first instance of c in s, or -1 if c is not present in s.": IT RETURNS 'Lib.indexByte s c'; the world is as it was. (LAID: no walk: one application.) -/
theorem strings_IndexByte (s : ByteArray) (c : Int) (w : World) :
    Calls Try.prog 44 #[.string s, .int .u8 c] w fun e w' => e = .returned (.int .i64 (Lib.indexByte s.data.toList c.toNat.toUInt8)) ∧ w' = w := Any.strings_IndexByte ixLays s c w

def Rsn.codes (k : Int) : List UInt8 :=
  if k = 2 then [0, 128, 129, 130, 131, 132, 133, 134, 135, 136, 137, 138, 140, 144, 149, 151, 153, 154, 155, 156, 157, 159]
  else if k = 4 ∨ k = 5 then [0, 16, 128, 131, 135, 144, 145, 151, 153]
  else if k = 6 ∨ k = 7 then [0, 146]
  else if k = 9 then [0, 1, 2, 128, 131, 135, 143, 145, 151, 158, 161, 162]
  else if k = 11 then [0, 17, 128, 131, 135, 143, 145]
  else if k = 14 then [0, 4, 128, 129, 130, 131, 135, 137, 139, 141, 142, 143, 144, 147, 148, 149, 150, 151, 152, 153, 154, 155, 156, 157, 158, 159, 160, 161, 162]
  else if k = 15 then [0, 24, 25]
  else []

def Rsn.of (e : Int) : Int :=
  if e = 0 then 0
  else if e = 1 ∨ e = 2 then 129
  else if e = 3 then 130
  else if e = 4 then 149
  else if e = 9 then 144
  else if e = 10 then 143
  else if e = 11 then 148
  else if e = 12 then 147
  else if e = 14 then 132
  else 128

def Rsn.may (k c : Int) : Bool := (Rsn.codes k).contains c.toNat.toUInt8

theorem indexByte_mem (l : List UInt8) (c : UInt8) : decide (0 ≤ Lib.indexByte l c) = l.contains c ∧ -1 ≤ Lib.indexByte l c := by
  induction l with
  | nil => simp [Lib.indexByte]
  | cons b l ih =>
    obtain ⟨h1, h2⟩ := ih
    simp only [Lib.indexByte, List.contains_cons]
    by_cases e : b = c
    · subst e; simp
    · have e1 : (b == c) = false := by simpa using e
      have e2 : (c == b) = false := by simpa using fun h : c = b => e h.symm
      simp only [e1, e2, Bool.false_or, Bool.false_eq_true, if_false]
      by_cases m : Lib.indexByte l c = -1
      · simp only [m, beq_self_eq_true, if_true] at *
        exact ⟨h1, by omega⟩
      · have m' : (Lib.indexByte l c == -1) = false := by simpa using m
        simp only [m', Bool.false_eq_true, if_false]
        refine ⟨?_, by omega⟩
        rw [← h1, decide_eq_decide]; omega

theorem codes_any (k : Int) (w : World) : Calls Try.prog 45 #[.int .i64 k] w fun e w' => e = .returned (.string ⟨(Rsn.codes k).toArray⟩) ∧ w = w' := by
  have hk : k = 2 ∨ k = 4 ∨ k = 5 ∨ k = 6 ∨ k = 7 ∨ k = 9 ∨ k = 11 ∨ k = 14 ∨ k = 15 ∨ (k ≠ 2 ∧ k ≠ 4 ∧ k ≠ 5 ∧ k ≠ 6 ∧ k ≠ 7 ∧ k ≠ 9 ∧ k ≠ 11 ∧ k ≠ 14 ∧ k ≠ 15) := by omega
  rcases hk with rfl | rfl | rfl | rfl | rfl | rfl | rfl | rfl | rfl | ⟨n2, n4, n5, n6, n7, n9, n11, n14, n15⟩
  case' inr.inr.inr.inr.inr.inr.inr.inr.inr =>
    have hc : Rsn.codes k = [] := by unfold Rsn.codes; simp [n2, n4, n5, n6, n7, n9, n11, n14, n15]
    rw [hc]
    clear hc
    have b2 : (k == 2) = false := by simpa using n2
    have b4 : (k == 4) = false := by simpa using n4
    have b5 : (k == 5) = false := by simpa using n5
    have b6 : (k == 6) = false := by simpa using n6
    have b7 : (k == 7) = false := by simpa using n7
    have b9 : (k == 9) = false := by simpa using n9
    have b11 : (k == 11) = false := by simpa using n11
    have b14 : (k == 14) = false := by simpa using n14
    have b15 : (k == 15) = false := by simpa using n15

  all_goals
    go_enter Try.func45, Try.ntmps45
    go_wp2
    go_ret
    exact ⟨rfl, rfl⟩

theorem rsnOf_any (x : Int) (w : World) : Calls Try.prog 34 #[.int .i64 x] w fun e w' => e = .returned (.int .u8 (Rsn.of x)) ∧ w = w' := by
  have hk : x = 0 ∨ x = 1 ∨ x = 2 ∨ x = 3 ∨ x = 4 ∨ x = 9 ∨ x = 10 ∨ x = 11 ∨ x = 12 ∨ x = 14 ∨ (x ≠ 0 ∧ x ≠ 1 ∧ x ≠ 2 ∧ x ≠ 3 ∧ x ≠ 4 ∧ x ≠ 9 ∧ x ≠ 10 ∧ x ≠ 11 ∧ x ≠ 12 ∧ x ≠ 14) := by omega
  rcases hk with rfl | rfl | rfl | rfl | rfl | rfl | rfl | rfl | rfl | rfl | ⟨n0, n1, n2, n3, n4, n9, n10, n11, n12, n14⟩
  case' inr.inr.inr.inr.inr.inr.inr.inr.inr.inr =>
    have hc : Rsn.of x = 128 := by unfold Rsn.of; simp [n0, n1, n2, n3, n4, n9, n10, n11, n12, n14]
    rw [hc]
    clear hc
    have b0 : (x == 0) = false := by simpa using n0
    have b1 : (x == 1) = false := by simpa using n1
    have b2 : (x == 2) = false := by simpa using n2
    have b3 : (x == 3) = false := by simpa using n3
    have b4 : (x == 4) = false := by simpa using n4
    have b9 : (x == 9) = false := by simpa using n9
    have b10 : (x == 10) = false := by simpa using n10
    have b11 : (x == 11) = false := by simpa using n11
    have b12 : (x == 12) = false := by simpa using n12
    have b14 : (x == 14) = false := by simpa using n14

  all_goals
    go_enter Try.func34, Try.ntmps34
    go_wp2
    go_ret
    exact ⟨rfl, rfl⟩

theorem rsnGood_any (c : Int) (w : World) : Calls Try.prog 32 #[.int .u8 c] w fun e w' => e = .returned (.bool (decide (c < 128))) ∧ w = w' := by
  go_enter Try.func32, Try.ntmps32
  go_wp2
  go_ret
  exact ⟨rfl, rfl⟩

theorem rsnMay_any (k c : Int) (w : World) : Calls Try.prog 30 #[.int .i64 k, .int .u8 c] w fun e w' => e = .returned (.bool (Rsn.may k c)) ∧ w = w' := by
  have hi := (indexByte_mem (Rsn.codes k) c.toNat.toUInt8).1
  have HI := hide hi
  clear hi
  go_enter Try.func30, Try.ntmps30
  go_wp2_with fail
  refine (codes_any k _).mono ?_
  rintro e w1 ⟨rfl, rfl⟩
  go_wp2_with fail
  refine (strings_IndexByte _ c _).mono ?_
  rintro e w1 ⟨rfl, rfl⟩
  go_wp2_with fail
  go_ret
  exact ⟨congrArg (fun b => Ending.returned (Value.bool b)) HI.out, rfl⟩

theorem rsnCodes_any (k : Int) (w : World) : Calls Try.prog 33 #[.int .i64 k] w (Px fun (x : Nat × Nat × Array Value) e w' =>
    e = .returned (.slice (some ⟨x.1, 0, none⟩) (Rsn.codes k).length x.2.1) ∧ Blk w' x.1 x.2.2 5 ∧ (∀ i (h : i < (Rsn.codes k).length), x.2.2[i]? = some (.int .u8 ((Rsn.codes k)[i].toNat : Int))) ∧ w.heap.size ≤ x.1 ∧ Keep [] w w') := by
  have hcv := fun w => run_bytes_of_string (P := Try.prog) w 9 48 5 ⟨(Rsn.codes k).toArray⟩ Try.underlying9 Try.underlying48 Try.underlying5
  go_enter Try.func33, Try.ntmps33
  go_wp2_with fail
  refine (codes_any k _).mono ?_
  rintro e w1 ⟨rfl, rfl⟩
  go_wp2_with fail
  go_ret
  refine ⟨(w.heap.size, _, bytesRow ⟨(Rsn.codes k).toArray⟩ _), rfl, Blk.newMark w.drew _ _ (Or.inr (Nat.le_refl _)), ?_, Nat.le_refl _, ((Keep.refl _ _).drew).alloc _⟩
  intro i h
  exact bytesRow_at _ _ _ (by simpa using h)
end Go.Proofs.Ytfnleddabfpkgaa
