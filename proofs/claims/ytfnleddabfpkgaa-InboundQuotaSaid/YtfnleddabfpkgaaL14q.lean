/- InboundQuota. -/
import Derived.Test.YtfnleddabfpkgaaL14
import Derived.Test.YtfnleddabfpkgaaSlice
namespace Go.Proofs.Ytfnleddabfpkgaa
open Go.RowKit
set_option maxRecDepth 10000
set_option linter.unusedVariables false
set_option maxHeartbeats 4000000

namespace Inb
def Good (has : List (Int × Int)) (n : Int) : Prop := ∀ x v, AL.get has x = some v → 0 < v ∧ v ≤ n

theorem begin_was {has : List (Int × Int)} {most id : Int} (h1 : 1 ≤ id) (h2 : id ≤ 65535) (hp : 0 < (AL.get has id).getD 0) : begin has most id = (false, 0, AL.set has id ((AL.get has id).getD 0 + 1)) := by
  unfold begin; rw [if_neg (by omega), if_pos hp]
theorem begin_full {has : List (Int × Int)} {most id : Int} (h1 : 1 ≤ id) (h2 : id ≤ 65535) (hp : ¬ 0 < (AL.get has id).getD 0) (hf : most ≤ has.length) : begin has most id = (false, 12, has) := by
  unfold begin; rw [if_neg (by omega), if_neg hp, if_pos hf]
theorem begin_new {has : List (Int × Int)} {most id : Int} (h1 : 1 ≤ id) (h2 : id ≤ 65535) (hp : ¬ 0 < (AL.get has id).getD 0) (hf : ¬ most ≤ has.length) : begin has most id = (true, 0, AL.set has id 1) := by
  unfold begin; rw [if_neg (by omega), if_neg hp, if_neg hf]

theorem Good.mono {has : List (Int × Int)} {n m : Int} (h : Good has n) (hm : n ≤ m) : Good has m := fun x v e => by have := h x v e; omega
theorem Good.set {has : List (Int × Int)} {n v id : Int} (h : Good has n) (h1 : 0 < v) (h2 : v ≤ n + 1) : Good (AL.set has id v) (n + 1) := by
  intro x y e
  rw [AL.get_set] at e
  split at e
  · simp at e; omega
  · have := h x y e; omega
theorem Good.le {has : List (Int × Int)} {n : Int} (h : Good has n) (hn : 0 ≤ n) (id : Int) : (AL.get has id).getD 0 ≤ n := by
  cases e : AL.get has id with
  | none => simpa using hn
  | some v => simpa using (h id v e).2
theorem Good.some {has : List (Int × Int)} {n : Int} (h : Good has n) (id : Int) : 0 < (AL.get has id).getD 0 ↔ (AL.get has id).isSome = true := by
  cases e : AL.get has id with
  | none => simp
  | some v => simpa using (h id v e).1
end Inb

def quotaRel (w : World) (p mb : Nat) (most : Int) (len : Nat) (i : Value) (wr : World) : Prop :=
  ∃ (k : Nat) (has : List (Int × Int)), i = .int .i64 k ∧ k ≤ len ∧ k ≤ 60 ∧ SetAt wr p mb has most ∧ Keep [] w wr ∧ Inb.Good has k ∧ has.length ≤ most

theorem quota_walk (most : Int) (a1 : Option Addr) (len1 cap1 : Nat) (z1 : List Int) (w : World) (w0 : (Lit.int .i64 most).wf = true) (w1 : IsRow .u32 w a1 len1 cap1 z1) :
    Calls Try.prog 4 #[.int .i64 most, .slice a1 len1 cap1] w fun e w' => e = .returned (.bool true) ∧ Below w.heap.size w w' := by
  obtain ⟨hl1, hl2⟩ := w1.len_le
  unfold maxLen at hl2
  by_cases h0 : most < 0
  · go_enter Try.func4, Try.ntmps4
    go_wp2_with fail
    refine (awake14 _).mono ?_
    rintro e w2 ⟨rfl, hK2⟩
    go_wp2_with fail
    refine (awake14 _).mono ?_
    rintro e w3 ⟨rfl, hK3⟩
    go_wp2_with fail
    go_ret
    exact ⟨rfl, (hK2.then hK3).below⟩
  by_cases h1 : 50 < most
  · go_enter Try.func4, Try.ntmps4
    go_wp2_with fail
    refine (awake14 _).mono ?_
    rintro e w2 ⟨rfl, hK2⟩
    go_wp2_with fail
    refine (awake14 _).mono ?_
    rintro e w3 ⟨rfl, hK3⟩
    go_wp2_with fail
    go_ret
    exact ⟨rfl, (hK2.then hK3).below⟩
  go_enter Try.func4, Try.ntmps4
  go_wp2_with (first | (go_at_call 16; refine (awake14 _).mono ?_; rintro e w2 ⟨rfl, hK2⟩) | (go_at_call 17; refine (inbNew_any most _).mono ?_; rintro e w3 ⟨⟨p, mb⟩, rfl, hS, hp, hmb, hK3⟩))
  have hKw : Keep [] w w3 := hK2.then hK3
  go_loopw [6] (fun i wr => quotaRel w p mb most len1 i wr) (fun i _ => 60 - (intOf i).toNat)
  case atStart =>
    exact ⟨0, [], rfl, by omega, by omega, by rwa [Int.max_eq_left (by omega)] at hS, hKw, fun x v h => by simp [AL.get] at h, by simp; omega⟩
  case round =>
    obtain ⟨k, has, rfl, hk1, hk2, hS1, hK1, hG, hL⟩ := hrel
    by_cases hlt : k < len1 ∧ k < 60
    · obtain ⟨hlt, h60⟩ := hlt
      obtain ⟨b, off, rfl, hc⟩ := w1.read (by omega)
      obtain ⟨hcell, hwf⟩ := hc k hlt
      have hb : b < w.heap.size := World.block_lt_of_cell? _ _ hcell
      have hcw : wr.cell? ⟨b, off + k, none⟩ = some (.int .u32 (z1.getD k 0)) := (hK1.cell (p := ⟨b, off + k, none⟩) hb (by simp)).trans hcell
      obtain ⟨hz0, hz1⟩ := bounds_u32 hwf
      clear hcell hc
      generalize z1.getD k 0 = z at hcw hwf hz0 hz1
      obtain ⟨id, hid⟩ : ∃ id, 1 + z % 65535 = id := ⟨_, rfl⟩
      have i1 : 1 ≤ id := by omega
      have i2 : id ≤ 65535 := by omega
      have hv := hG.le (by omega) id
      have nx : ∀ a b : World, Keep [mb] a b → Keep [] w a → Keep [] w b := fun a b h k => k.trans h (by simp) (by simp; have := hK2.size; omega)
      have HS := hide (hG.some id)
      by_cases was : 0 < (AL.get has id).getD 0
      · have hbg := Inb.begin_was (most := most) i1 i2 was
        have HB := hide hbg; clear hbg
        have hlen : (AL.set has id ((AL.get has id).getD 0 + 1)).length = has.length := by rw [AL.length_set, if_pos ((hG.some id).1 was)]
        have hG2 : Inb.Good (AL.set has id ((AL.get has id).getD 0 + 1)) (k + 1) := hG.set (by omega) (by omega)
        have hlm : ¬ most < has.length := by omega
        have HL := hide hlen; clear hlen
        by_cases full : (has.length : Int) = most
        · have hf : ((has.length : Int) == most) = true := by simpa using full
          go_wp2_with fail
          refine (inbTimes_any p mb has most id wr hS1).mono ?_
          rintro e w4 ⟨rfl, rfl⟩
          go_wp2_with fail
          refine (inbLen_any p mb has most wr hS1).mono ?_
          rintro e w5 ⟨rfl, rfl⟩
          go_wp2_with fail
          refine (inbBegin_any p mb has most id _ wr hS1 HB.out (by omega) (by omega) (by omega)).mono ?_
          rintro e w6 ⟨rfl, hS6, hK6⟩
          go_wp2_with fail
          refine (inbLen_any p mb _ most w6 hS6).mono ?_
          rintro e w7 ⟨rfl, rfl⟩
          rw [HL.out]
          go_wp2_with fail
          exact ⟨⟨k + 1, _, rfl, by omega, by omega, hS6, nx _ _ hK6 hK1, hG2, by rw [HL.out]; omega⟩, by simp [intOf]; omega⟩
        · have hf : ((has.length : Int) == most) = false := by simpa using full
          go_wp2_with fail
          refine (inbTimes_any p mb has most id wr hS1).mono ?_
          rintro e w4 ⟨rfl, rfl⟩
          go_wp2_with fail
          refine (inbLen_any p mb has most wr hS1).mono ?_
          rintro e w5 ⟨rfl, rfl⟩
          go_wp2_with fail
          refine (inbBegin_any p mb has most id _ wr hS1 HB.out (by omega) (by omega) (by omega)).mono ?_
          rintro e w6 ⟨rfl, hS6, hK6⟩
          go_wp2_with fail
          refine (inbLen_any p mb _ most w6 hS6).mono ?_
          rintro e w7 ⟨rfl, rfl⟩
          rw [HL.out]
          go_wp2_with fail
          exact ⟨⟨k + 1, _, rfl, by omega, by omega, hS6, nx _ _ hK6 hK1, hG2, by rw [HL.out]; omega⟩, by simp [intOf]; omega⟩
      · have hd : decide (0 < (AL.get has id).getD 0) = false := by simpa using was
        by_cases full : (has.length : Int) = most
        · have hf : ((has.length : Int) == most) = true := by simpa using full
          have hlm : ¬ most < has.length := by omega
          have HB := hide (Inb.begin_full (most := most) i1 i2 was (by omega))
          go_wp2_with fail
          refine (inbTimes_any p mb has most id wr hS1).mono ?_
          rintro e w4 ⟨rfl, rfl⟩
          go_wp2_with fail
          refine (inbLen_any p mb has most wr hS1).mono ?_
          rintro e w5 ⟨rfl, rfl⟩
          go_wp2_with fail
          refine (inbBegin_any p mb has most id _ wr hS1 HB.out (by omega) (by omega) (by omega)).mono ?_
          rintro e w6 ⟨rfl, hS6, hK6⟩
          go_wp2_with fail
          refine (inbLen_any p mb _ most w6 hS6).mono ?_
          rintro e w7 ⟨rfl, rfl⟩
          go_wp2_with fail
          exact ⟨⟨k + 1, has, rfl, by omega, by omega, hS6, nx _ _ hK6 hK1, hG.mono (by omega), by omega⟩, by simp [intOf]; omega⟩
        · have hf : ((has.length : Int) == most) = false := by simpa using full
          have HB := hide (Inb.begin_new (most := most) i1 i2 was (by omega))
          have hnone : ¬ (AL.get has id).isSome = true := fun h => was (HS.out.2 h)
          have HL := hide (AL.length_set has id (1 : Int)); rw [if_neg hnone] at HL
          have hlm : ¬ most < has.length + 1 := by omega
          have hG2 : Inb.Good (AL.set has id 1) (k + 1) := hG.set (by omega) (by omega)
          go_wp2_with fail
          refine (inbTimes_any p mb has most id wr hS1).mono ?_
          rintro e w4 ⟨rfl, rfl⟩
          go_wp2_with fail
          refine (inbLen_any p mb has most wr hS1).mono ?_
          rintro e w5 ⟨rfl, rfl⟩
          go_wp2_with fail
          refine (inbBegin_any p mb has most id _ wr hS1 HB.out (by omega) (by omega) (by omega)).mono ?_
          rintro e w6 ⟨rfl, hS6, hK6⟩
          go_wp2_with fail
          refine (inbLen_any p mb _ most w6 hS6).mono ?_
          rintro e w7 ⟨rfl, rfl⟩
          rw [HL.out]
          go_wp2_with fail
          exact ⟨⟨k + 1, _, rfl, by omega, by omega, hS6, nx _ _ hK6 hK1, hG2, by rw [HL.out]; omega⟩, by simp [intOf]; omega⟩
    · by_cases h1' : k < len1
      · have h2' : ¬ k < 60 := by omega
        clear hlt
        go_wp2
        go_ret
        exact ⟨rfl, hK1.below⟩
      · clear hlt
        go_wp2
        go_ret
        exact ⟨rfl, hK1.below⟩
end Go.Proofs.Ytfnleddabfpkgaa
