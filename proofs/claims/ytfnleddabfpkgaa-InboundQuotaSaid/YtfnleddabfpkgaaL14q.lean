/- InboundQuota. -/
import Derived.Test.YtfnleddabfpkgaaL14
import Derived.Test.YtfnleddabfpkgaaIn
namespace Go.Proofs.Ytfnleddabfpkgaa
open Go.RowKit
set_option maxRecDepth 10000
set_option linter.unusedVariables false
set_option maxHeartbeats 1000000


def quotaRel (w : World) (p mb : Nat) (most : Int) (len : Nat) (i : Value) (wr : World) : Prop :=
  ∃ (k : Nat) (has : List (Int × Int)), i = .int .i64 k ∧ k ≤ len ∧ k ≤ 60 ∧ SetAt wr p mb has most ∧ Keep [] w wr ∧ Inb.Good has k ∧ has.length ≤ most

theorem quota_walk (most : Int) (a1 : Option Addr) (len1 cap1 : Nat) (z1 : List Int) (w : World) (w0 : (Lit.int .i64 most).wf = true) (r1 : Sh.Rd w (.slice (.int .u32)) z1 [.slice a1 len1 cap1]) :
    Calls Try.prog 4 #[.int .i64 most, .slice a1 len1 cap1] w fun e w' => e = .returned (.bool true) ∧ Below w.heap.size w w' := by
  have hl2 : len1 ≤ maxLen := by obtain ⟨_, h1, h2⟩ := Sh.slice_len r1; omega
  unfold maxLen at hl2
  by_cases h0 : most < 0
  · go_enter Try.func4, Try.ntmps4
    go_wp2_with fail
    refine (awake14 _).mono ?_
    rintro e w2 ⟨rfl, hK2⟩
    go_wp2_with fail
    refine (awake14 _).mono ?_
    rintro e w3 ⟨rfl, hK3⟩
    go_wp2_with fail
    go_ret
    exact ⟨rfl, (hK2.then hK3).below⟩
  by_cases h1 : 50 < most
  · go_enter Try.func4, Try.ntmps4
    go_wp2_with fail
    refine (awake14 _).mono ?_
    rintro e w2 ⟨rfl, hK2⟩
    go_wp2_with fail
    refine (awake14 _).mono ?_
    rintro e w3 ⟨rfl, hK3⟩
    go_wp2_with fail
    go_ret
    exact ⟨rfl, (hK2.then hK3).below⟩
  go_enter Try.func4, Try.ntmps4
  go_wp2_with (first | (go_at_call 16; refine (awake14 _).mono ?_; rintro e w2 ⟨rfl, hK2⟩) | (go_at_call 17; refine (inbNew_any most _).mono ?_; rintro e w3 ⟨⟨p, mb⟩, rfl, hS, hp, hmb, hK3⟩))
  have hKw : Keep [] w w3 := hK2.then hK3
  go_loopw [6] (fun i wr => quotaRel w p mb most len1 i wr) (fun i _ => 60 - (intOf i).toNat)
  case atStart =>
    exact ⟨0, [], rfl, by omega, by omega, by rwa [Int.max_eq_left (by omega)] at hS, hKw, fun x v h => by simp [AL.get] at h, by simp; omega⟩
  case round =>
    obtain ⟨k, has, rfl, hk1, hk2, hS1, hK1, hG, hL⟩ := hrel
    by_cases hlt : k < len1 ∧ k < 60
    · obtain ⟨hlt, h60⟩ := hlt
      obtain ⟨b, off, rfl, hb, hc⟩ := Sh.slice_int r1 (by omega)
      obtain ⟨hcell, hwf⟩ := hc k hlt
      have hcw : wr.cell? ⟨b, off + k, none⟩ = some (.int .u32 (List.getD z1 k 0)) := (hK1.cell (p := ⟨b, off + k, none⟩) hb (by simp)).trans hcell
      obtain ⟨hz0, hz1⟩ := bounds_u32 hwf
      clear hcell hc
      generalize List.getD z1 k 0 = z at hcw hwf hz0 hz1
      obtain ⟨id, hid⟩ : ∃ id, 1 + z % 65535 = id := ⟨_, rfl⟩
      have i1 : 1 ≤ id := by omega
      have i2 : id ≤ 65535 := by omega
      have hv := hG.le (by omega) id
      have nx : ∀ a b : World, Keep [mb] a b → Keep [] w a → Keep [] w b := fun a b h k => k.trans h (by simp) (by simp; have := hK2.size; omega)
      have HS := hide (hG.some id)
      by_cases was : 0 < (AL.get has id).getD 0
      · have hbg := Inb.begin_was (most := most) i1 i2 was
        have HB := hide hbg; clear hbg
        have hlen : (AL.set has id ((AL.get has id).getD 0 + 1)).length = has.length := by rw [AL.length_set, if_pos ((hG.some id).1 was)]
        have hG2 : Inb.Good (AL.set has id ((AL.get has id).getD 0 + 1)) (k + 1) := hG.set (by omega) (by omega)
        have hlm : ¬ most < has.length := by omega
        have HL := hide hlen; clear hlen
        by_cases full : (has.length : Int) = most
        · have hf : ((has.length : Int) == most) = true := by simpa using full
          go_wp2_with fail
          refine (inbTimes_any p mb has most id wr hS1).mono ?_
          rintro e w4 ⟨rfl, rfl⟩
          go_wp2_with fail
          refine (inbLen_any p mb has most wr hS1).mono ?_
          rintro e w5 ⟨rfl, rfl⟩
          go_wp2_with fail
          refine (inbBegin_any p mb has most id _ wr hS1 HB.out (by omega) (by omega) (by omega)).mono ?_
          rintro e w6 ⟨rfl, hS6, hK6⟩
          go_wp2_with fail
          refine (inbLen_any p mb _ most w6 hS6).mono ?_
          rintro e w7 ⟨rfl, rfl⟩
          rw [HL.out]
          go_wp2_with fail
          exact ⟨⟨k + 1, _, rfl, by omega, by omega, hS6, nx _ _ hK6 hK1, hG2, by rw [HL.out]; omega⟩, by simp [intOf]; omega⟩
        · have hf : ((has.length : Int) == most) = false := by simpa using full
          go_wp2_with fail
          refine (inbTimes_any p mb has most id wr hS1).mono ?_
          rintro e w4 ⟨rfl, rfl⟩
          go_wp2_with fail
          refine (inbLen_any p mb has most wr hS1).mono ?_
          rintro e w5 ⟨rfl, rfl⟩
          go_wp2_with fail
          refine (inbBegin_any p mb has most id _ wr hS1 HB.out (by omega) (by omega) (by omega)).mono ?_
          rintro e w6 ⟨rfl, hS6, hK6⟩
          go_wp2_with fail
          refine (inbLen_any p mb _ most w6 hS6).mono ?_
          rintro e w7 ⟨rfl, rfl⟩
          rw [HL.out]
          go_wp2_with fail
          exact ⟨⟨k + 1, _, rfl, by omega, by omega, hS6, nx _ _ hK6 hK1, hG2, by rw [HL.out]; omega⟩, by simp [intOf]; omega⟩
      · have hd : decide (0 < (AL.get has id).getD 0) = false := by simpa using was
        by_cases full : (has.length : Int) = most
        · have hf : ((has.length : Int) == most) = true := by simpa using full
          have hlm : ¬ most < has.length := by omega
          have HB := hide (Inb.begin_full (most := most) i1 i2 was (by omega))
          go_wp2_with fail
          refine (inbTimes_any p mb has most id wr hS1).mono ?_
          rintro e w4 ⟨rfl, rfl⟩
          go_wp2_with fail
          refine (inbLen_any p mb has most wr hS1).mono ?_
          rintro e w5 ⟨rfl, rfl⟩
          go_wp2_with fail
          refine (inbBegin_any p mb has most id _ wr hS1 HB.out (by omega) (by omega) (by omega)).mono ?_
          rintro e w6 ⟨rfl, hS6, hK6⟩
          go_wp2_with fail
          refine (inbLen_any p mb _ most w6 hS6).mono ?_
          rintro e w7 ⟨rfl, rfl⟩
          go_wp2_with fail
          exact ⟨⟨k + 1, has, rfl, by omega, by omega, hS6, nx _ _ hK6 hK1, hG.mono (by omega), by omega⟩, by simp [intOf]; omega⟩
        · have hf : ((has.length : Int) == most) = false := by simpa using full
          have HB := hide (Inb.begin_new (most := most) i1 i2 was (by omega))
          have hnone : ¬ (AL.get has id).isSome = true := fun h => was (HS.out.2 h)
          have HL := hide (AL.length_set has id (1 : Int)); rw [if_neg hnone] at HL
          have hlm : ¬ most < has.length + 1 := by omega
          have hG2 : Inb.Good (AL.set has id 1) (k + 1) := hG.set (by omega) (by omega)
          go_wp2_with fail
          refine (inbTimes_any p mb has most id wr hS1).mono ?_
          rintro e w4 ⟨rfl, rfl⟩
          go_wp2_with fail
          refine (inbLen_any p mb has most wr hS1).mono ?_
          rintro e w5 ⟨rfl, rfl⟩
          go_wp2_with fail
          refine (inbBegin_any p mb has most id _ wr hS1 HB.out (by omega) (by omega) (by omega)).mono ?_
          rintro e w6 ⟨rfl, hS6, hK6⟩
          go_wp2_with fail
          refine (inbLen_any p mb _ most w6 hS6).mono ?_
          rintro e w7 ⟨rfl, rfl⟩
          rw [HL.out]
          go_wp2_with fail
          exact ⟨⟨k + 1, _, rfl, by omega, by omega, hS6, nx _ _ hK6 hK1, hG2, by rw [HL.out]; omega⟩, by simp [intOf]; omega⟩
    · by_cases h1' : k < len1
      · have h2' : ¬ k < 60 := by omega
        clear hlt
        go_wp2
        go_ret
        exact ⟨rfl, hK1.below⟩
      · clear hlt
        go_wp2
        go_ret
        exact ⟨rfl, hK1.below⟩
end Go.Proofs.Ytfnleddabfpkgaa
