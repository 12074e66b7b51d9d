/- InboundOnce. -/
import Derived.Test.YtfnleddabfpkgaaL14
import Derived.Test.YtfnleddabfpkgaaIn
namespace Go.Proofs.Ytfnleddabfpkgaa
open Go.RowKit
set_option maxRecDepth 10000
set_option linter.unusedVariables false
set_option maxHeartbeats 1000000

def onceRel (w : World) (p mb : Nat) (id : Int) (len : Nat) (wt i : Value) (wr : World) : Prop :=
  ∃ (k : Nat) (has : List (Int × Int)), wt = .bool (AL.get has id).isSome ∧ i = .int .i64 k ∧ k ≤ len ∧ k ≤ 40 ∧ SetAt wr p mb has 1000 ∧ Keep [] w wr ∧ Inb.Good has (2 * k) ∧ has.length ≤ 2 * k

theorem once_walk (a0 : Int) (a1 : Option Addr) (len1 cap1 : Nat) (z1 : List Bool) (a2 : Option Addr) (len2 cap2 : Nat) (z2 : List Int) (w : World) (w0 : (Lit.int .u32 a0).wf = true) (r1 : Sh.Rd w (.slice .bool) z1 [.slice a1 len1 cap1]) (r2 : Sh.Rd w (.slice (.int .u32)) z2 [.slice a2 len2 cap2]) :
    Calls Try.prog 3 #[.int .u32 a0, .slice a1 len1 cap1, .slice a2 len2 cap2] w fun e w' => e = .returned (.bool true) ∧ Below w.heap.size w w' := by
  have hl1 : len1 ≤ maxLen := by obtain ⟨_, h1, h2⟩ := Sh.slice_len r1; omega
  have hl2 : len2 ≤ maxLen := by obtain ⟨_, h1, h2⟩ := Sh.slice_len r2; omega
  unfold maxLen at hl1 hl2
  obtain ⟨ha0, ha1⟩ := bounds_u32 w0
  obtain ⟨id, hid⟩ : ∃ id, 1 + a0 % 65535 = id := ⟨_, rfl⟩
  have i1 : 1 ≤ id := by omega
  have i2 : id ≤ 65535 := by omega
  go_enter Try.func3, Try.ntmps3
  go_wp2_with fail
  refine (awake14 _).mono ?_
  rintro e w2 ⟨rfl, hK2⟩
  go_wp2_with fail
  refine (inbNew_any 1000 _).mono ?_
  rintro e w3 ⟨⟨p, mb⟩, rfl, hS, hp, hmb, hK3⟩
  have hKw : Keep [] w w3 := hK2.then hK3
  have nx : ∀ a b : World, Keep [mb] a b → Keep [] w a → Keep [] w b := fun a b h k => k.trans h (by simp) (by simp; have := hK2.size; omega)
  go_wp2_with fail
  go_loopw [8, 9] (fun wt i wr => onceRel w p mb id len1 wt i wr) (fun _ i _ => 40 - (intOf i).toNat)
  case atStart =>
    exact ⟨0, [], rfl, rfl, by omega, by omega, hS, hKw, fun x v h => by simp [AL.get] at h, by simp⟩
  case round =>
    obtain ⟨k, has, rfl, rfl, hk1, hk2, hS1, hK1, hG, hL⟩ := hrel
    by_cases hlt : k < len1 ∧ k < 40
    · obtain ⟨hlt, h60⟩ := hlt
      obtain ⟨b, off, rfl, hb, hc⟩ := Sh.slice_bool r1 (by omega)
      have hcell := hc k hlt
      clear hc
      have hcw : wr.cell? ⟨b, off + k, none⟩ = some (.bool (List.getD z1 k false)) := (hK1.cell (p := ⟨b, off + k, none⟩) hb (by simp)).trans hcell
      generalize List.getD z1 k false = bk at hcell hcw
      -- what follows the optional call: from a world wr' and a list has'
      have HG := hide hG
      have HNX := hide nx; clear nx
      by_cases hlo : k < len2
      · obtain ⟨b2, off2, rfl, hb2, hc2⟩ := Sh.slice_int r2 (by omega)
        obtain ⟨hcell2, hwf2⟩ := hc2 k hlo
        clear hc2
        have hcw2 : wr.cell? ⟨b2, off2 + k, none⟩ = some (.int .u32 (List.getD z2 k 0)) := (hK1.cell (p := ⟨b2, off2 + k, none⟩) hb2 (by simp)).trans hcell2
        obtain ⟨hz0, hz1⟩ := bounds_u32 hwf2
        clear hcell2
        generalize List.getD z2 k 0 = o at hcw2 hwf2 hz0 hz1
        by_cases ho : o = id
        · have ho' : id = o := ho.symm
          clear ho
          subst ho'
          have hob : (id != id) = false := by simp
          cases bk with
          | true =>
            have HE : Hid (AL.get has id = AL.get has id) := hide rfl
            have HG1 : Hid (Inb.Good has (2 * k + 1)) := hide (HG.out.mono (by omega))
            have HL1 : Hid (has.length ≤ 2 * k + 1) := hide (by omega)
            go_wp2_with fail
            refine (inbEnd_any p mb has 1000 id wr hS1).mono ?_
            rintro e w6 ⟨rfl, hS6, hK6⟩
            try rw [HE.out]
            go_wp2_with fail
            have hnd : (AL.keys has).Nodup := hS1.2.nodup
            refine ⟨⟨k + 1, AL.del has id, by rw [AL.get_del hnd, if_pos rfl]; rfl, rfl, by omega, by omega, hS6, HNX.out _ _ hK6 hK1, (HG1.out.del hnd id).mono (by omega), ?_⟩, by simp [intOf]; omega⟩
            have := AL.length_del has id; have := HL1.out; split at * <;> omega
          | false =>
            by_cases was : (AL.get has id).isSome = true
            · have was0 : 0 < (AL.get has id).getD 0 := (HG.out.some id).2 was
              have HE : Hid (AL.get has id = AL.get has id) := hide rfl
              have HG1 : Hid (Inb.Good has (2 * k + 1)) := hide (HG.out.mono (by omega))
              have HL1 : Hid (has.length ≤ 2 * k + 1) := hide (by omega)
              have was1 : 0 < (AL.get has id).getD 0 := by first | exact was0 | (rw [HE.out]; omega) | omega
              have HB := hide (Inb.begin_was (most := 1000) i1 i2 was1)
              have hv := HG1.out.le (by omega) id
              go_wp2_with fail
              refine (inbBegin_any p mb has 1000 id _ wr hS1 HB.out (by omega) (by omega) (by omega)).mono ?_
              rintro e w6 ⟨rfl, hS6, hK6⟩
              go_wp2_with fail
              refine ⟨⟨k + 1, _, by rw [AL.get_set, if_pos rfl]; rfl, rfl, by omega, by omega, hS6, HNX.out _ _ hK6 hK1, (HG1.out.set (by omega) (by omega)).mono (by omega), ?_⟩, by simp [intOf]; omega⟩
              have := AL.length_set has id ((AL.get has id).getD 0 + 1); have := HL1.out; split at * <;> omega
            · have was0 : ¬ 0 < (AL.get has id).getD 0 := fun h => was ((HG.out.some id).1 h)
              have was' : (AL.get has id).isSome = false := by simpa using was
              have HE : Hid (AL.get has id = AL.get has id) := hide rfl
              have HG1 : Hid (Inb.Good has (2 * k + 1)) := hide (HG.out.mono (by omega))
              have HL1 : Hid (has.length ≤ 2 * k + 1) := hide (by omega)
              have was1 : ¬ 0 < (AL.get has id).getD 0 := by first | exact was0 | (rw [HE.out]; omega) | omega
              have HB := hide (Inb.begin_new (most := 1000) i1 i2 was1 (by have := HL1.out; omega))
              have hv := HG1.out.le (by omega) id
              go_wp2_with fail
              refine (inbBegin_any p mb has 1000 id _ wr hS1 HB.out (by omega) (by omega) (by omega)).mono ?_
              rintro e w6 ⟨rfl, hS6, hK6⟩
              go_wp2_with fail
              refine ⟨⟨k + 1, _, by rw [AL.get_set, if_pos rfl]; rfl, rfl, by omega, by omega, hS6, HNX.out _ _ hK6 hK1, (HG1.out.set (by omega) (by omega)).mono (by omega), ?_⟩, by simp [intOf]; omega⟩
              have := AL.length_set has id (1 : Int); have := HL1.out; split at * <;> omega
        · have hob : (o != id) = true := by simpa using ho
          cases bk with
          | true =>
            have hv0 := HG.out.le (by omega) o
            have HO := hide (Inb.begin_other (most := 1000) HG.out (by omega) ho)
            go_wp2_with fail
            refine (inbBegin_any p mb has 1000 o _ wr hS1 rfl (by omega) (by omega) (by omega)).mono ?_
            rintro e w5 ⟨rfl, hS5, hK5⟩
            have hcw5 : w5.cell? ⟨b, off + k, none⟩ = wr.cell? ⟨b, off + k, none⟩ := hK5.cell (p := ⟨b, off + k, none⟩) (Nat.lt_of_lt_of_le hb hK1.size) (by simp; have := hK2.size; omega)
            rw [hcw] at hcw5
            have hKw5 := HNX.out _ _ hK5 hK1
            generalize (Inb.begin has 1000 o).2.2 = has1 at hS5 HO
            have HG1 := hide HO.out.1
            have HE := hide HO.out.2.1
            have HL1 : Hid (has1.length ≤ 2 * k + 1) := hide (by have := HO.out.2.2; omega)
            clear HO
            go_wp2_with fail
            refine (inbEnd_any p mb has1 1000 id w5 hS5).mono ?_
            rintro e w6 ⟨rfl, hS6, hK6⟩
            try rw [HE.out]
            go_wp2_with fail
            have hnd : (AL.keys has1).Nodup := hS5.2.nodup
            refine ⟨⟨k + 1, AL.del has1 id, by rw [AL.get_del hnd, if_pos rfl]; rfl, rfl, by omega, by omega, hS6, HNX.out _ _ hK6 hKw5, (HG1.out.del hnd id).mono (by omega), ?_⟩, by simp [intOf]; omega⟩
            have := AL.length_del has1 id; have := HL1.out; split at * <;> omega
          | false =>
            by_cases was : (AL.get has id).isSome = true
            · have was0 : 0 < (AL.get has id).getD 0 := (HG.out.some id).2 was
              have hv0 := HG.out.le (by omega) o
              have HO := hide (Inb.begin_other (most := 1000) HG.out (by omega) ho)
              go_wp2_with fail
              refine (inbBegin_any p mb has 1000 o _ wr hS1 rfl (by omega) (by omega) (by omega)).mono ?_
              rintro e w5 ⟨rfl, hS5, hK5⟩
              have hcw5 : w5.cell? ⟨b, off + k, none⟩ = wr.cell? ⟨b, off + k, none⟩ := hK5.cell (p := ⟨b, off + k, none⟩) (Nat.lt_of_lt_of_le hb hK1.size) (by simp; have := hK2.size; omega)
              rw [hcw] at hcw5
              have hKw5 := HNX.out _ _ hK5 hK1
              generalize (Inb.begin has 1000 o).2.2 = has1 at hS5 HO
              have HG1 := hide HO.out.1
              have HE := hide HO.out.2.1
              have HL1 : Hid (has1.length ≤ 2 * k + 1) := hide (by have := HO.out.2.2; omega)
              clear HO
              have was1 : 0 < (AL.get has1 id).getD 0 := by first | exact was0 | (rw [HE.out]; omega) | omega
              have HB := hide (Inb.begin_was (most := 1000) i1 i2 was1)
              have hv := HG1.out.le (by omega) id
              go_wp2_with fail
              refine (inbBegin_any p mb has1 1000 id _ w5 hS5 HB.out (by omega) (by omega) (by omega)).mono ?_
              rintro e w6 ⟨rfl, hS6, hK6⟩
              go_wp2_with fail
              refine ⟨⟨k + 1, _, by rw [AL.get_set, if_pos rfl]; rfl, rfl, by omega, by omega, hS6, HNX.out _ _ hK6 hKw5, (HG1.out.set (by omega) (by omega)).mono (by omega), ?_⟩, by simp [intOf]; omega⟩
              have := AL.length_set has1 id ((AL.get has1 id).getD 0 + 1); have := HL1.out; split at * <;> omega
            · have was0 : ¬ 0 < (AL.get has id).getD 0 := fun h => was ((HG.out.some id).1 h)
              have was' : (AL.get has id).isSome = false := by simpa using was
              have hv0 := HG.out.le (by omega) o
              have HO := hide (Inb.begin_other (most := 1000) HG.out (by omega) ho)
              go_wp2_with fail
              refine (inbBegin_any p mb has 1000 o _ wr hS1 rfl (by omega) (by omega) (by omega)).mono ?_
              rintro e w5 ⟨rfl, hS5, hK5⟩
              have hcw5 : w5.cell? ⟨b, off + k, none⟩ = wr.cell? ⟨b, off + k, none⟩ := hK5.cell (p := ⟨b, off + k, none⟩) (Nat.lt_of_lt_of_le hb hK1.size) (by simp; have := hK2.size; omega)
              rw [hcw] at hcw5
              have hKw5 := HNX.out _ _ hK5 hK1
              generalize (Inb.begin has 1000 o).2.2 = has1 at hS5 HO
              have HG1 := hide HO.out.1
              have HE := hide HO.out.2.1
              have HL1 : Hid (has1.length ≤ 2 * k + 1) := hide (by have := HO.out.2.2; omega)
              clear HO
              have was1 : ¬ 0 < (AL.get has1 id).getD 0 := by first | exact was0 | (rw [HE.out]; omega) | omega
              have HB := hide (Inb.begin_new (most := 1000) i1 i2 was1 (by have := HL1.out; omega))
              have hv := HG1.out.le (by omega) id
              go_wp2_with fail
              refine (inbBegin_any p mb has1 1000 id _ w5 hS5 HB.out (by omega) (by omega) (by omega)).mono ?_
              rintro e w6 ⟨rfl, hS6, hK6⟩
              go_wp2_with fail
              refine ⟨⟨k + 1, _, by rw [AL.get_set, if_pos rfl]; rfl, rfl, by omega, by omega, hS6, HNX.out _ _ hK6 hKw5, (HG1.out.set (by omega) (by omega)).mono (by omega), ?_⟩, by simp [intOf]; omega⟩
              have := AL.length_set has1 id (1 : Int); have := HL1.out; split at * <;> omega
      · have hlo' : decide ((k : Int) < (len2 : Int)) = false := by simpa using hlo
        cases bk with
        | true =>
          have HE : Hid (AL.get has id = AL.get has id) := hide rfl
          have HG1 : Hid (Inb.Good has (2 * k + 1)) := hide (HG.out.mono (by omega))
          have HL1 : Hid (has.length ≤ 2 * k + 1) := hide (by omega)
          go_wp2_with fail
          refine (inbEnd_any p mb has 1000 id wr hS1).mono ?_
          rintro e w6 ⟨rfl, hS6, hK6⟩
          try rw [HE.out]
          go_wp2_with fail
          have hnd : (AL.keys has).Nodup := hS1.2.nodup
          refine ⟨⟨k + 1, AL.del has id, by rw [AL.get_del hnd, if_pos rfl]; rfl, rfl, by omega, by omega, hS6, HNX.out _ _ hK6 hK1, (HG1.out.del hnd id).mono (by omega), ?_⟩, by simp [intOf]; omega⟩
          have := AL.length_del has id; have := HL1.out; split at * <;> omega
        | false =>
          by_cases was : (AL.get has id).isSome = true
          · have was0 : 0 < (AL.get has id).getD 0 := (HG.out.some id).2 was
            have HE : Hid (AL.get has id = AL.get has id) := hide rfl
            have HG1 : Hid (Inb.Good has (2 * k + 1)) := hide (HG.out.mono (by omega))
            have HL1 : Hid (has.length ≤ 2 * k + 1) := hide (by omega)
            have was1 : 0 < (AL.get has id).getD 0 := by first | exact was0 | (rw [HE.out]; omega) | omega
            have HB := hide (Inb.begin_was (most := 1000) i1 i2 was1)
            have hv := HG1.out.le (by omega) id
            go_wp2_with fail
            refine (inbBegin_any p mb has 1000 id _ wr hS1 HB.out (by omega) (by omega) (by omega)).mono ?_
            rintro e w6 ⟨rfl, hS6, hK6⟩
            go_wp2_with fail
            refine ⟨⟨k + 1, _, by rw [AL.get_set, if_pos rfl]; rfl, rfl, by omega, by omega, hS6, HNX.out _ _ hK6 hK1, (HG1.out.set (by omega) (by omega)).mono (by omega), ?_⟩, by simp [intOf]; omega⟩
            have := AL.length_set has id ((AL.get has id).getD 0 + 1); have := HL1.out; split at * <;> omega
          · have was0 : ¬ 0 < (AL.get has id).getD 0 := fun h => was ((HG.out.some id).1 h)
            have was' : (AL.get has id).isSome = false := by simpa using was
            have HE : Hid (AL.get has id = AL.get has id) := hide rfl
            have HG1 : Hid (Inb.Good has (2 * k + 1)) := hide (HG.out.mono (by omega))
            have HL1 : Hid (has.length ≤ 2 * k + 1) := hide (by omega)
            have was1 : ¬ 0 < (AL.get has id).getD 0 := by first | exact was0 | (rw [HE.out]; omega) | omega
            have HB := hide (Inb.begin_new (most := 1000) i1 i2 was1 (by have := HL1.out; omega))
            have hv := HG1.out.le (by omega) id
            go_wp2_with fail
            refine (inbBegin_any p mb has 1000 id _ wr hS1 HB.out (by omega) (by omega) (by omega)).mono ?_
            rintro e w6 ⟨rfl, hS6, hK6⟩
            go_wp2_with fail
            refine ⟨⟨k + 1, _, by rw [AL.get_set, if_pos rfl]; rfl, rfl, by omega, by omega, hS6, HNX.out _ _ hK6 hK1, (HG1.out.set (by omega) (by omega)).mono (by omega), ?_⟩, by simp [intOf]; omega⟩
            have := AL.length_set has id (1 : Int); have := HL1.out; split at * <;> omega
    · have HS := hide hS1
      have hw : decide (0 < (AL.get has id).getD 0) = (AL.get has id).isSome := by rw [Bool.eq_iff_iff]; simpa using hG.some id
      by_cases h1' : k < len1
      · have h2' : ¬ k < 40 := by omega
        clear hlt
        go_wp2_with fail
        refine (inbTimes_any p mb has 1000 id wr HS.out).mono ?_
        rintro e w4 ⟨rfl, rfl⟩
        go_wp2_with fail
        go_ret
        exact ⟨rfl, hK1.below⟩
      · clear hlt
        go_wp2_with fail
        refine (inbTimes_any p mb has 1000 id wr HS.out).mono ?_
        rintro e w4 ⟨rfl, rfl⟩
        go_wp2_with fail
        go_ret
        exact ⟨rfl, hK1.below⟩
end Go.Proofs.Ytfnleddabfpkgaa
