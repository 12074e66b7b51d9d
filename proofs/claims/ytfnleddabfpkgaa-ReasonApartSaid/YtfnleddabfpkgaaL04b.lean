/- ReasonMay, ReasonApart. -/
import Derived.Test.YtfnleddabfpkgaaL04
namespace Go.Proofs.Ytfnleddabfpkgaa
open Go.RowKit
open Go.ChangeShapes
set_option maxRecDepth 10000
set_option linter.unusedVariables false
set_option maxHeartbeats 1000000

def cnt (l : List UInt8) (c : Nat) : Nat := (l.filter fun b => decide (b.toNat < c)).length

theorem cnt_step {l : List UInt8} (h : CodesOk l) (c : Nat) (hc : c < 256) :
    (l.contains c.toUInt8 = true → cnt l c < l.length ∧ (l.getD (cnt l c) 0).toNat = c ∧ cnt l (c + 1) = cnt l c + 1) ∧ (l.contains c.toUInt8 = false → cnt l (c + 1) = cnt l c) := by
  have := h.1 ⟨c, hc⟩
  constructor
  · intro hm
    simp only at this
    rw [if_pos hm] at this
    obtain ⟨h1, h2, h3⟩ := this
    refine ⟨h1, ?_, h3⟩
    unfold cnt
    rw [List.getElem?_eq_getElem h1] at h2
    rw [List.getD_eq_getElem?_getD, List.getElem?_eq_getElem h1]
    simpa using h2
  · intro hm
    simp only at this
    rw [if_neg (by rw [hm]; simp)] at this
    exact this

theorem may_nat (k : Int) (c : Nat) : Rsn.may k c = (Rsn.codes k).contains c.toUInt8 := by unfold Rsn.may; simp

def mayRel (w : World) (l : List UInt8) (b : Nat) (n i : Value) (wr : World) : Prop :=
  ∃ c : Nat, i = .int .i64 c ∧ n = .int .i64 (cnt l c) ∧ c ≤ 256 ∧ Keep [] w wr ∧ Hid (∀ i, i < l.length → wr.cell? ⟨b, i, none⟩ = some (.int .u8 ((l.getD i 0).toNat : Int)))

theorem rsnMay_walk (a0 : Int) (a1 : Int) (w : World) (w0 : (Lit.int .i64 a0).wf = true) (w1 : (Lit.int .u8 a1).wf = true) :
    Calls Try.prog 9 #[.int .i64 a0, .int .u8 a1] w fun e w' => e = .returned (.bool true) ∧ Below w.heap.size w w' := by
  obtain ⟨y0, y1⟩ := bounds_u8 w1
  have hok := codes_ok a0
  have hmay := may_nat a0
  go_enter Try.func9, Try.ntmps9
  have HM := hide hmay
  clear hmay
  go_wp2_with fail
  refine (awake04 _).mono ?_
  rintro e w2 ⟨rfl, hK2⟩
  go_wp2_with fail
  refine (rsnMay_any a0 a1 _).mono ?_
  rintro e w3 ⟨rfl, rfl⟩
  generalize hb : Rsn.may a0 a1 = bb
  go_wp2_with fail
  refine (refMay_any a0 a1 y0 y1 _).mono ?_
  rintro e w3 ⟨rfl, hK3⟩
  rw [hb]
  clear hb
  have hbb : (bb != bb) = false := by cases bb <;> rfl
  have hbb2 : (bb == bb) = true := by cases bb <;> rfl
  go_wp2_with fail
  refine (rsnGood_any a1 _).mono ?_
  rintro e w4 ⟨rfl, rfl⟩
  go_wp2_with fail
  refine (rsnCodes_any a0 _).mono ?_
  rintro e w4 ⟨⟨b, cap, cs⟩, rfl, hB, hc, hx, hK4⟩
  simp only at hB hc hx
  generalize Rsn.codes a0 = l at *
  have hcell : ∀ i, i < l.length → w4.cell? ⟨b, i, none⟩ = some (.int .u8 ((l.getD i 0).toNat : Int)) := by
    intro i hi
    rw [hB.cell i, hc i hi, List.getD_eq_getElem?_getD, List.getElem?_eq_getElem hi]; rfl
  have HCC := hide hcell
  have hlen := hok.2.2.1
  have HOK := hide hok
  clear hcell hc hok
  have hKK := (hK2.then hK3).then hK4
  go_wp2_with fail
  go_loopw [6, 7] (fun n i wr => mayRel w l b n i wr) (fun _ i _ => 256 - (intOf i).toNat)
  case atStart => exact ⟨0, rfl, by rw [show cnt l 0 = 0 by simp [cnt]]; rfl, by omega, hKK, HCC⟩
  case round =>
    obtain ⟨c, rfl, rfl, hc, hK5, HC5⟩ := hrel
    by_cases hlt : c < 256
    · obtain ⟨s1, s2⟩ := cnt_step HOK.out c hlt
      have hm := HM.out c
      by_cases hin : l.contains c.toUInt8 = true
      · obtain ⟨q1, q2, q3⟩ := s1 hin
        have M := hide (hm.trans hin)
        have hcell := HC5.out _ q1
        rw [q2] at hcell
        have Q3 := hide q3
        clear s1 s2 hm hin q2 q3
        generalize cnt l c = k at hcell q1 Q3
        go_wp2_with fail
        refine (refMay_any a0 c (by omega) (by omega) _).mono ?_
        rintro e w6 ⟨rfl, hK6⟩
        rw [M.out]
        have hcell6 : w6.cell? ⟨b, k, none⟩ = some (.int .u8 (c : Int)) := (hK6.cell (p := ⟨b, k, none⟩) (World.block_lt_of_cell? _ _ hcell) (by simp)).trans hcell
        have HC6 : Hid (∀ i, i < l.length → w6.cell? ⟨b, i, none⟩ = some (.int .u8 ((l.getD i 0).toNat : Int))) := hide (fun i hi => (hK6.cell (p := ⟨b, i, none⟩) (World.block_lt_of_cell? _ _ (HC5.out i hi)) (by simp)).trans (HC5.out i hi))
        go_wp2_with fail
        exact ⟨⟨c + 1, rfl, by rw [Q3.out]; rfl, by omega, hK5.then hK6, HC6⟩, by simp [intOf]; omega⟩
      · have M := hide (hm.trans (Bool.eq_false_iff.2 hin))
        have Q3 := hide (s2 (Bool.eq_false_iff.2 hin))
        have hlb : l ≠ [] → b < wr.heap.size := fun h => World.block_lt_of_cell? _ _ (HC5.out 0 (by cases l with | nil => exact absurd rfl h | cons => simp))
        have HLB := hide hlb
        clear s1 s2 hm hin hlb
        go_wp2_with fail
        refine (refMay_any a0 c (by omega) (by omega) _).mono ?_
        rintro e w6 ⟨rfl, hK6⟩
        rw [M.out]
        have HC6 : Hid (∀ i, i < l.length → w6.cell? ⟨b, i, none⟩ = some (.int .u8 ((l.getD i 0).toNat : Int))) := hide (fun i hi => (hK6.cell (p := ⟨b, i, none⟩) (HLB.out (by rintro rfl; simp at hi)) (by simp)).trans (HC5.out i hi))
        go_wp2_with fail
        exact ⟨⟨c + 1, rfl, by rw [Q3.out], by omega, hK5.then hK6, HC6⟩, by simp [intOf]; omega⟩
    · obtain rfl : c = 256 := by omega
      have hfull : cnt l 256 = l.length := HOK.out.2.1
      rw [hfull]
      clear hfull
      go_wp2_with fail
      go_ret
      exact ⟨by simp, hK5.below⟩

def ap1 (w : World) (b n : Nat) (i : Value) (wr : World) : Prop :=
  ∃ (k : Nat) (cs : Array Value), i = .int .i64 k ∧ k ≤ n ∧ Blk wr b cs 5 ∧ Hid (∀ i, i < n → ∃ x : Int, cs[i]? = some (.int .u8 x)) ∧ Keep [] w wr

def ap2 (w : World) (b : Nat) (l : List UInt8) (i : Value) (wr : World) : Prop :=
  ∃ k : Nat, i = .int .i64 k ∧ k ≤ l.length ∧ Hid (∀ i, i < l.length → wr.cell? ⟨b, i, none⟩ = some (.int .u8 ((l.getD i 0).toNat : Int))) ∧ Keep [] w wr

theorem rsnMay_q (k c : Int) (w : World) (h : Rsn.may k c = true) : Calls Try.prog 30 #[.int .i64 k, .int .u8 c] w fun e w' => e = .returned (.bool true) ∧ w' = w :=
  (rsnMay_any k c w).mono fun e w' ⟨h1, h2⟩ => ⟨by rw [h1, h], h2.symm⟩

theorem may_at (k : Int) (i : Nat) (hi : i < (Rsn.codes k).length) : Rsn.may k (((Rsn.codes k).getD i 0).toNat : Int) = true := by
  rw [may_nat, List.getD_eq_getElem?_getD, List.getElem?_eq_getElem hi]
  simp

theorem rsnApart_walk (a0 : Int) (a1 : Int) (w : World) (w0 : (Lit.int .i64 a0).wf = true) (w1 : (Lit.int .u8 a1).wf = true) :
    Calls Try.prog 11 #[.int .i64 a0, .int .u8 a1] w fun e w' => e = .returned (.bool true) ∧ Below w.heap.size w w' := by
  obtain ⟨y0, y1⟩ := bounds_u8 w1
  have HOK := hide (codes_ok a0)
  go_enter Try.func11, Try.ntmps11
  go_wp2_with fail
  refine (rsnCodes_any a0 _).mono ?_
  rintro e w2 ⟨⟨b, cap, cs⟩, rfl, hB, hc, hx, hK2⟩
  simp only at hB hc hx
  have hlen := HOK.out.2.2.1
  have hc' : ∀ i, i < (Rsn.codes a0).length → ∃ x : Int, cs[i]? = some (.int .u8 x) := fun i hi => ⟨_, hc i hi⟩
  have HC := hide hc'
  clear hc hc'
  obtain ⟨n, hn⟩ : ∃ n, (Rsn.codes a0).length = n := ⟨_, rfl⟩
  rw [hn] at HC hlen ⊢
  have HN := hide hn
  clear hn
  go_wp2_with fail
  go_loopw [16] (fun i wr => ap1 w b n i wr) (fun i _ => n - (intOf i).toNat)
  case atStart => exact ⟨0, cs, rfl, by omega, hB, HC, hK2⟩
  case round =>
    obtain ⟨k, cs1, rfl, hk, hB1, HC1, hK3⟩ := hrel
    by_cases hlt : k < n
    · obtain ⟨x, hx1⟩ := HC1.out k hlt
      have hsz := (Array.getElem?_eq_some_iff.1 hx1).1
      have hcell : wr.cell? ⟨b, k, none⟩ = some (.int .u8 x) := (hB1.cell k).trans hx1
      have hfz : wr.frozen? ⟨b, k, none⟩ = false := hB1.frozen k hsz
      have HX := hide hx1
      clear hx1
      go_wp2_with fail
      refine ⟨⟨k + 1, _, rfl, by omega, hB1.set k _, hide (fun i hi => ?_), hK3.setCell (by intro h; simp at h; omega) _⟩, by simp [intOf]; omega⟩
      by_cases e : i = k
      · subst e; exact ⟨_, Array.getElem?_setIfInBounds_self_of_lt hsz⟩
      · obtain ⟨y, hy⟩ := HC1.out i hi
        exact ⟨y, by rw [Array.getElem?_setIfInBounds_ne (by omega)]; exact hy⟩
    · go_wp2_with fail
      refine (rsnCodes_any a0 _).mono ?_
      rintro e w4 ⟨⟨b4, cap4, cs4⟩, rfl, hB4, hc4, hx4, hK4⟩
      simp only at hB4 hc4 hx4
      have hcell : ∀ i, i < (Rsn.codes a0).length → w4.cell? ⟨b4, i, none⟩ = some (.int .u8 (((Rsn.codes a0).getD i 0).toNat : Int)) := by
        intro i hi
        rw [hB4.cell i, hc4 i hi, List.getD_eq_getElem?_getD, List.getElem?_eq_getElem hi]; rfl
      have hm := may_at a0
      have hris := HOK.out.2.2.2.2
      generalize Rsn.codes a0 = l at *
      have HCC := hide hcell
      have HM := hide hm
      have HR := hide hris
      have hl2 := HN.out
      have HL := hide hl2
      clear hcell hc4 hm hris hl2
      have hll : l.length < 256 := by have := HL.out; omega
      have hKK := hK3.then hK4
      go_wp2_with fail
      go_loopw [31] (fun i wr => ap2 w b4 l i wr) (fun i _ => l.length - (intOf i).toNat)
      case atStart => exact ⟨0, rfl, by omega, HCC, hKK⟩
      case round =>
        obtain ⟨k, rfl, hk, HC5, hK5⟩ := hrel
        by_cases hlt : k < l.length
        · have hcell := HC5.out k hlt
          have hmk := HM.out k hlt
          have hb1 : ((l.getD k 0).toNat : Int) < 256 := by have := (l.getD k 0).toNat_lt; omega
          by_cases h0 : k = 0
          · subst h0
            generalize ((l.getD 0 0).toNat : Int) = x at hcell hmk hb1
            have HMK := hide hmk
            clear hmk
            have hkb : ((0 : Nat) : Int) < (l.length : Int) := by omega
            go_wp2_with fail
            go_quiet ((go_at_call 30; exact Calls.quiet_of_same (rsnMay_q _ _ _ HMK.out)))
            go_wp2_with fail
            exact ⟨⟨1, rfl, by omega, HC5, hK5.drewN _⟩, by simp [intOf]; omega⟩
          · obtain ⟨j, rfl⟩ : ∃ j, k = j + 1 := ⟨k - 1, by omega⟩
            have hcell0 := HC5.out j (by omega)
            have hr := HR.out ⟨j, by omega⟩ hlt
            have hb0 : ((l.getD j 0).toNat : Int) < 256 := by have := (l.getD j 0).toNat_lt; omega
            have hlt' : ((l.getD j 0).toNat : Int) < ((l.getD (j + 1) 0).toNat : Int) := by
              simp only [List.getElem?_eq_getElem hlt, List.getElem?_eq_getElem (show j < l.length by omega)] at hr
              simp only [List.getD_eq_getElem?_getD, List.getElem?_eq_getElem hlt, List.getElem?_eq_getElem (show j < l.length by omega)]
              simpa using hr
            clear hr
            generalize ((l.getD (j + 1) 0).toNat : Int) = x at hcell hmk hb1 hlt'
            generalize ((l.getD j 0).toNat : Int) = y at hcell0 hb0 hlt'
            have HMK := hide hmk
            clear hmk h0
            have hkb : ((j : Int) + 1) < (l.length : Int) := by omega
            have hge : decide (x ≤ y) = false := decide_eq_false (by omega)
            go_wp2_with fail
            go_quiet ((go_at_call 30; exact Calls.quiet_of_same (rsnMay_q _ _ _ HMK.out)))
            go_wp2_with fail
            exact ⟨⟨j + 2, rfl, by omega, HC5, hK5.drewN _⟩, by simp [intOf]; omega⟩
        · have hk' : k = l.length := by omega
          have HL2 := hide HN.out
          go_wp2_with fail
          refine (awake04 _).mono ?_
          rintro e w6 ⟨rfl, hK6⟩
          have hln : ((l.length : Int) == (n : Int)) = true := by have := HL2.out; simp; omega
          go_wp2_with fail
          go_ret
          exact ⟨rfl, (hK5.then hK6).below⟩
end Go.Proofs.Ytfnleddabfpkgaa
