/- TimerSplit: the walk. -/
import Derived.Test.YtbgondiibnjcgaaAct18
import Derived.Test.YtbgondiibnjcgaaStill
import Derived.Outline
import Derived.Deep.DeepFit
import Derived.Deep.CutBlock
import Derived.Deep.DeepCutAuto
import Derived.Deep.CutRange
import Derived.Deep.QuietTactic
import Derived.BigQuiet
namespace Go.Proofs.Ytbgondiibnjcgaa
open Go.RowKit Go.Proofs.Ytbgondiibnjcgaa.PTimerPlays Go.Proofs.YtbgondiibnjcgaaW.PrintWords Go.Proofs.YtbgondiibnjcgaaW.PrintLast
set_option maxRecDepth 10000
set_option linter.unusedVariables false
set_option maxHeartbeats 2000000

def splitRel (w : World) (n1 b1 n2 b2 : Nat) (len : Nat) (i : Value) (wr : World) : Prop := ∃ (k : Nat) (r : List En), i = .int .i64 k ∧ k ≤ len ∧ k ≤ 25 ∧ Mt w wr n1 b1 r k ∧ Mt w wr n2 b2 r k ∧ Below w.heap.size w wr

def sameRel18 (w9 : World) (m : Nat) (i : Value) (wr : World) : Prop := ∃ j : Nat, i = .int .i64 j ∧ j ≤ m ∧ Keep [] w9 wr

theorem cut_still (s : ByteArray) (n : Nat) (w : World) : Calls Try.prog 10 #[.string s, .int .i64 n] w fun e w' => e = .returned (.string (cutS s n)) ∧ w' = w := cut01_any s n w

theorem split_walk (a0 : Option Addr) (len0 cap0 : Nat) (z0 : Sh.T (.slice ShAct)) (a1 : Int) (a2 : Int) (w : World) (r0 : Sh.Rd w (.slice ShAct) z0 [.slice a0 len0 cap0]) (w1 : (Lit.int .i64 a1).wf = true) (w2 : (Lit.int .i64 a2).wf = true) :
    Calls Try.prog 6 #[.slice a0 len0 cap0, .int .i64 a1, .int .i64 a2] w fun e w' => e = .returned (.bool true) ∧ Below w.heap.size w w' := by
  have hl0 : len0 ≤ maxLen := by obtain ⟨_, h1, h2⟩ := Sh.slice_len r0; omega
  unfold maxLen at hl0
  by_cases hab : a2 < a1
  · go_enter Try.func6, Try.ntmps6
    go_wp2_with fail
    refine (awake18 _).mono ?_
    rintro e wa ⟨rfl, hka⟩
    go_wp2_with fail
    refine (awake18 _).mono ?_
    rintro e wb ⟨rfl, hkb⟩
    go_wp2_with fail
    go_ret
    exact ⟨rfl, (hka.then hkb).below⟩
  · have hab' : a1 ≤ a2 := by omega
    clear hab
    go_enter Try.func6, Try.ntmps6
    go_wp2_with fail
    refine (awake18 _).mono ?_
    rintro e wa ⟨rfl, hka⟩
    have hza := hka.size
    go_wp2_with fail
    refine (tNew (W := w) (w := wa) hza).mono ?_
    rintro e w3 ⟨rfl, hM3, hk3⟩
    have hn3 := hM3.nlt
    have hz3 : w.heap.size ≤ w3.heap.size := by omega
    go_wp2_with fail
    refine (tNew (W := w) (w := w3) hz3).mono ?_
    rintro e w4 ⟨rfl, hM4, hk4⟩
    have hM5 := hM3.keep hk4
    have hB4 := ((hka.then hk3).then hk4).below
    clear hM3
    go_wp2_with fail
    go_loopw [9] (fun i wr => splitRel w (wa.heap.size + 1) wa.heap.size (w3.heap.size + 1) w3.heap.size len0 i wr) (fun i _ => 25 - (intOf i).toNat)
    case atStart => exact ⟨0, [], rfl, by omega, by omega, hM5, hM4, hB4⟩
    case round =>
      obtain ⟨k, r, rfl, hk1, hk2, hM1, hM2, hBw⟩ := hrel
      clear hM5 hM4 hB4
      obtain ⟨c, hc⟩ : ∃ c : Bool, c = decide (k < len0 ∧ k < 25) := ⟨_, rfl⟩
      have HC := hide hc
      clear hc
      go_upto_region 5 with fail
      go_cut [30] from 23 to 58 (fun s wx => s = .bool c ∧ wx = wr)
      case first =>
        by_cases h1 : k < len0
        · by_cases h2 : k < 25
          · obtain rfl : c = true := by rw [HC.out]; simp [h1, h2]
            go_wp2_with fail
            go_meet
            exact ⟨by first | rfl | (simp; omega), rfl⟩
          · obtain rfl : c = false := by rw [HC.out]; simp [h2]
            go_wp2_with fail
            go_meet
            exact ⟨by first | rfl | (simp; omega), rfl⟩
        · obtain rfl : c = false := by rw [HC.out]; simp [h1]
          go_wp2_with fail
          go_meet
          exact ⟨rfl, rfl⟩
      case rest =>
      obtain ⟨rfl, rfl⟩ := hcut
      cases c
      · clear HC
        have hkr := hM1.len
        have fs := hide (filter_split hab' r hM1.sorted)
        have fl := hide (filter_late hab' r)
        have hb1 := hM1.base
        have hb2 := hM2.base
        have hn1 := hM1.nlt
        have hn2 := hM2.nlt
        go_wp2_with fail
        refine (tDue hM1 (by omega) a1).mono ?_
        rintro e w6 ⟨v6, rfl, hO6, hM6, hk6⟩
        have hB6 := (hM1.km hk6).below hBw
        have hM26 := hM2.off hk6 (fun x hx _ => by simp at hx; omega)
        have hz6 := hk6.size
        clear hM1 hM2 hBw
        go_wp2_with fail
        refine (tDue hM6 (by omega) a2).mono ?_
        rintro e w7 ⟨v7, rfl, hO7, hM7, hk7⟩
        have hO67 := (hM6.km hk7).own hO6
        have hB7 := (hM6.km hk7).below hB6
        have hM27 := hM26.off hk7 (fun x hx _ => by simp at hx; omega)
        have hz7 := hk7.size
        have l1 := List.length_filter_le (fun p : En => decide (p.2 ≤ a1)) r
        have l2 := List.length_filter_le (fun p : En => decide (p.2 ≤ a2)) (r.filter fun p => decide (a1 < p.2))
        have l3 := List.length_filter_le (fun p : En => decide (a1 < p.2)) r
        have HO67 := hide hO67
        have HO7 := hide hO7
        have HM7 := hide hM7
        have HM27 := hide hM27
        clear hM6 hM26 hk6 hk7 hO6 hO67 hO7 hM7 hM27
        go_wp2_with (at_builtin; refine Own.append_rowsE (W := w7) wc.heap.size w6.heap.size rfl (.tmp 62) (.tmp 65) 32 EntT _ _ rfl Try.underlying32 infoE rfl (by decide) v6 v7 _ _ rfl rfl HO67.out HO7.out (by omega) (by omega) ?_; intro v8 w8 hO8 hg8 hr8)
        have hK8 : Keep v6.ownBlock.toList w7 w8 := Keep.of_grown hg8 (fun k e _ => by simp [e])
        have hM28 := HM27.out.off hK8 (fun x hx _ => by have := hr8 x (by simpa using hx); omega)
        have hM8 := HM7.out.off hK8 (fun x hx _ => by have := hr8 x (by simpa using hx); omega)
        have hB8 : Below w.heap.size w w8 := Keep.below_of hB7 hK8 (fun x hx => by have := hr8 x (by simpa using hx); have := hb1.1; omega)
        have hz8 := hK8.size
        rw [fs.out] at hO8
        rw [fl.out] at hM8
        obtain ⟨F, hF⟩ : ∃ F, r.filter (fun p => decide (p.2 ≤ a2)) = F := ⟨_, rfl⟩
        obtain ⟨G, hG⟩ : ∃ G, r.filter (fun p => decide (a2 < p.2)) = G := ⟨_, rfl⟩
        have hFl : F.length ≤ 25 := by rw [← hF]; have := List.length_filter_le (fun p : En => decide (p.2 ≤ a2)) r; omega
        have HFF := hide hF
        have HGG := hide hG
        rw [hF] at hO8
        rw [hG] at hM8
        have HO8 := hide hO8
        obtain ⟨A8, c8, rfl⟩ := hO8.slice
        clear hF hG hO8 hg8 hr8 l1 l2 l3 HO7 HO67
        have hsz : ((r.filter fun p => decide (p.2 ≤ a1)) ++ (r.filter fun p => decide (a1 < p.2)).filter fun p => decide (p.2 ≤ a2)).length = F.length := by rw [fs.out, HFF.out]
        go_wp2_with fail
        refine (tDue hM28 (by omega) a2).mono ?_
        rintro e w9 ⟨v9, rfl, hO9, hM9, hk9⟩
        rw [HFF.out] at hO9
        rw [HGG.out] at hM9
        obtain ⟨A9, c9, rfl⟩ := hO9.slice
        have hB9 := (hM28.km hk9).below hB8
        have HO89 := hide ((hM28.km hk9).own HO8.out)
        have HO9 := hide hO9
        have hMs9 := hM8.off hk9 (fun x hx _ => by simp at hx; omega)
        have hlt9 := hM9
        have nl : ((F.length : Int) != (F.length : Int)) = false := by simp
        have ng : ((G.length : Int) != (G.length : Int)) = false := by simp
        have HLs := hide (tLen hMs9)
        have HLt := hide (tLen hM9)
        clear hO9 hMs9 hM9 hlt9 hM8 hM28 hk9
        go_wp2_with (first
          | (go_at_call 13; refine HLs.out.mono ?_; clear HLs; rintro e wx ⟨rfl, rfl⟩)
          | (go_at_call 13; refine HLt.out.mono ?_; clear HLt; rintro e wx ⟨rfl, rfl⟩))
        go_loopw [84] (fun i wr => sameRel18 w9 F.length i wr) (fun i _ => F.length - (intOf i).toNat)
        case atStart => exact ⟨0, rfl, by omega, Keep.refl _ _⟩
        case round =>
          obtain ⟨j, rfl, hj, hKj⟩ := hrel
          by_cases hlt2 : j < F.length
          · obtain ⟨g8, cc8, hv8, _, hg8, x0, x1⟩ := own_ent_at (HO89.out.keep hKj (by simp)) hlt2
            obtain ⟨g9, cc9, hv9, _, hg9, y0, y1⟩ := own_ent_at (HO9.out.keep hKj (by simp)) hlt2
            obtain rfl : A8 = some ⟨g8, 0, none⟩ := by injection hv8
            obtain rfl : A9 = some ⟨g9, 0, none⟩ := by injection hv9
            clear hv8 hv9
            obtain ⟨⟨ek, ea⟩, hx⟩ : ∃ x, F[j] = x := ⟨_, rfl⟩
            rw [hx] at x0 x1 y0 y1
            simp only at x0 x1 y0 y1
            have nE := neqE ek ea
            have hlt4 : (j : Int) < (F.length : Int) := by omega
            have HLT := hide hlt4
            clear hx hlt2
            go_wp2_with fail
            go_quiet (fail)
            go_wp2_with fail
            exact ⟨⟨j + 1, rfl, by have := HLT.out; omega, hKj.drewN _⟩, by have := HLT.out; simp [intOf] <;> omega⟩
          · go_wp2_with fail
            go_ret
            exact ⟨rfl, Keep.below_of hB9 hKj (by simp)⟩
      · have hlt : k < len0 ∧ k < 25 := by have := HC.out; simpa using this
        obtain ⟨hlt, h15⟩ := hlt
        clear HC
        obtain ⟨b, off, rfl, hb, hc⟩ := slice_act r0 (by omega)
        obtain ⟨kd, at0, s, c0, c1, c2, c3⟩ := hc k hlt
        clear hc
        have d1 : wc.cell? ⟨b, off + k * 3 + 1, none⟩ = some (.int .i64 at0) := (hBw.cell (p := ⟨b, off + k * 3 + 1, none⟩) hb).trans c1
        have d2 : wc.cell? ⟨b, off + k * 3 + 2, none⟩ = some (.string s) := (hBw.cell (p := ⟨b, off + k * 3 + 2, none⟩) hb).trans c2
        have hlt' : (k : Int) < (len0 : Int) := by omega
        clear c0 c1 c2
        have hks := cutS_size s 8
        have HCU := hide (fun w => cut01_any s 8 w)
        obtain ⟨key, hkey⟩ : ∃ x, cutS s 8 = x := ⟨_, rfl⟩
        rw [hkey] at HCU hks
        clear hkey
        have hb1 := hM1.base
        have hb2 := hM2.base
        have hn1 := hM1.nlt
        have hn2 := hM2.nlt
        go_wp2_with fail
        refine still_tail 12 (by kernel_rfl) (by kernel_rfl) fun wd hwd => ?_
        have e1 : wd.cell? ⟨b, off + k * 3 + 1, none⟩ = some (.int .i64 at0) := by rw [← hwd]; exact d1
        have e2 : wd.cell? ⟨b, off + k * 3 + 2, none⟩ = some (.string s) := by rw [← hwd]; exact d2
        have hMd1 := hM1.keep (show Keep [] wc wd by rw [← hwd]; exact (Keep.refl [] wc).drew)
        have hMd2 := hM2.keep (show Keep [] wc wd by rw [← hwd]; exact (Keep.refl [] wc).drew)
        have hBd : Below w.heap.size w wd := by rw [← hwd]; exact hBw.drew
        have hzd : wd.heap.size = wc.heap.size := by rw [← hwd]; rfl
        clear hwd d1 d2 hM1 hM2 hBw
        simp only [List.take_succ_cons, List.take_zero, List.drop_succ_cons, List.drop_zero]
        repeat still_step
        still_call (HCU.out _)
        repeat still_step
        refine wpStill_nil ?_
        go_wp2_with fail
        refine (tSet hMd1 key at0 (by omega)).mono ?_
        rintro e we ⟨rfl, hMe1, hke⟩
        have hMe2 := hMd2.off hke (fun x hx _ => by simp at hx; omega)
        have hBe := (hMd1.km hke).below hBd
        have hze := hke.size
        have f1 := hke.cell (p := ⟨b, off + k * 3 + 1, none⟩) (by have := hb; have := hBd.size; show b < _; omega) (by simp; omega)
        have f2 := hke.cell (p := ⟨b, off + k * 3 + 2, none⟩) (by have := hb; have := hBd.size; show b < _; omega) (by simp; omega)
        rw [e1] at f1
        rw [e2] at f2
        clear hMd1 hMd2 hBd hke e1 e2
        go_wp2_with fail
        refine still_tail 12 (by kernel_rfl) (by kernel_rfl) fun wd2 hwd2 => ?_
        have e1 : wd2.cell? ⟨b, off + k * 3 + 1, none⟩ = some (.int .i64 at0) := by rw [← hwd2]; exact f1
        have e2 : wd2.cell? ⟨b, off + k * 3 + 2, none⟩ = some (.string s) := by rw [← hwd2]; exact f2
        have hMf1 := hMe1.keep (show Keep [] we wd2 by rw [← hwd2]; exact (Keep.refl [] we).drew)
        have hMf2 := hMe2.keep (show Keep [] we wd2 by rw [← hwd2]; exact (Keep.refl [] we).drew)
        have hBf : Below w.heap.size w wd2 := by rw [← hwd2]; exact hBe.drew
        have hzf : wd2.heap.size = we.heap.size := by rw [← hwd2]; rfl
        clear hwd2 f1 f2 hMe1 hMe2 hBe
        simp only [List.take_succ_cons, List.take_zero, List.drop_succ_cons, List.drop_zero]
        repeat still_step
        still_call (HCU.out _)
        repeat still_step
        refine wpStill_nil ?_
        go_wp2_with fail
        refine (tSet hMf2 key at0 (by omega)).mono ?_
        rintro e wg ⟨rfl, hMg2, hkg⟩
        have hMg1 := hMf1.off hkg (fun x hx _ => by simp at hx; omega)
        have hBg := (hMf2.km hkg).below hBf
        go_wp2_with fail
        go_roundw
        case rel => exact ⟨k + 1, _, by simp, by omega, by omega, hMg1, hMg2, hBg⟩
        case measure => simp [intOf]; omega
end Go.Proofs.Ytbgondiibnjcgaa
