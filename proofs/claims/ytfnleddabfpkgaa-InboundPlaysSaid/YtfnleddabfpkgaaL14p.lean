/- InboundPlays. -/
import Derived.Test.YtfnleddabfpkgaaR14
import Derived.Test.YtfnleddabfpkgaaKd
import Derived.Outline
import Derived.Deep.DeepFit
import Derived.Deep.CutBlock
namespace Go.Proofs.Ytfnleddabfpkgaa
open Go.RowKit Go.Proofs.Ytfnleddabfpkgaa.PInboundPlays Go.Proofs.YtfnleddabfpkgaaW.PrintWords
set_option maxRecDepth 10000
set_option linter.unusedVariables false
set_option maxHeartbeats 2000000

abbrev OneT : Nat := 64

theorem own_one {base : Nat} {w : World} {v : Value} {l : List R14.One} (h : Own k64 OneT base w v l) {j : Nat} (hj : j < l.length) :
    ∃ g cap, v = .slice (some ⟨g, 0, none⟩) l.length cap ∧ g < w.heap.size ∧ w.cell? ⟨g, j * 2, none⟩ = some (.int .i64 l[j].f0) ∧ w.cell? ⟨g, j * 2 + 1, none⟩ = some (.int .i64 l[j].f1) := by
  obtain ⟨g, cap, hv, _, hg⟩ := h.form (by omega)
  obtain ⟨A, c, hv', _, hC⟩ := h.reads
  rw [hv] at hv'
  cases hv'
  obtain ⟨ad, e, h1, h2⟩ := at_T64 hC (j : Int) (by omega) (by omega)
  cases e
  rw [R14.rd_at l j hj, show (j : Int).toNat = j by omega, add_plain] at h1 h2
  exact ⟨g, _, hv, hg, h1, h2⟩

theorem times_q (p mb : Nat) (has : List (Int × Int)) (most : Int) (id t : Int) (w : World) (hS : SetAt w p mb has most) (ht : (AL.get has id).getD 0 = t) :
    Calls Try.prog 20 #[.pointer (some ⟨p, 0, none⟩), .int .u32 id] w fun e w' => e = .returned (.int .i64 t) ∧ w' = w :=
  (inbTimes_any p mb has most id w hS).mono fun e w' ⟨h1, h2⟩ => ⟨by rw [h1, ht], h2.symm⟩

def switchRel (w : World) (p mb k : Nat) (most : Int) (lv : Value) (wr : World) : Prop :=
  ∃ (has : List (Int × Int)) (l : List R14.One), SetAt wr p mb has most ∧ Below w.heap.size w wr ∧ Own k64 OneT w.heap.size wr lv l ∧ R14.Same has l ∧ Inb.Good has k ∧ Inb.Ids has ∧ l.length ≤ k

def checkRel (w9 : World) (n : Nat) (i : Value) (wr : World) : Prop := ∃ j : Nat, i = .int .i64 j ∧ j ≤ n ∧ Keep [] w9 wr

def playRel (w : World) (p mb len : Nat) (most : Int) (lv i : Value) (wr : World) : Prop :=
  ∃ (k : Nat) (has : List (Int × Int)) (l : List R14.One), i = .int .i64 k ∧ k ≤ len ∧ k ≤ 50 ∧ SetAt wr p mb has most ∧ Below w.heap.size w wr ∧ Own k64 OneT w.heap.size wr lv l ∧ R14.Same has l ∧ Inb.Good has k ∧ Inb.Ids has ∧ l.length ≤ k

theorem plays_walk (a0 : Int) (a1 : Option Addr) (len1 cap1 : Nat) (z1 : List (Int × Int × Unit)) (w : World) (w0 : (Lit.int .i64 a0).wf = true) (r1 : Sh.Rd w (.slice (.struct (.cons (.int .i64) (.cons (.int .u32) .nil)))) z1 [.slice a1 len1 cap1]) :
    Calls Try.prog 14 #[.int .i64 a0, .slice a1 len1 cap1] w fun e w' => e = .returned (.bool true) ∧ Below w.heap.size w w' := by
  have hl1 : len1 ≤ maxLen := by obtain ⟨_, h1, h2⟩ := Sh.slice_len r1; omega
  unfold maxLen at hl1
  go_enter Try.func14, Try.ntmps14
  go_wp2_with fail
  refine (inbNew_any a0 _).mono ?_
  rintro e w3 ⟨⟨p, mb⟩, rfl, hS, hp, hmb, hK3⟩
  go_wp2_with fail
  refine (awake14 _).mono ?_
  rintro e w4 ⟨rfl, hK4⟩
  go_wp2_with fail
  go_loopw [6, 7] (fun lv i wr => playRel w p mb len1 (max a0 0) lv i wr) (fun _ i _ => 50 - (intOf i).toNat)
  case atStart =>
    have hO := (Own.fresh (d := k64) (e := OneT) (base := w.heap.size) (w := w3) hK3.size).keep hK4 (by simp)
    exact ⟨0, [], [], rfl, by omega, by omega, hS.keep (((Keep.refl [] w3).alloc _).then hK4) (by simp) (by simp), (hK3.then (((Keep.refl [] w3).alloc _).then hK4)).below, hO, ⟨List.Pairwise.nil, fun x => rfl, rfl⟩, fun x v h => by simp [AL.get] at h, fun x h => by simp [AL.get] at h, by simp⟩
  case round =>
    obtain ⟨k, has, l, rfl, hk1, hk2, hS1, hB1, hO1, hSm, hG, hI, hLk⟩ := hrel
    have HSm := hide hSm
    have HG := hide hG
    have HI := hide hI
    clear hSm hG hI
    obtain ⟨c, hc⟩ : ∃ c : Bool, c = decide (k < len1 ∧ k < 50) := ⟨_, rfl⟩
    have HC := hide hc
    clear hc
    go_upto_region 6 with fail
    go_cut [36] from 29 to 136 (fun s wx => s = .bool c ∧ wx = wr)
    case first =>
      by_cases h1 : k < len1
      · by_cases h2 : k < 50
        · obtain rfl : c = true := by rw [HC.out]; simp [h1, h2]
          go_wp2_with fail
          go_meet
          exact ⟨by first | rfl | (simp; omega), rfl⟩
        · obtain rfl : c = false := by rw [HC.out]; simp [h2]
          go_wp2_with fail
          go_meet
          exact ⟨by first | rfl | (simp; omega), rfl⟩
      · obtain rfl : c = false := by rw [HC.out]; simp [h1]
        go_wp2_with fail
        go_meet
        exact ⟨rfl, rfl⟩
    case rest =>
    obtain ⟨rfl, rfl⟩ := hcut
    cases c
    · clear HC
      have h7 : (AL.get has 70000).getD 0 = 0 := by
        cases e : AL.get has 70000 with
        | none => rfl
        | some v => have := HI.out 70000 (by rw [e]; rfl); omega
      have H7 := hide h7
      clear h7
      go_wp2_with fail
      refine (inbTimes_any p mb has _ 70000 _ hS1).mono ?_
      rintro e w5 ⟨rfl, rfl⟩
      rw [H7.out]
      go_wp2_with fail
      go_ret
      exact ⟨rfl, hB1⟩
    · have hlt : k < len1 ∧ k < 50 := by have := HC.out; simpa using this
      obtain ⟨hlt, h50⟩ := hlt
      clear HC
      obtain ⟨b, off, rfl, hb, hc⟩ := Sh.slice_pair r1 (by omega)
      obtain ⟨kd, id, ck, ci, wk, wi⟩ := hc k hlt
      clear hc
      obtain ⟨hi0, hi1⟩ := bounds_u32 wi
      have hkb := bounds_i64 wk
      have ckw : wc.cell? ⟨b, off + k * 2, none⟩ = some (.int .i64 kd) := (hB1.cell (p := ⟨b, off + k * 2, none⟩) hb).trans ck
      have ciw : wc.cell? ⟨b, off + k * 2 + 1, none⟩ = some (.int .u32 id) := (hB1.cell (p := ⟨b, off + k * 2 + 1, none⟩) hb).trans ci
      clear ck ci
      go_upto_block 2 with fail
      have hMx : max a0 0 = if 0 ≤ a0 then a0 else 0 := by split <;> omega
      go_cut [6, 9, 10, 11, 12, 13, 14, 15, 16] from 29 to 136 (fun s6 s9 s10 s11 s12 s13 s14 s15 s16 wx => switchRel w p mb (k + 1) (max a0 0) s6 wx)
      case first =>
        have HMx := hide hMx
        clear hMx
        by_cases k1 : kd = 1
        · subst k1
          have hv := HG.out.le (by omega) id
          obtain ⟨bb, hbb⟩ : ∃ bb, (Inb.begin has (max a0 0) id).1 = bb := ⟨_, rfl⟩
          obtain ⟨ee, hee⟩ : ∃ ee, (Inb.begin has (max a0 0) id).2.1 = ee := ⟨_, rfl⟩
          obtain ⟨h2, hh2⟩ : ∃ h2, (Inb.begin has (max a0 0) id).2.2 = h2 := ⟨_, rfl⟩
          have hbe : Inb.begin has (max a0 0) id = (bb, ee, h2) := by rw [← hbb, ← hee, ← hh2]
          have HS2 := HSm.out.begin HG.out id (max a0 0) (by omega)
          rw [hbb, hee, hh2] at HS2
          have HS2 := hide HS2
          have HBE := hide hbe
          have HGI := hide (show Inb.Good h2 (k + 1) ∧ Inb.Ids h2 from by
            by_cases hid : id < 1 ∨ 65535 < id
            · have : h2 = has := by rw [← hh2]; unfold Inb.begin; rw [if_pos hid]
              rw [this]; exact ⟨HG.out.mono (by omega), HI.out⟩
            · have := Inb.begin_ids (most := max a0 0) HG.out (by omega) HI.out (show 1 ≤ id by omega) (by omega)
              rw [hh2] at this; exact ⟨this.1, this.2.1⟩)
          have HLn := hide (show (R14.RB l id (max a0 0)).1.length ≤ k + 1 by
            have h3 := HS2.out.2.2.len
            rw [← h3, ← hh2]
            have h4 := HSm.out.len
            unfold Inb.begin
            split
            · simp only; omega
            · split
              · simp only [AL.length_set]; split <;> omega
              · split
                · simp only; omega
                · simp only [AL.length_set]; split <;> omega)
          have HRB := hide (show switchboardref14_Begin.f (l.length + 2) l id (max a0 0) = some ((R14.RB l id (max a0 0)).1, bb, ee) by
            rw [R14.begin_f l id _ (by omega) (fun x v hx => by have := HG.out x v (by rw [HSm.out.look]; exact hx); omega) _ (by omega)]
            congr 1
            rw [← HS2.out.1, ← HS2.out.2.1])
          have n1 : (bb != bb) = false := by simp
          have n2 : (ee != ee) = false := by simp
          clear hbb hee hh2 hbe
          obtain ⟨l2, hl2⟩ : ∃ l2, (R14.RB l id (max a0 0)).1 = l2 := ⟨_, rfl⟩
          rw [hl2] at HLn HS2 HRB
          clear hl2
          have HFIN := hide (show ∀ (wa wb wd : World) (v0 : Value), SetAt wa p mb h2 (max a0 0) → Keep [mb] wc wa → Own k64 OneT w.heap.size wa u6 l → Kept wa wb (OfTypes (OneT :: k64.E) wa) → Below w.heap.size w wb → Own k64 OneT w.heap.size wb v0 l2 → switchRel w p mb (k + 1) (max a0 0) v0 wb from
            fun wa wb wd v0 hSa hKa hOa hKt hBb hOb => ⟨h2, l2, ⟨hSa.1.kept hKt (not_of_blk hSa.1 (by decide)), hSa.2.kept hKt (not_of_map hSa.2 _)⟩, hBb, hOb, HS2.out.2.2, by have := HGI.out.1; simpa using this, HGI.out.2, HLn.out⟩)
          have hcut1 : ∀ w5, Keep [mb] wc w5 → Below w.heap.size w w5 := fun w5 h => Keep.below_of hB1 h (by simp; omega)
          have hcut2 : ∀ w5, Keep [mb] wc w5 → Own k64 OneT w.heap.size w5 u6 l := fun w5 h => hO1.keep h (by simp; exact not_of_map hS1.2 _)
          have HC1 := hide hcut1
          have HC2 := hide hcut2
          clear hcut1 hcut2
          go_wp2_with fail
          refine (inbBegin_any p mb has (max a0 0) id (bb, ee, h2) _ hS1 HBE.out (by omega) (by omega) (by omega)).mono ?_
          rintro e w5 ⟨rfl, hS5, hK5⟩
          go_wp2_with fail
          go_fit (switchboardref14_Begin.calls (l.length + 2) (OfTypes (OneT :: k64.E) w5) u6 l id (max a0 0) l2 bb ee w w5 (HC1.out w5 hK5) (HC2.out w5 hK5).typed HRB.out)
          rintro e w6 ⟨v0, rfl, hR6, hB6, hK6⟩
          go_wp2_with fail
          go_meet
          exact HFIN.out w5 w6 w6 v0 hS5 hK5 (HC2.out w5 hK5) hK6 hB6 (Own.of hR6)
        · have k1' : (kd == 1) = false := by simpa using k1
          clear k1
          by_cases k2 : kd = 2
          · subst k2
            have HE2 := HSm.out.end_ hS1.2.nodup id
            obtain ⟨bb, hbb⟩ : ∃ bb, (AL.get has id).isSome = bb := ⟨_, rfl⟩
            have HEQ := hide hbb
            rw [hbb] at HE2
            have HRE := hide (show switchboardref14_End.f (l.length + 2) l id = some ((R14.RE l id).1, bb) by
              rw [R14.end_f l id (by omega) _ (by omega), ← HE2.1])
            have HE2' := hide HE2.2
            have HLn := hide (show (R14.RE l id).1.length ≤ k + 1 by
              have := (R14.del_sub l id).length_le
              show (R14.del l id).length ≤ _
              omega)
            have n1 : (bb != bb) = false := by simp
            obtain ⟨l2, hl2⟩ : ∃ l2, (R14.RE l id).1 = l2 := ⟨_, rfl⟩
            rw [hl2] at HLn HE2' HRE
            clear hbb HE2 hl2
            have HNd := hide (show (AL.keys has).Nodup from hS1.2.nodup)
            have HID := hide (show Inb.Ids (AL.del has id) from fun x hx => HI.out x (by
              rw [AL.get_del HNd.out] at hx
              split at hx
              · cases hx
              · exact hx))
            go_wp2_with fail
            refine (inbEnd_r p mb has (max a0 0) id bb _ hS1 HEQ.out).mono ?_
            rintro e w5 ⟨rfl, hS5, hK5⟩
            have hB5 : Below w.heap.size w w5 := Keep.below_of hB1 hK5 (by simp; omega)
            have hO5 : Own k64 OneT w.heap.size w5 u6 l := hO1.keep hK5 (by simp; exact not_of_map hS1.2 _)
            go_wp2_with fail
            go_fit (switchboardref14_End.calls (l.length + 2) (OfTypes (OneT :: k64.E) w5) u6 l id l2 bb w w5 hB5 hO5.typed HRE.out)
            rintro e w6 ⟨v0, rfl, hR6, hB6, hK6⟩
            go_wp2_with fail
            go_meet
            exact ⟨AL.del has id, l2, ⟨hS5.1.kept hK6 (not_of_blk hS5.1 (by decide)), hS5.2.kept hK6 (not_of_map hS5.2 _)⟩, hB6, Own.of hR6, HE2'.out, (HG.out.del HNd.out id).mono (by omega), HID.out, HLn.out⟩
          · have k2' : (kd == 2) = false := by simpa using k2
            clear k2
            by_cases k3 : kd = 3
            · subst k3
              go_wp2_with fail
              refine (inbClear_any p mb has (max a0 0) _ hS1).mono ?_
              rintro e w5 ⟨rfl, hS5, hK5⟩
              go_wp2_with fail
              go_meet
              exact ⟨[], [], hS5, Keep.below_of hB1 hK5 (by simp; omega), Own.nil _ _ _ _, ⟨List.Pairwise.nil, fun x => rfl, rfl⟩, fun x v h => by simp [AL.get] at h, fun x h => by simp [AL.get] at h, by simp⟩
            · have k3' : (kd == 3) = false := by simpa using k3
              clear k3
              go_wp2_with fail
              go_meet
              exact ⟨has, l, hS1, hB1, hO1, HSm.out, HG.out.mono (by omega), HI.out, by omega⟩
      case rest =>
        clear hS1 hB1 hO1 HSm HG HI hMx ckw ciw
        obtain ⟨has2, l2, hS2, hB2, hO2, hSm2, hG2, hI2, hL2⟩ := hcut
        have HSm := hide hSm2
        have HG := hide hG2
        have HI := hide hI2
        have hhl := hSm2.len
        clear hSm2 hG2 hI2
        obtain ⟨A6, c6, rfl⟩ := hO2.slice
        have HHL := hide hhl
        have hN : has2.length < 1000000000 := by omega
        clear hhl
        go_wp2_with fail
        refine (inbList_any p mb has2 _ _ hS2 hN).mono ?_
        rintro e w5 ⟨⟨v9, L9⟩, rfl, hrow, hKO, hK5⟩
        obtain ⟨A9, cap9, hv9, hread⟩ := RowAt.read hrow
        have hLe : L9 = l2.map (·.f0) := HSm.out.keys hKO
        have HLe := hide hLe
        clear hLe
        have hLl : L9.length = l2.length := by rw [HLe.out]; simp
        simp only at hv9 hread
        rw [hLl] at hv9
        subst hv9
        have HRD := hide hread
        clear hread hrow hKO
        have HLl := hide hLl
        clear hLl
        have hS5 := hS2.keep hK5 (by simp) (by simp)
        have hO5 := hO2.keep hK5 (by simp)
        have hB5 : Below w.heap.size w w5 := Keep.below_of hB2 hK5 (by simp)
        have HHL2 := HHL.out
        go_wp2_with fail
        refine (inbLen_any p mb has2 _ _ hS5).mono ?_
        rintro e w6 ⟨rfl, rfl⟩
        rw [HHL2]
        clear HHL2
        go_wp2_with fail
        go_loopw [112] (fun i wr => checkRel w5 l2.length i wr) (fun i _ => l2.length - (intOf i).toNat)
        case atStart => exact ⟨0, rfl, by omega, Keep.refl _ _⟩
        case round =>
          obtain ⟨j, rfl, hj, hK6⟩ := hrel
          have hS6 := hS5.keep hK6 (by simp) (by simp)
          have hO6 := hO5.keep hK6 (by simp)
          by_cases hlt : j < l2.length
          · obtain ⟨g, cap, hv, hg, d0, d1⟩ := own_one hO6 hlt
            have hA6 : A6 = some ⟨g, 0, none⟩ := by injection hv
            subst hA6
            clear hv
            obtain ⟨g9, rfl, hg9, hc9⟩ := HRD.out (by rw [HLl.out]; omega)
            have hj9 : j < L9.length := by rw [HLl.out]; exact hlt
            obtain ⟨q, hq⟩ : ∃ q, l2[j].f0 = q := ⟨_, rfl⟩
            obtain ⟨t, ht⟩ : ∃ t, l2[j].f1 = t := ⟨_, rfl⟩
            have hq9 : L9[j] = q := by rw [← hq]; simp [HLe.out]
            have d9 : wr.cell? ⟨g9, j, none⟩ = some (.int .u32 q) := by rw [← hq9]; exact (hK6.cell (p := ⟨g9, j, none⟩) hg9 (by simp)).trans (hc9 j hj9)
            have hlk : (AL.get has2 q).getD 0 = t := by rw [HSm.out.look, ← hq, R14.lk_at HSm.out.rise hlt, ← ht]; rfl
            have hqid := HI.out q (by rw [HSm.out.look, ← hq, R14.lk_at HSm.out.rise hlt]; rfl)
            rw [hq] at d0
            rw [ht] at d1
            have HT := hide (fun n => times_q p mb has2 _ q t ((wr.alloc (.cells #[.int .i64 q, .int .i64 t] OneT)).drewN n) ⟨(hS6.1.alloc _).drewN n, (hS6.2.alloc _).drewN n⟩ hlk)
            have HT0 := hide (fun W hS => times_q p mb has2 (max a0 0) q t W hS hlk)
            have q0 := hqid.1
            have q1 := hqid.2
            have hq2 : (q != q) = false := by simp
            have hlt' : (j : Int) < (l2.length : Int) := by omega
            have HLT := hide hlt
            have d9' : (wr.alloc (.cells #[.int .i64 q, .int .i64 t] OneT)).cell? ⟨g9, j, none⟩ = some (.int .u32 q) := by rw [World.cell?_alloc_lt _ _ _ (World.block_lt_of_cell? _ _ d9)]; exact d9
            have hdq : decide (q = q) = true := by simp
            clear hq ht hq9 hlk hqid hlt hc9 hj9
            go_wp2_with fail
            go_quiet ((go_at_call 20; exact Calls.quiet_of_same (HT0.out _ ⟨hS6.1.alloc _, hS6.2.alloc _⟩)))
            go_wp2_with fail
            exact ⟨⟨j + 1, rfl, by have := HLT.out; omega, (hK6.alloc _).drewN _⟩, by have := HLT.out; simp [intOf] <;> omega⟩
          · go_wp2_with fail
            have hk1 : k + 1 ≤ len1 := by omega
            exact ⟨⟨k + 1, has2, l2, rfl, by omega, by omega, hS6, Keep.below_of hB5 hK6 (by simp), hO6, HSm.out, HG.out, HI.out, by omega⟩, by simp [intOf] <;> omega⟩
end Go.Proofs.Ytfnleddabfpkgaa
