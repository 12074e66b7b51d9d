/- TimerPlays: the walk. -/
import Derived.Test.YtbgondiibnjcgaaAct18
import Derived.Test.YtbgondiibnjcgaaG18
import Derived.Test.YtbgondiibnjcgaaHeadQ
import Derived.Outline
import Derived.Deep.DeepFit
import Derived.Deep.CutBlock
import Derived.Deep.DeepCutAuto
import Derived.Deep.CutRange
import Derived.Deep.RegionWith
import Derived.BigRegion
namespace Go.Proofs.Ytbgondiibnjcgaa
open Go.RowKit Go.Proofs.Ytbgondiibnjcgaa.PTimerPlays Go.Proofs.YtbgondiibnjcgaaW.PrintWords Go.Proofs.YtbgondiibnjcgaaW.PrintLast
set_option maxRecDepth 10000
set_option linter.unusedVariables false
set_option maxHeartbeats 2000000

/-- The timers at n, the document's slice v: both hold r. -/
structure Pl (W w : World) (n b : Nat) (v : Value) (r : List En) (K : Nat) : Prop where
  mt : Mt W w n b r K
  own : Own kE R18.RefT W.heap.size w v r
  below : Below W.heap.size W w

theorem Pl.keep {W w w' : World} {n b : Nat} {v : Value} {r : List En} {K : Nat} (h : Pl W w n b v r K) (hk : Keep [] w w') : Pl W w' n b v r K :=
  ⟨h.mt.keep hk, h.own.keep hk (by simp), Keep.below_of h.below hk (by simp)⟩

def playRel18 (W : World) (n b len : Nat) (v i : Value) (wr : World) : Prop := ∃ (k : Nat) (r : List En), i = .int .i64 k ∧ k ≤ len ∧ k ≤ 40 ∧ Pl W wr n b v r k

def swRel (W : World) (n b : Nat) (v : Value) (K : Nat) (wr : World) : Prop := ∃ r, Pl W wr n b v r K

theorem plays18_walk (a0 : Option Addr) (len0 cap0 : Nat) (z0 : Sh.T (.slice ShAct)) (a1 : ByteArray) (w : World) (r0 : Sh.Rd w (.slice ShAct) z0 [.slice a0 len0 cap0]) (w1 : a1.size ≤ maxLen) :
    Calls Try.prog 7 #[.slice a0 len0 cap0, .string a1] w fun e w' => e = .returned (.bool true) ∧ Below w.heap.size w w' := by
  have hl0 : len0 ≤ maxLen := by obtain ⟨_, h1, h2⟩ := Sh.slice_len r0; omega
  unfold maxLen at hl0
  go_enter Try.func7, Try.ntmps7
  go_wp2_with fail
  refine (awake18 _).mono ?_
  rintro e wa ⟨rfl, hka⟩
  have hza := hka.size
  go_wp2_with fail
  refine (tNew (W := w) (w := wa) hza).mono ?_
  rintro e w3 ⟨rfl, hM3, hk3⟩
  have hk4 := (Keep.refl [] w3).alloc (.cells #[] R18.RefT)
  have hP : Pl w _ _ _ (.slice (some ⟨w3.heap.size, 0, none⟩) 0 0) [] 0 := ⟨hM3.keep hk4, Own.fresh (d := kE) (e := R18.RefT) (base := w.heap.size) (w := w3) (by have := hk3.size; omega), ((hka.then hk3).then hk4).below⟩
  clear hk4
  go_wp2_with fail
  go_loopw [6, 7] (fun v i wr => playRel18 w (wa.heap.size + 1) wa.heap.size len0 v i wr) (fun _ i _ => 40 - (intOf i).toNat)
  case atStart => exact ⟨0, [], rfl, by omega, by omega, hP⟩
  case round =>
    obtain ⟨k, r, rfl, hk1, hk2, hPl⟩ := hrel
    clear hP hM3
    obtain ⟨c, hc⟩ : ∃ c : Bool, c = decide (k < len0 ∧ k < 40) := ⟨_, rfl⟩
    have HC := hide hc
    clear hc
    go_upto_region 6 with fail
    go_cut [33] from 26 to 146 (fun s wx => s = .bool c ∧ wx = wr)
    case first =>
      by_cases h1 : k < len0
      · by_cases h2 : k < 40
        · obtain rfl : c = true := by rw [HC.out]; simp [h1, h2]
          go_wp2_with fail
          go_meet
          exact ⟨by first | rfl | (simp; omega), rfl⟩
        · obtain rfl : c = false := by rw [HC.out]; simp [h2]
          go_wp2_with fail
          go_meet
          exact ⟨by first | rfl | (simp; omega), rfl⟩
      · obtain rfl : c = false := by rw [HC.out]; simp [h1]
        go_wp2_with fail
        go_meet
        exact ⟨rfl, rfl⟩
    case rest =>
    obtain ⟨rfl, rfl⟩ := hcut
    cases c
    · clear HC
      go_wp2_with fail
      go_ret
      exact ⟨rfl, hPl.below⟩
    · have hlt : k < len0 ∧ k < 40 := by have := HC.out; simpa using this
      obtain ⟨hlt, h15⟩ := hlt
      clear HC
      obtain ⟨b, off, rfl, hb, hc⟩ := slice_act r0 (by omega)
      obtain ⟨kd, at0, s, c0, c1, c2, _⟩ := hc k hlt
      clear hc
      have d0 : wc.cell? ⟨b, off + k * 3, none⟩ = some (.int .i64 kd) := (hPl.below.cell (p := ⟨b, off + k * 3, none⟩) hb).trans c0
      have d1 : wc.cell? ⟨b, off + k * 3 + 1, none⟩ = some (.int .i64 at0) := (hPl.below.cell (p := ⟨b, off + k * 3 + 1, none⟩) hb).trans c1
      have d2 : wc.cell? ⟨b, off + k * 3 + 2, none⟩ = some (.string s) := (hPl.below.cell (p := ⟨b, off + k * 3 + 2, none⟩) hb).trans c2
      have hlt' : (k : Int) < (len0 : Int) := by omega
      have hks := cutS_size s 10
      have HCU := hide (fun w => cut01_any s 10 w)
      obtain ⟨key, hkey⟩ : ∃ x, cutS s 10 = x := ⟨_, rfl⟩
      rw [hkey] at HCU hks
      have hP5 := hPl.keep ((Keep.refl [] wc).alloc (.cells #[.int .i64 kd, .int .i64 at0, .string s] 30))
      have hX := Blk.new wc #[.int .i64 kd, .int .i64 at0, .string s] 30
      have hkr := hPl.mt.len
      clear c0 c1 c2 hkey hPl
      go_wp2_with fail
      refine (HCU.out _).mono ?_
      rintro e w5 ⟨rfl, rfl⟩
      have x0 := hX.cell 0
      have x1 := hX.cell 1
      simp at x0 x1
      go_upto_block 2 with fail
      go_cut [6] (fun v wx => swRel w (wa.heap.size + 1) wa.heap.size v (k + 1) wx)
      case first =>
        have hkm0 := hP5.mt.base
        by_cases k1 : kd = 1
        · subst k1
          go_wp2_with fail
          refine (tSet hP5.mt key at0 (by omega)).mono ?_
          rintro e w6 ⟨rfl, hM6, hk6⟩
          have hkm := hP5.mt.km hk6
          have hO6 := hkm.own hP5.own
          have hB6 := hkm.below hP5.below
          have y1 := (hkm.blk hX).cell 1
          simp at y1
          clear x1
          go_wp2_with fail
          refine (R18.rSet hO6 (by omega) key at0).mono ?_
          rintro e wq ⟨vq, rfl, hOq, hkq⟩
          have hPq : Pl w wq (wa.heap.size + 1) wa.heap.size vq _ (k + 1) := ⟨hM6.keep hkq, hOq.lower hB6.size, Keep.below_of hB6 hkq (by simp)⟩
          go_wp2_with fail
          go_meet
          exact ⟨_, hPq⟩
        have k1' : (kd == 1) = false := by simpa using k1
        by_cases k2 : kd = 2
        · subst k2
          have hst := tStop hP5.mt key
          have hrs := fun w7 (hO7 : Own kE R18.RefT w.heap.size w7 u6 r) => R18.rStop hO7 (by omega) key
          obtain ⟨q, hq⟩ : ∃ q, (r.any fun p => decide (p.1 = key)) = q := ⟨_, rfl⟩
          rw [hq] at hst
          simp only [hq] at hrs
          have HRS := hide hrs
          have nq : (q != q) = false := by simp
          clear hq hrs
          go_wp2_with fail
          refine hst.mono ?_
          rintro e w6 ⟨rfl, hM6, hk6⟩
          have hkm := hP5.mt.km hk6
          have hO6 := hkm.own hP5.own
          have hB6 := hkm.below hP5.below
          clear hst
          go_wp2_with fail
          refine (HRS.out _ hO6).mono ?_
          rintro e wq ⟨vq, rfl, hOq, hkq⟩
          have hPq : Pl w wq (wa.heap.size + 1) wa.heap.size vq _ (k + 1) := ⟨(hM6.keep hkq).mono (by omega), hOq.lower hB6.size, Keep.below_of hB6 hkq (by simp)⟩
          go_wp2_with fail
          go_meet
          exact ⟨_, hPq⟩
        have k2' : (kd == 2) = false := by simpa using k2
        by_cases k3 : kd = 3
        · subst k3
          go_wp2_with fail
          refine (tDue hP5.mt (by omega) at0).mono ?_
          rintro e w6 ⟨v6, rfl, hD6, hM6, hk6⟩
          have hkm := hP5.mt.km hk6
          have hO6 := hkm.own hP5.own
          have hB6 := hkm.below hP5.below
          have y1 := (hkm.blk hX).cell 1
          simp at y1
          clear x1
          go_wp2_with fail
          refine (R18.rDue hO6 (by omega) at0).mono ?_
          rintro e w7 ⟨⟨v7, v8⟩, rfl, hO7, hO8, hk7⟩
          simp only at hO7 hO8
          have hD7 := hD6.keep hk7 (by simp)
          have hfl := List.length_filter_le (fun p : En => decide (p.2 ≤ at0)) r
          have HIS := hide (isE_any hD7 hO8 (by omega))
          have HM7 := hide (hM6.keep hk7)
          have HO7 := hide (hO7.lower hB6.size)
          have HB7 : Below w.heap.size w w7 := Keep.below_of hB6 hk7 (by simp)
          clear hO7 hO8 hD6 hD7 hM6 hO6 hB6 hk6 hk7 hkm hfl
          go_wp2_with fail
          refine HIS.out.mono ?_
          rintro e wq ⟨rfl, hkq⟩
          have hPq : Pl w wq (wa.heap.size + 1) wa.heap.size v7 _ (k + 1) := ⟨(HM7.out.keep hkq).mono (by omega), HO7.out.keep hkq (by simp), Keep.below_of HB7 hkq (by simp)⟩
          go_wp2_with fail
          go_meet
          exact ⟨_, hPq⟩
        have k3' : (kd == 3) = false := by simpa using k3
        clear k1 k2 k3
        go_wp2_with fail
        go_meet
        exact ⟨r, hP5.mt.mono (by omega), hP5.own, hP5.below⟩
      case rest =>
        obtain ⟨rq, hPq⟩ := hcut
        clear hP5 hX x0 x1 d0 d1 d2
        have hrl := hPq.mt.len
        have hg1 := tGet hPq.mt a1
        have hg2 := rGet hPq.own (by omega) a1
        obtain ⟨⟨f1, f2⟩, hf⟩ : ∃ q, findE rq a1 = q := ⟨_, rfl⟩
        rw [hf] at hg1 hg2
        have HG2 := hide hg2
        clear hf hg2
        go_wp2_with fail
        refine hg1.mono ?_
        rintro e wx ⟨rfl, rfl⟩
        clear hg1
        go_wp2_with fail
        refine HG2.out.mono ?_
        rintro e wr1 ⟨rfl, hkr1⟩
        have hP1 := hPq.keep hkr1
        clear HG2 hPq hkr1
        go_wp2_with fail
        refine (tNext hP1.mt (by omega)).mono ?_
        rintro e wn ⟨⟨⟨xk, xa⟩, q⟩, rfl, hq, hh, hkn⟩
        simp only at hq hh
        have hP2 := hP1.keep hkn
        have hP3 := hP2.keep ((Keep.refl [] wn).alloc (.cells #[.string xk, .int .i64 xa] EntT))
        have hX3 := Blk.new wn #[.string xk, .int .i64 xa] EntT
        have HP3 := hide hP3
        have HX3 := hide hX3
        clear hP3 hX3
        have n1 : (f1 != f1) = false := by simp
        have n2 : (f2 != f2) = false := by simp
        clear hP1 hP2 hkn
        cases rq with
        | nil =>
          simp at hq
          subst hq
          clear hh
          obtain ⟨Aq, cq, rfl⟩ := HP3.out.own.slice
          go_wp2_with fail
          refine wp_region_any (by kernel_rfl) ?_
          refine wpAny_take (i := 0) (v := ptrTo (wa.heap.size + 1)) rfl (by kernel_rfl) (by kernel_rfl) (by kernel_rfl) (fun _ _ _ h => h) (Or.inl ⟨by rfl, fun w => by go_simp⟩) ?_
          refine wpAny_take (i := 2) (v := .slice Aq 0 cq) rfl (by kernel_rfl) (by kernel_rfl) (by kernel_rfl) (fun _ _ _ h => h) (Or.inl ⟨by rfl, fun w => by go_simp⟩) ?_
          refine wpAny_ready (rs := [1]) (by kernel_rfl) (by simp) ?_
          refine AllReady.cons rfl (fun K hK => ?_) AllReady.nil
          go_simp
          refine (tList (w := (wn.alloc (.cells #[.string xk, .int .i64 xa] EntT)).drew) (HP3.out.mt.keep (Keep.refl [] _).drew) (by omega)).mono ?_
          rintro e wl ⟨vl, rfl, hOl, hkl⟩
          have hPl := (HP3.out.keep (Keep.refl [] _).drew).keep hkl
          have HIS := hide (fun n => isE_q (w := wl.drewN n) (hOl.keep ((Keep.refl [] wl).drewN n) (by simp)) (hPl.own.keep ((Keep.refl [] wl).drewN n) (by simp)) (by simp))
          have HLN := hide (fun n => (tLen (hPl.mt.keep ((Keep.refl [] wl).drewN n))).mono (R' := fun e w' => e = .returned (.int .i64 _) ∧ w' = wl.drewN n) fun _ _ h => ⟨h.1, h.2.symm⟩)
          have HPL := hide hPl
          clear hPl hOl
          go_simp
          refine hK _ _ ?_
          clear hK K
          refine wpAny_quiet_from 3 rfl (by kernel_rfl) (by kernel_rfl) ?_
          simp only [List.drop_succ_cons, List.drop_zero]
          repeat (any_goals (first | go_big_quiet_step ((first | (go_at_call 19; exact Calls.quiet_of (HIS.out _)) | (go_at_call 13; exact Calls.quiet_of_same (HLN.out _)))) | quiet_step ((first | (go_at_call 19; exact Calls.quiet_of (HIS.out _)) | (go_at_call 13; exact Calls.quiet_of_same (HLN.out _))))))
          all_goals (refine wpQuiet_nil ?_; intro _ hw'; obtain ⟨nq, hw''⟩ := hw'; subst hw'')
          go_wp2_with fail
          exact ⟨⟨k + 1, [], rfl, by omega, by omega, HPL.out.keep ((Keep.refl [] wl).drewN nq)⟩, by simp [intOf] <;> omega⟩
        | cons e0 t =>
          have hq1 : q = true := by simpa using hq
          subst hq1
          have he := hh rfl
          simp at he
          subst he
          obtain ⟨g, cq, hv, _, hg, y0, y1⟩ := own_ent_at HP3.out.own (j := 0) (by simp)
          subst hv
          simp at y0 y1
          have x0 := HX3.out.cell 0
          have x1 := HX3.out.cell 1
          have HC4 := hide (And.intro (And.intro x0 x1) (And.intro y0 y1))
          have HG := hide hg
          clear x0 x1 y0 y1 hg hh hq
          obtain ⟨r3, hr3⟩ : ∃ r3, (xk, xa) :: t = r3 := ⟨_, rfl⟩
          have hn3 : 0 < r3.length := by rw [← hr3]; simp
          have HR3 := hide hr3
          rw [hr3] at HP3
          rw [hr3] at hrl
          simp only [hr3]
          clear hr3
          obtain ⟨L3, hL3⟩ : ∃ x, r3.length = x := ⟨_, rfl⟩
          rw [hL3] at hn3 HP3
          have HRL := hide hrl
          clear hrl
          simp only [hL3]
          go_wp2_with fail
          refine wp_region_any (by kernel_rfl) ?_
          refine wpAny_take (i := 0) (v := ptrTo (wa.heap.size + 1)) rfl (by kernel_rfl) (by kernel_rfl) (by kernel_rfl) (fun _ _ _ h => h) (Or.inl ⟨by rfl, fun w => by go_simp⟩) ?_
          refine wpAny_take (i := 2) (v := .slice (some ⟨g, 0, none⟩) L3 cq) rfl (by kernel_rfl) (by kernel_rfl) (by kernel_rfl) (fun _ _ _ h => h) (Or.inl ⟨by rfl, fun w => by go_simp⟩) ?_
          refine wpAny_ready (rs := [1]) (by kernel_rfl) (by simp) ?_
          refine AllReady.cons rfl (fun K hK => ?_) AllReady.nil
          go_simp
          refine (tList (w := (wn.alloc (.cells #[.string xk, .int .i64 xa] EntT)).drew) (HP3.out.mt.keep (Keep.refl [] _).drew) (by omega)).mono ?_
          rintro e wl ⟨vl, rfl, hOl, hkl0⟩
          have hPl := (HP3.out.keep (Keep.refl [] _).drew).keep hkl0
          have HIS := hide (fun n => isE_q (w := wl.drewN n) (hOl.keep ((Keep.refl [] wl).drewN n) (by simp)) (hPl.own.keep ((Keep.refl [] wl).drewN n) (by simp)) (by have := HRL.out; omega))
          have HLN := hide (fun n => (tLen (hPl.mt.keep ((Keep.refl [] wl).drewN n))).mono (R' := fun e w' => e = .returned (.int .i64 _) ∧ w' = wl.drewN n) fun _ _ h => ⟨h.1, h.2.symm⟩)
          have HPL := hide hPl
          have hkl := ((Keep.refl [] (wn.alloc (.cells #[.string xk, .int .i64 xa] EntT))).drew).then hkl0
          obtain ⟨⟨x0, x1⟩, y0, y1⟩ := HC4.out
          have hg := HG.out
          clear HC4
          have z0 := (hkl.cell (p := ⟨wn.heap.size, 0, none⟩) (by simp) (by simp)).trans x0
          have z1 := (hkl.cell (p := ⟨wn.heap.size, 1, none⟩) (by simp) (by simp)).trans x1
          have z2 := (hkl.cell (p := ⟨g, 0, none⟩) (by simpa using hg) (by simp)).trans y0
          have z3 := (hkl.cell (p := ⟨g, 1, none⟩) (by simpa using hg) (by simp)).trans y1
          have nR := neqR xk xa
          clear x0 x1 y0 y1
          clear hPl hOl
          go_simp
          refine hK _ _ ?_
          clear hK K
          refine wpAny_quiet_from 3 rfl (by kernel_rfl) (by kernel_rfl) ?_
          simp only [List.drop_succ_cons, List.drop_zero]
          repeat (any_goals (first | go_big_quiet_step ((first | (go_at_call 19; exact Calls.quiet_of (HIS.out _)) | (go_at_call 13; exact Calls.quiet_of_same (HLN.out _)))) | quiet_step ((first | (go_at_call 19; exact Calls.quiet_of (HIS.out _)) | (go_at_call 13; exact Calls.quiet_of_same (HLN.out _))))))
          all_goals (refine wpQuiet_nil ?_; intro _ hw'; obtain ⟨nq, hw''⟩ := hw'; subst hw'')
          go_wp2_with fail
          exact ⟨⟨k + 1, r3, rfl, by omega, by omega, HPL.out.keep ((Keep.refl [] wl).drewN nq)⟩, by simp [intOf] <;> omega⟩
end Go.Proofs.Ytbgondiibnjcgaa
