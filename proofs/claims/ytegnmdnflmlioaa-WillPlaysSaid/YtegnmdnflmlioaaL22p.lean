import Derived.Test.YtegnmdnflmlioaaRows
import Derived.Test.YtegnmdnflmlioaaChecked
import Derived.Test.YtegnmdnflmlioaaU22
import Derived.Test.YtegnmdnflmlioaaA22
import Derived.Test.YtegnmdnflmlioaaAct22
import Derived.Test.YtegnmdnflmlioaaBand
import Derived.Outline
import Derived.Deep.CutBlock
import Derived.Deep.DeepCutAuto
import Derived.Deep.CutRange
namespace Go.Proofs.Ytegnmdnflmlioaa
open Go.RowKit Go.Shelf Go.Proofs.Ytegnmdnflmlioaa.PWillPlays Go.Proofs.YtegnmdnflmlioaaW.PrintWords Go.Proofs.YtegnmdnflmlioaaW.PrintLast
set_option maxRecDepth 10000
set_option linter.unusedVariables false
set_option maxHeartbeats 4000000
open R22 in
def playRel22 (W : World) (n b tn tb len : Nat) (v t i : Value) (wr : World) : Prop := ∃ (k : Nat) (now : Int) (hs : List (BA × Hd)) (r : List En) (l : List One), i = .int .i64 k ∧ t = .int .i64 now ∧ 0 ≤ now ∧ now ≤ 15 * k ∧ k ≤ len ∧ k ≤ 40 ∧ Pl W wr n b tn tb hs r l v k
open R22 in
def swRel22 (W : World) (n b tn tb : Nat) (v : Value) (K : Nat) (wr : World) : Prop := ∃ hs r l, Pl W wr n b tn tb hs r l v K
open R22 in
theorem D_len {l : List One} {now : Int} {ds : List En} (h : D l now ds) (hn : (ds.map (·.1)).Nodup) : ds.length ≤ l.length := by
  have h2 : ((l.filter fun x => decide (dueB now x)).map (·.f0)).Nodup := h.nd.sublist (List.filter_sublist.map _)
  have := ((List.perm_ext_iff_of_nodup hn h2).2 fun c => by
    constructor
    · intro hc
      obtain ⟨e, he, rfl⟩ := List.mem_map.1 hc
      obtain ⟨x, hx, hxe, hd⟩ := h.has e he
      exact List.mem_map.2 ⟨x, List.mem_filter.2 ⟨hx, decide_eq_true hd⟩, by rw [← hxe]; rfl⟩
    · intro hc
      obtain ⟨x, hx, rfl⟩ := List.mem_map.1 hc
      obtain ⟨h1, h2⟩ := List.mem_filter.1 hx
      exact List.mem_map.2 ⟨_, h.all x h1 (of_decide_eq_true h2), rfl⟩).length_eq
  rw [List.length_map, List.length_map] at this
  rw [this]
  exact List.length_filter_le _ _
theorem Mt.sorted {W w : World} {n b : Nat} {r : List En} {K : Nat} (h : Mt W w n b r K) : r.Pairwise ltE := by
  obtain ⟨l, h1, h2, h3, h4, h5, h6⟩ := h.ex
  exact h4.2
open R22 in
theorem plays22_walk (a0 : Option Addr) (len0 cap0 : Nat) (z0 : Sh.T (.slice ShAct22)) (w : World) (r0 : Sh.Rd w (.slice ShAct22) z0 [.slice a0 len0 cap0]) :
    Calls Try.prog 4 #[.slice a0 len0 cap0] w fun e w' => e = .returned (.bool true) ∧ Below w.heap.size w w' := by
  have hl0 : len0 ≤ maxLen := by obtain ⟨_, h1, h2⟩ := Sh.slice_len r0; omega
  unfold maxLen at hl0
  go_enter Try.func4, Try.ntmps4
  go_wp2_with fail
  refine (wNew (W := w) (Nat.le_refl _)).mono ?_
  rintro e w1 ⟨⟨n, b, tn, tb⟩, rfl, h1, hk1⟩
  simp only at h1
  have hk2 := (Keep.refl [] w1).alloc (.cells #[] OneT)
  have hbl := h1.map.lt
  have htl := h1.tim.base.2
  have hLV : LV (w1.alloc (.cells #[] OneT)) b tb (.slice (some ⟨w1.heap.size, 0, none⟩) 0 0) [] := Kd.V_lower (base := w1.heap.size) (Kd.N_V (base := w1.heap.size) (Kd.R_N (Kd.R_mono (Kd.R_bound (Own.fresh (d := kO) (e := OneT) (base := w1.heap.size) (w := w1) (Nat.le_refl _))) (fun k hk => ⟨by have := hk.2.1; omega, by have := hk.2.1; omega⟩)))) (Nat.zero_le _)
  have h2 := h1.keep hk2
  have hbb := (hk1.then hk2).below
  clear h1 hk1 hk2 hbl htl
  go_wp2_with fail
  refine (awake22 _).mono ?_
  rintro e wa ⟨rfl, hka⟩
  have hP : Pl w wa n b tn tb [] [] [] (.slice (some ⟨w1.heap.size, 0, none⟩) 0 0) 0 := ⟨h2.keep hka, Rel.nil, hLV.keep0 hka, by simp, Keep.below_of hbb hka (by simp)⟩
  clear h2 hLV hbb hka
  go_wp2_with fail
  go_loopw [4, 5, 6] (fun v t i wr => playRel22 w n b tn tb len0 v t i wr) (fun _ _ i _ => 40 - (intOf i).toNat)
  case atStart => exact ⟨0, 0, [], [], [], rfl, rfl, by omega, by omega, by omega, by omega, hP⟩
  case round =>
    clear hP
    obtain ⟨k, now, hs, r, l, rfl, rfl, hn0, hn1, hk1, hk2, hPl⟩ := hrel
    by_cases hlt : k < len0 ∧ k < 40
    · obtain ⟨hlt1, hlt2⟩ := hlt
      obtain ⟨b0, off, rfl, hb0, hc⟩ := slice_act22 r0 (by omega)
      obtain ⟨kd, nn, cl, A, c, ps, tp, pl, q, rt, ex, ⟨c0, c1, c2, c3, c4, c5, c6, c7, c8⟩, hpc, hpC, hpb, he0, he1⟩ := hc k hlt1
      have d0 := (hPl.below.cell (p := ⟨b0, off + k * 9, none⟩) hb0).trans c0
      have d1 := (hPl.below.cell (p := ⟨b0, off + k * 9 + 1, none⟩) hb0).trans c1
      have d2 := (hPl.below.cell (p := ⟨b0, off + k * 9 + 2, none⟩) hb0).trans c2
      have d3 := (hPl.below.cell (p := ⟨b0, off + k * 9 + 3, none⟩) hb0).trans c3
      have d4 := (hPl.below.cell (p := ⟨b0, off + k * 9 + 4, none⟩) hb0).trans c4
      have d5 := (hPl.below.cell (p := ⟨b0, off + k * 9 + 5, none⟩) hb0).trans c5
      have d6 := (hPl.below.cell (p := ⟨b0, off + k * 9 + 6, none⟩) hb0).trans c6
      have d7 := (hPl.below.cell (p := ⟨b0, off + k * 9 + 7, none⟩) hb0).trans c7
      have d8 := (hPl.below.cell (p := ⟨b0, off + k * 9 + 8, none⟩) hb0).trans c8
      obtain ⟨pn, hpn⟩ : ∃ pn, ps.length = pn := ⟨_, rfl⟩
      rw [hpn] at d3
      have hX := Blk.new wr #[.int .i64 kd, .int .i64 nn, .string cl, .slice A pn c, .string tp, .string pl, .int .u8 q, .bool rt, .int .u32 ex] 44
      have hka := (Keep.refl [] wr).alloc (.cells #[.int .i64 kd, .int .i64 nn, .string cl, .slice A pn c, .string tp, .string pl, .int .u8 q, .bool rt, .int .u32 ex] 44)
      have hP1 := hPl.keep hka
      have hpC1 := Kd.C_below hpC hP1.below
      obtain ⟨hm0, hm1⟩ := band_small nn 15 (by decide)
      have e15 : ((15 : Nat) : Int) = 15 := rfl
      rw [e15] at hm0 hm1
      obtain ⟨bn, hbn⟩ : ∃ bn, bits .and .i64 nn 15 = bn := ⟨_, rfl⟩
      rw [hbn] at hm0 hm1
      have hks := cutS_size cl 6
      have HCU := hide (fun w => cut01_any cl 6 w)
      obtain ⟨key, hkey⟩ : ∃ x, cutS cl 6 = x := ⟨_, rfl⟩
      rw [hkey] at HCU hks
      have hl1 : (k : Int) < (len0 : Int) := by omega
      have hl2 : (k : Int) < 40 := by omega
      have hsum : IntKind.i64.wrap (now + bn) = now + bn := IntWalk.i64_in _ (by omega)
      obtain ⟨nw2, hnw⟩ : ∃ x, now + bn = x := ⟨_, rfl⟩
      have hnw0 : 0 ≤ nw2 := by omega
      have hnw1 : nw2 ≤ 15 * ((k : Int) + 1) := by omega
      rw [hnw] at hsum
      have HP1 := hide hP1
      have HPC := hide hpC1
      have HX := hide hX
      have HPN := hide hpn
      have HPB := hide hpb
      have HPCC := hide hpc
      have HC := hide hc
      clear c0 c1 c2 c3 c4 c5 c6 c7 c8 hkey hPl hP1 hpC1 hpC hX hpn hpb hpc hc hka e15
      go_wp2_with fail
      refine (HCU.out _).mono ?_
      rintro e w5 ⟨rfl, rfl⟩
      have x0 := HX.out.cell 0
      have x3 := HX.out.cell 3
      have x4 := HX.out.cell 4
      have x5 := HX.out.cell 5
      have x6 := HX.out.cell 6
      have x7 := HX.out.cell 7
      have x8 := HX.out.cell 8
      simp at x0 x3 x4 x5 x6 x7 x8
      go_upto_block 2 with fail
      go_cut [4] (fun v wx => swRel22 w n b tn tb v (k + 1) wx)
      case first =>
        have hbt := HP1.out.blt
        have hln := HP1.out.len
        by_cases k1 : kd = 1
        · subst k1
          have hfew := mFew tp pl q rt HPC.out HPCC.out
          rw [HPN.out] at hfew
          have HFEW := hide hfew
          clear hfew
          go_wp2_with fail
          refine HFEW.out.mono ?_
          rintro e wf ⟨⟨Af, cf⟩, rfl, hOf, hkf⟩
          simp only at hOf
          have hfl := fewP_len ps
          have hfb := fewP_bd HPB.out
          obtain ⟨fp, hfp⟩ : ∃ fp, fewP ps = fp := ⟨_, rfl⟩
          rw [hfp] at hOf hfl hfb
          obtain ⟨tp2, htp⟩ : ∃ x, cutS tp 20 = x := ⟨_, rfl⟩
          obtain ⟨pl2, hpl⟩ : ∃ x, cutS pl 20 = x := ⟨_, rfl⟩
          obtain ⟨fl, hfpl⟩ : ∃ fl, fp.length = fl := ⟨_, rfl⟩
          unfold willV
          rw [hfp, htp, hpl, hfpl]
          have hka2 := (Keep.refl [] wf).alloc (.cells #[.slice Af fl cf, .string tp2, .string pl2, .int .u8 q, .bool rt] 33)
          have hX2 := Blk.new wf #[.slice Af fl cf, .string tp2, .string pl2, .int .u8 q, .bool rt] 33
          rw [hfpl] at hOf
          have hO2 := hOf.keep hka2 (by simp)
          have hP2 := (HP1.out.keep hkf).keep hka2
          have hbt2 := hP2.blt
          have hkfz := hkf.size
          have HP2 := hide hP2
          have HX2 := hide hX2
          have HO2 := hide hO2
          have HFPL := hide hfpl
          have HFB := hide hfb
          clear hfp htp hpl hfpl hOf hO2 hX2 hP2 hkf hka2 HFEW hfb
          clear x0 x3 x4 x5 x6 x7 x8
          go_wp2_with fail
          refine (wHoldK HP2.out.ws key tp2 pl2 q rt (l := fp) HO2.out (by have := HFPL.out; omega) (num_bd HFB.out)).mono ?_
          rintro e w6 ⟨vh, rfl, h6, hk6⟩
          have hkm := HP2.out.ws.km hk6 (by simp)
          obtain ⟨hL6, hB6⟩ := HP2.out.step hk6
          have hO6 := hkm.own HO2.out
          have hX6 := hkm.blk HX2.out
          obtain ⟨A6, c6, hv6, hc6, hC6⟩ := hO6.reads
          obtain ⟨rfl, rfl⟩ : Af = A6 ∧ cf = c6 := by injection hv6 with h1 _ h3; exact ⟨h1, h3⟩
          have y0 := hX6.cell 0
          have y1 := hX6.cell 1
          have y2 := hX6.cell 2
          have y3 := hX6.cell 3
          have y4 := hX6.cell 4
          simp at y0 y1 y2 y3 y4
          have htold := mTold tp2 pl2 q rt hC6 hc6 (by omega)
          rw [HFPL.out] at htold
          obtain ⟨tps, htps⟩ : ∃ x, fp.map toP = x := ⟨_, rfl⟩
          obtain ⟨tl, htl⟩ : ∃ x, tps.length = x := ⟨_, rfl⟩
          rw [htps, htl] at htold
          have HTPS := hide htps
          have HTL := hide htl
          have HTOLD := hide htold
          clear htps htl
          have H6 := hide h6
          have HL6 := hide hL6
          have HB6 := hide hB6
          have hz6 := hkm.size
          clear htold h6 hL6 hB6 hO6 hX6 hv6 hC6 hkm
          go_wp2_with fail
          refine HTOLD.out.mono ?_
          rintro e w7 ⟨⟨At, ct⟩, rfl, hCt, hct, hkt⟩
          simp only at hCt hct
          have hL7 := HL6.out.keep0 hkt
          have hz7 := hkt.size
          have hrh := rHold hL7 (by omega) (by omega) (by omega) key (ps := tps) tp2 pl2 q rt (by rw [HTL.out]; exact hCt) (by rw [HTL.out]; exact hct) (by rw [← HTPS.out, List.length_map]; have := HFPL.out; omega) (by rw [← HTPS.out]; exact toP_bd HFB.out)
          rw [HTL.out] at hrh
          have HRH := hide hrh
          clear hrh
          go_wp2_with fail
          ((with_reducible refine HRH.out.mono ?_))
          rintro e w8 ⟨v8, rfl, hL8, hk8⟩
          have hR8 := (HP1.out.rel.hold HP1.out.nr key (⟨⟨key, 0, q, rt, noWD fp, tp2, pl2⟩, vh, numPr fp 24 0⟩ : Hd))
          have hPq : Pl w w8 n b tn tb _ _ _ v8 (k + 1) := ⟨(H6.out.keep hkt).keep hk8, hR8, by
            have e1 := delay_num fp
            have e2 := noWD_map fp
            rw [← HTPS.out, e1, e2] at hL8
            exact hL8, pos_rm HP1.out.pos key, Keep.below_of (Keep.below_of HB6.out hkt (by simp)) hk8 (by simp)⟩
          go_wp2_with fail
          go_meet
          exact ⟨_, _, _, hPq⟩
        have k1' : (kd == 1) = false := by simpa using k1
        by_cases k2 : kd = 2
        · subst k2
          clear x0 x3 x4 x5 x6 x7 x8
          have nq : ((AL.get hs key).isSome != (AL.get hs key).isSome) = false := by simp
          have hany := HP1.out.rel.any key
          have hdr := HP1.out.rel.drop HP1.out.ws.map.nodup HP1.out.nr key
          have HD := hide hdr
          have HDR := hide (wDropK HP1.out.ws key)
          obtain ⟨qq, hqq⟩ : ∃ qq, (AL.get hs key).isSome = qq := ⟨_, rfl⟩
          rw [hqq] at nq hany HDR
          have HAN := hide hany
          clear hany hdr hqq
          go_wp2_with fail
          ((with_reducible refine HDR.out.mono ?_))
          rintro e w6 ⟨rfl, h6, hk6⟩
          obtain ⟨hL6, hB6⟩ := HP1.out.step hk6
          have hz6 := hk6.size
          have hrd := rDrop hL6 (by omega) (by omega) (by omega) key
          rw [HAN.out] at hrd
          have HRD := hide hrd
          have H6 := hide h6
          have HB6 := hide hB6
          clear hrd h6 hB6 HDR hL6
          go_wp2_with fail
          ((with_reducible refine HRD.out.mono ?_))
          rintro e w7 ⟨v7, rfl, hL7, hk7⟩
          have hPq : Pl w w7 n b tn tb _ _ _ v7 (k + 1) := ⟨(H6.out.keep hk7).mono (by omega), HD.out, hL7, pos_rm HP1.out.pos key, Keep.below_of HB6.out hk7 (by simp)⟩
          go_wp2_with fail
          go_meet
          exact ⟨_, _, _, hPq⟩
        have k2' : (kd == 2) = false := by simpa using k2
        by_cases k3 : kd = 3
        · subst k3
          have HEN := hide (HP1.out.rel.endw HP1.out.nr key nw2 ex)
          have HPOS := hide (pos_end HP1.out.pos key nw2 ex hnw0 he0 HP1.out.ws.dl)
          clear x0 x3 x4 x5 x6 x7
          go_wp2_with fail
          ((with_reducible refine (wEndK HP1.out.ws key nw2 ex (by omega) hnw0 (by omega) he0 he1).mono ?_))
          rintro e w6 ⟨rfl, h6, hk6⟩
          obtain ⟨hL6, hB6⟩ := HP1.out.step hk6
          have hkm := HP1.out.ws.km hk6 (by simp)
          have y8 := (hkm.blk HX.out).cell 8
          simp at y8
          have hz6 := hk6.size
          have H6 := hide h6
          have HB6 := hide hB6
          have HL6 := hide hL6
          have hbd := hide HP1.out.bd
          clear x8 h6 hB6 hL6 hkm
          have HRE := hide (rEnd HL6.out (by omega) (by omega) (by omega) key nw2 ex hnw0 (by omega) he0 he1 hbd.out)
          go_wp2_with fail
          ((with_reducible refine HRE.out.mono ?_))
          rintro e w7 ⟨v7, rfl, hL7, hk7⟩
          have hPq : Pl w w7 n b tn tb _ _ _ v7 (k + 1) := ⟨H6.out.keep hk7, HEN.out, hL7, HPOS.out, Keep.below_of HB6.out hk7 (by simp)⟩
          go_wp2_with fail
          go_meet
          exact ⟨_, _, _, hPq⟩
        have k3' : (kd == 3) = false := by simpa using k3
        by_cases k4 : kd = 4
        · subst k4
          clear x0 x3 x4 x5 x6 x7 x8
          obtain ⟨hD, hms⟩ := HP1.out.rel.due HP1.out.nr HP1.out.ws.tim.sorted HP1.out.ws.inn HP1.out.pos nw2
          have haf := HP1.out.rel.after HP1.out.ws.map.nodup HP1.out.nr HP1.out.ws.inn HP1.out.pos nw2
          have HAF := hide haf
          have HD := hide hD
          have HMS := hide hms
          clear hD hms haf
          go_wp2_with fail
          ((with_reducible refine (wDueK HP1.out.ws nw2 (by omega)).mono ?_))
          rintro e w6 ⟨v6, rfl, hO6, h6, hk6⟩
          obtain ⟨hL6, hB6⟩ := HP1.out.step hk6
          have hz6 := hk6.size
          have hdl : (r.filter fun p => decide (p.2 ≤ nw2)).length ≤ l.length :=
            D_len HD.out (HP1.out.nr.sublist (List.filter_sublist.map _))
          have H6 := hide h6
          have HB6 := hide hB6
          have HO6 := hide hO6
          have HL6 := hide hL6
          obtain ⟨ds, hds⟩ : ∃ ds, (r.filter fun p => decide (p.2 ≤ nw2)) = ds := ⟨_, rfl⟩
          rw [hds] at HD HO6 H6 hdl HAF
          have hds2 : ∀ e ∈ ds, e ∈ r := fun e he => by rw [← hds] at he; exact (List.mem_filter.1 he).1
          have hmm : ds.map (msgR l nw2) = (ds.map (msgAt hs nw2)).map toM := by
            rw [List.map_map]
            exact List.map_congr_left fun e he => HMS.out e (hds2 e he)
          have hml := ms_len HP1.out.ws nw2 ds
          obtain ⟨ms, hmse⟩ : ∃ ms, ds.map (msgAt hs nw2) = ms := ⟨_, rfl⟩
          rw [hmse] at HO6 hmm hml
          have hmsl : ms.length = ds.length := by rw [← hmse, List.length_map]
          have HMM := hide hmm
          have HML := hide hml
          have HMSL := hide hmsl
          have HDL := hide hdl
          obtain ⟨A6, c6, hv6⟩ := HO6.out.slice
          obtain ⟨ml, hmln⟩ : ∃ ml, ms.length = ml := ⟨_, rfl⟩
          rw [hmln] at hv6
          have HMLN := hide hmln
          subst hv6
          clear h6 hB6 hO6 hL6 hds hds2 hmm hml hmse hmsl hdl hmln
          have hduc := rDue HL6.out (by omega) (by omega) (by omega) nw2 ds HD.out HDL.out
          obtain ⟨rs, hrs⟩ : ∃ rs, ds.map (msgR l nw2) = rs := ⟨_, rfl⟩
          rw [hrs] at hduc HMM
          obtain ⟨rl, hrl⟩ : ∃ rl, rs.length = rl := ⟨_, rfl⟩
          rw [hrl] at hduc
          have HRL := hide hrl
          have HDU := hide hduc
          clear hrs hduc hrl
          go_wp2_with fail
          ((with_reducible refine HDU.out.mono ?_))
          rintro e w7 ⟨⟨v7, A7, c7⟩, rfl, hL7, hC7, hc7, hk7⟩
          simp only at hL7 hC7 hc7
          have hO7 := HO6.out.keep hk7 (by simp)
          have HIS := hide (mIs hO7 (by have := HMSL.out; have := HDL.out; omega) HML.out hC7 hc7 HRL.out.symm HMM.out)
          have HL7 := hide hL7
          clear hL7 hC7 hO7
          go_wp2_with fail
          ((with_reducible refine HIS.out.mono ?_))
          rintro e w8 ⟨rfl, hk8⟩
          have hPq : Pl w w8 n b tn tb _ _ _ v7 (k + 1) := ⟨((H6.out.keep hk7).keep hk8).mono (by omega), HAF.out, HL7.out.keep0 hk8, fun p hp => HP1.out.pos p (List.mem_filter.1 hp).1, Keep.below_of (Keep.below_of HB6.out hk7 (by simp)) hk8 (by simp)⟩
          go_wp2_with fail
          go_meet
          exact ⟨_, _, _, hPq⟩
        have k4' : (kd == 4) = false := by simpa using k4
        clear k1 k2 k3 k4
        go_wp2_with fail
        go_meet
        exact ⟨hs, r, l, HP1.out.mono (by omega)⟩
      case rest =>
        obtain ⟨hs2, r2, l2, hPq⟩ := hcut
        clear x0 x3 x4 x5 x6 x7 x8 d0 d1 d2 d3 d4 d5 d6 d7 d8
        have hln := hPq.len
        have hh1 := wHas hPq.ws key
        have hh2 := fun (w' : World) (hk : Keep [] _ w') => rHas (hPq.lv.keep0 hk) (by omega) key
        rw [hPq.rel.has hPq.nr key] at hh2
        obtain ⟨⟨f1, f2⟩, hf⟩ : ∃ q, hasW hs2 r2 key = q := ⟨_, rfl⟩
        rw [hf] at hh1 hh2
        have HH2 := hide hh2
        have HPQ := hide hPq
        clear hf hh2 hPq
        go_wp2_with fail
        refine hh1.mono ?_
        rintro e wx ⟨rfl, hkx⟩
        clear hh1
        go_wp2_with fail
        ((with_reducible refine (HH2.out _ hkx).mono ?_))
        rintro e wy ⟨rfl, hky⟩
        have hPy := HPQ.out.keep (hkx.then hky)
        have hLn := wLen hPy.ws
        rw [← hPy.rel.len] at hLn
        obtain ⟨Al, cl2, hvl⟩ := Kd.V_slice hPy.lv
        obtain ⟨ll, hll⟩ : ∃ ll, l2.length = ll := ⟨_, rfl⟩
        rw [hll] at hLn hvl
        have HLN := hide hLn
        have HPY := hide hPy
        have m1 : (f1 != f1) = false := by simp
        have m2 : (f2 != f2) = false := by simp
        have m3 : ((ll : Int) != (ll : Int)) = false := by simp
        subst hvl
        clear hLn hPy hll hkx hky HH2 HPQ
        go_wp2_with fail
        ((with_reducible refine HLN.out.mono ?_))
        rintro e wz ⟨rfl, rfl⟩
        go_wp2_with fail
        exact ⟨⟨k + 1, nw2, hs2, r2, l2, by simp, rfl, by omega, by omega, by omega, by omega, HPY.out⟩, by simp [intOf]; omega⟩
    · have hbb := hPl.below
      by_cases h1 : k < len0
      · have h2 : ¬ k < 40 := fun h => hlt ⟨h1, h⟩
        have h3 : ¬ (k : Int) < 40 := by omega
        have h4 : (k : Int) < (len0 : Int) := by omega
        go_wp2_with fail
        go_ret
        exact ⟨rfl, hbb⟩
      · have h4 : ¬ (k : Int) < (len0 : Int) := by omega
        go_wp2_with fail
        go_ret
        exact ⟨rfl, hbb⟩
end Go.Proofs.Ytegnmdnflmlioaa
