import Derived.Test.YtbgondiibnjcgaaDoorRPub
import Derived.Test.YtbgondiibnjcgaaDoorA12
namespace Go.Proofs.YtbgondiibnjcgaaDoor
open Go.RowKit Go.Shelf Go.Proofs.YtbgondiibnjcgaaDoorW.PrintWords Go.Proofs.YtbgondiibnjcgaaDoorW.PrintLast
set_option maxRecDepth 100000
set_option linter.unusedVariables false
set_option maxHeartbeats 4000000
open R12 M12
abbrev ShPub : Sh := .struct (.cons .bool (.cons .bool (.cons (.int .u8) (.cons (.int .u32) (.cons (.slice ShProp) (.cons .str (.cons .str .nil)))))))
theorem pub_in {w : World} {z : Sh.T ShPub} {cs : List Value} (r : Sh.Rd w ShPub z cs) :
    ∃ (d rt : Bool) (q id : Int) (A : Option Addr) (c : Nat) (ps : List SP) (tp pl : ByteArray), cs = [.bool d, .bool rt, .int .u8 q, .int .u32 id, .slice A ps.length c, .string tp, .string pl] ∧
      ps.length ≤ c ∧ kPr.C w A ps.length ps := by
  obtain ⟨c1, d1, rfl, _, rfl, c2, d2, rfl, _, rfl, c3, d3, rfl, _, ⟨rfl, w3⟩, c4, d4, rfl, _, ⟨rfl, w4⟩, c5, d5, rfl, _, hsl, c6, d6, rfl, _, ⟨rfl, w6⟩, c7, d7, rfl, _, ⟨rfl, w7⟩, rfl⟩ := r
  obtain ⟨A, cap2, rfl, q1, q2, q3⟩ := hsl
  obtain ⟨p1, p2, p3, p4⟩ := props_in (w := w) ⟨A, cap2, rfl, q1, q2, q3⟩
  rw [p1] at p2 p3
  exact ⟨_, _, _, _, A, cap2, _, _, _, by simp only [List.cons_append, List.nil_append]; rw [p1], p2, p3⟩
def reg1 (wB : World) (P M : Nat) (d rt : Bool) (q id : Int) (tp pl : ByteArray) (ps : List SP) (fr tm pm_ : ByteArray) (ta qm : Int) (rm_ : Bool) (ms : List SP) (wx : World) : Prop :=
  ∃ v1 v2 : Value, Blk wx P #[.bool d, .bool rt, .int .u8 q, .int .u32 id, v1, .string tp, .string pl] PbT ∧ Own kPr PrT wB.heap.size wx v1 ps ∧ Blk wx M #[.string fr, .int .i64 ta, .int .u8 qm, .bool rm_, v2, .string tm, .string pm_] MsT ∧ Own kPr PrT wB.heap.size wx v2 ms ∧ Keep [P, M] wB wx
theorem reg1_of {wB wl : World} {P M : Nat} {d rt : Bool} {q id : Int} {tp pl : ByteArray} {ps : List SP} {fr tm pm_ : ByteArray} {ta qm : Int} {rm_ : Bool} {ms : List SP} {v1 v2 : Value} {x0 x1 x2 x3 x4 x5 x6 y0 y1 y2 y3 y4 y5 y6 : Value} (hP : Blk wB P #[x0, x1, x2, x3, x4, x5, x6] PbT) (hM : Blk wB M #[y0, y1, y2, y3, y4, y5, y6] MsT) (hPM : P ≠ M) (hk : Keep [] wB wl)
    (h1 : Own kPr PrT wB.heap.size wl v1 ps) (h2 : Own kPr PrT wB.heap.size wl v2 ms) : reg1 wB P M d rt q id tp pl ps fr tm pm_ ta qm rm_ ms (set7 (set7 wl P (.bool d) (.bool rt) (.int .u8 q) (.int .u32 id) v1 (.string tp) (.string pl)) M (.string fr) (.int .i64 ta) (.int .u8 qm) (.bool rm_) v2 (.string tm) (.string pm_)) := by
  obtain ⟨a1, a2⟩ := (hP.keep hk (by simp)).set7 (.bool d) (.bool rt) (.int .u8 q) (.int .u32 id) v1 (.string tp) (.string pl)
  have hM1 := (hM.keep hk (by simp)).keep a2 (by simpa using fun e => hPM e.symm)
  obtain ⟨b1, b2⟩ := hM1.set7 (.string fr) (.int .i64 ta) (.int .u8 qm) (.bool rm_) v2 (.string tm) (.string pm_)
  have o1 := (h1.keep a2 (by intro k hk5; simp at hk5; subst hk5; exact not_of_blk (hP.keep hk (by simp)) (by decide))).keep b2 (by intro k hk5; simp at hk5; subst hk5; exact not_of_blk hM1 (by decide))
  have o2 := (h2.keep a2 (by intro k hk5; simp at hk5; subst hk5; exact not_of_blk (hP.keep hk (by simp)) (by decide))).keep b2 (by intro k hk5; simp at hk5; subst hk5; exact not_of_blk hM1 (by decide))
  exact ⟨v1, v2, a1.keep b2 (by simpa using hPM), o1, b1, o2, ((hk.mono (by simp)).then (a2.mono (by simp))).then (b2.mono (by simp))⟩
section
variable {w : World} {base : Nat} {n : Nat}
theorem told12' {v : Value} {ps : List SP} (h : Own kPr PrT base w v ps) (hl : ps.length ≤ 100) (hn : ps.length = n) (fr tp pl : ByteArray) (at_ q : Int) (rt : Bool) :
    Calls Tryd.prog 23 #[.agg #[.string fr, .int .i64 at_, .int .u8 q, .bool rt, v, .string tp, .string pl]] w (Px fun (x : Option Addr × Nat) e w' => e = .returned (.agg #[.string fr, .int .i64 at_, .int .u8 q, .bool rt, .slice x.1 n x.2, .string tp, .string pl]) ∧ Own kRP RPT 0 w' (.slice x.1 n x.2) (ps.map toP) ∧ Keep [] w w') := by
  refine (told12 h hl fr tp pl at_ q rt).mono ?_
  rintro e w' ⟨v, rfl, ho, hk⟩
  obtain ⟨A, c, rfl⟩ := ho.slice
  rw [List.length_map, hn] at ho ⊢
  exact ⟨(A, c), rfl, ho.lower (Nat.zero_le _), hk⟩
theorem told07' {v : Value} {ps : List SP} (h : Own kPr PrT base w v ps) (hl : ps.length ≤ 100) (hn : ps.length = n) (d rt : Bool) (q id : Int) (tp pl : ByteArray) :
    Calls Tryd.prog 26 #[.agg #[.bool d, .bool rt, .int .u8 q, .int .u32 id, v, .string tp, .string pl]] w (Px fun (x : Option Addr × Nat) e w' => e = .returned (.agg #[.bool d, .bool rt, .int .u8 q, .int .u32 id, .slice x.1 n x.2, .string tp, .string pl]) ∧ Own kRP RPT 0 w' (.slice x.1 n x.2) (ps.map toP) ∧ Keep [] w w') := by
  refine (told07 h hl d rt q id tp pl).mono ?_
  rintro e w' ⟨v, rfl, ho, hk⟩
  obtain ⟨A, c, rfl⟩ := ho.slice
  rw [List.length_map, hn] at ho ⊢
  exact ⟨(A, c), rfl, ho.lower (Nat.zero_le _), hk⟩
theorem rof' {v : Value} {ps : List SP} (h : Own kRP RPT base w v (ps.map toP)) (hl : ps.length ≤ 100) (hn : (ofP ps).length = n) (d rt : Bool) (q id : Int) (tp pl name fr : ByteArray) (now : Int) :
    Calls Tryd.prog 25 #[.agg #[.bool d, .bool rt, .int .u8 q, .int .u32 id, v, .string tp, .string pl], .string name, .string fr, .int .i64 now] w (Px fun (x : Option Addr × Nat) e w' => e = .returned (.agg #[.string fr, .int .i64 now, .int .u8 q, .bool rt, .slice x.1 n x.2, .string name, .string pl]) ∧ Own kRP RPT 0 w' (.slice x.1 n x.2) ((ofP ps).map toP) ∧ Keep [] w w') := by
  refine (rof h (by rw [List.length_map]; exact hl) d rt q id tp pl name fr now).mono ?_
  rintro e w' ⟨v, rfl, ho, hk⟩
  rw [of_map] at ho
  obtain ⟨A, c, rfl⟩ := ho.slice
  rw [List.length_map, hn] at ho ⊢
  exact ⟨(A, c), rfl, ho.lower (Nat.zero_le _), hk⟩
theorem pubPs_len (at_ : Int) (ps : List SP) (now : Int) : (pubPs at_ ps now).length = ps.length := List.length_map _
theorem mpub' {v : Value} {ps : List SP} (h : Own kPr PrT base w v ps) (hl : ps.length ≤ 100) (hn : ps.length = n) (fr tp pl : ByteArray) (at_ q : Int) (rt : Bool) (now : Int) :
    Calls Tryd.prog 19 #[.agg #[.string fr, .int .i64 at_, .int .u8 q, .bool rt, v, .string tp, .string pl], .int .i64 now] w (Px fun (x : Option Addr × Nat) e w' => e = .returned (.agg #[.bool false, .bool rt, .int .u8 q, .int .u32 0, .slice x.1 n x.2, .string tp, .string pl]) ∧ Own kPr PrT 0 w' (.slice x.1 n x.2) (pubPs at_ ps now) ∧ Keep [] w w') := by
  refine (mpub h hl fr tp pl at_ q rt now).mono ?_
  rintro e w' ⟨v, rfl, ho, hk⟩
  obtain ⟨A, c, rfl⟩ := ho.slice
  rw [pubPs_len, hn] at ho ⊢
  exact ⟨(A, c), rfl, ho.lower (Nat.zero_le _), hk⟩
theorem rpub' {v : Value} {ps : List SP} (h : Own kRP RPT base w v (ps.map toP)) (hl : ps.length ≤ 100) (hn : ps.length = n) (fr tp pl : ByteArray) (at_ q : Int) (rt : Bool) (now : Int) :
    Calls Tryd.prog 29 #[.agg #[.string fr, .int .i64 at_, .int .u8 q, .bool rt, v, .string tp, .string pl], .int .i64 now] w (Px fun (x : Option Addr × Nat) e w' => e = .returned (.agg #[.bool false, .bool rt, .int .u8 q, .int .u32 0, .slice x.1 n x.2, .string tp, .string pl]) ∧ Own kRP RPT 0 w' (.slice x.1 n x.2) ((pubPs at_ ps now).map toP) ∧ Keep [] w w') := by
  refine (rpub h (by rw [List.length_map]; exact hl) fr tp pl at_ q rt now).mono ?_
  rintro e w' ⟨v, rfl, ho, hk⟩
  rw [pub_map] at ho
  obtain ⟨A, c, rfl⟩ := ho.slice
  rw [List.length_map, pubPs_len, hn] at ho ⊢
  exact ⟨(A, c), rfl, ho.lower (Nat.zero_le _), hk⟩
end
theorem messages_walk (c0 : Array Value) (z0 : Sh.T ShPub) (c1 : Array Value) (z1 : Sh.T ShMsg) (a2 : ByteArray) (a3 : Int) (w : World) (r0 : Sh.Rd w ShPub z0 c0.toList) (r1 : Sh.Rd w ShMsg z1 c1.toList) (w2 : a2.size ≤ maxLen) (w3 : (Lit.int .i64 a3).wf = true) (hmx : MaxLenAt w) :
    Calls Tryd.prog 7 #[.agg c0, .agg c1, .string a2, .int .i64 a3] w fun e w' => e = .returned (.bool true) ∧ Below w.heap.size w w' := by
  obtain ⟨d, rt, q, id, A, c, ps, tp, pl, hc0, hc, hC⟩ := pub_in r0
  obtain rfl : c0 = #[.bool d, .bool rt, .int .u8 q, .int .u32 id, .slice A ps.length c, .string tp, .string pl] := Array.toList_inj.1 hc0
  obtain ⟨fr, at_, qm, rm_, Am, cm, ms, tm, pm_, hc1, hcm, hCm, _, _⟩ := msg_in r1
  obtain rfl : c1 = #[.string fr, .int .i64 at_, .int .u8 qm, .bool rm_, .slice Am ms.length cm, .string tm, .string pm_] := Array.toList_inj.1 hc1
  have HFP := hide (fun (w' : World) (hk : Keep [] w w') => few07 hc (Kd.C_below hC hk.below) d rt q id tp pl)
  have HFM := hide (fun (w' : World) (hk : Keep [] w w') => mfew hcm (Kd.C_below hCm hk.below) fr tm pm_ at_ qm rm_)
  obtain ⟨nl, hnl⟩ : ∃ n, ps.length = n := ⟨_, rfl⟩
  obtain ⟨nm, hnm⟩ : ∃ n, ms.length = n := ⟨_, rfl⟩
  rw [hnl] at HFP ⊢
  rw [hnm] at HFM ⊢
  have hP := Blk.new w #[.bool d, .bool rt, .int .u8 q, .int .u32 id, .slice A nl c, .string tp, .string pl] PbT
  have hkP := (Keep.refl [] w).alloc (.cells #[.bool d, .bool rt, .int .u8 q, .int .u32 id, .slice A nl c, .string tp, .string pl] PbT)
  obtain ⟨wA, hwA⟩ : ∃ wA, w.alloc (.cells #[.bool d, .bool rt, .int .u8 q, .int .u32 id, .slice A nl c, .string tp, .string pl] PbT) = wA := ⟨_, rfl⟩
  rw [hwA] at hP hkP
  have hM := Blk.new wA #[.string fr, .int .i64 at_, .int .u8 qm, .bool rm_, .slice Am nm cm, .string tm, .string pm_] MsT
  have hkM := (Keep.refl [] wA).alloc (.cells #[.string fr, .int .i64 at_, .int .u8 qm, .bool rm_, .slice Am nm cm, .string tm, .string pm_] MsT)
  obtain ⟨wB, hwB⟩ : ∃ wB, wA.alloc (.cells #[.string fr, .int .i64 at_, .int .u8 qm, .bool rm_, .slice Am nm cm, .string tm, .string pm_] MsT) = wB := ⟨_, rfl⟩
  rw [hwB] at hM hkM
  have hP := hP.keep hkM (by simp)
  have hsA : wA.heap.size = w.heap.size + 1 := by rw [← hwA]; simp
  obtain ⟨P, hPe⟩ : ∃ P, w.heap.size = P := ⟨_, rfl⟩
  obtain ⟨M, hMe⟩ : ∃ M, wA.heap.size = M := ⟨_, rfl⟩
  rw [hPe] at hP
  rw [hMe] at hM
  have hPM : P ≠ M := by omega
  obtain ⟨p0, p1, p2, p3, p4, p5, p6⟩ := hP.cells7
  obtain ⟨m0, m1, m2, m3, m4, m5, m6⟩ := hM.cells7
  have HP := hide hP
  have HM := hide hM
  have HPM := hide hPM
  have HPL := hide (show P < M from by omega)
  have HKB := hide (hkP.then hkM)
  have HPE := hide hPe
  have HME := hide hMe
  have HMX := hide hmx
  have hkb0 : Keep [] wB wB := Keep.refl _ _
  have hw0 := hide (show 0 < w.heap.size from by obtain ⟨m, hm⟩ := hmx; exact World.block_lt_of_cell? _ _ hm)
  have hMP : ¬ M = P := by omega
  clear r0 r1 hc0 hc1 hc hcm hC hCm w2 w3 hnl hnm hP hM hkP hkM hsA hmx
  go_enter Tryd.func7, Tryd.ntmps7
  go_wp2_with fail
  clear hwA hwB hPe hMe
  go_cut [14, 15, 16, 17] from 14 to 17 (fun _ _ _ _ wx => reg1 wB P M d rt q id (cutS tp 30) (cutS pl 50) (fewP ps) (cutS fr 10) (cutS tm 30) (cutS pm_ 30) (tickV at_) qm rm_ (fewP ms) wx)
  case first =>
    go_region_with (first
      | (go_at_call 20; (with_reducible refine (HFP.out _ (HKB.out.then (by first | exact hkb0.drew | exact hkb2))).mono ?_); rintro e wm ⟨v1, rfl, ho1, hk1⟩; obtain ⟨A1, k1, rfl⟩ := ho1.slice; have hkb1 : Keep [] wB wm := (by first | exact hkb0.drew.then hk1 | exact hkb2.then hk1); obtain ⟨m0, m1, m2, m3, m4, m5, m6⟩ := (HM.out.keep hkb1 (by simp)).cells7; obtain ⟨p0, p1, p2, p3, p4, p5, p6⟩ := (HP.out.keep hkb1 (by simp)).cells7; obtain ⟨pf0, pf1, pf2, pf3, pf4, pf5, pf6⟩ := (HP.out.keep hkb1 (by simp)).froz7; obtain ⟨mf0, mf1, mf2, mf3, mf4, mf5, mf6⟩ := (HM.out.keep hkb1 (by simp)).froz7)
      | (go_at_call 9; (with_reducible refine (HFM.out _ (HKB.out.then (by first | exact hkb0.drew | exact hkb1))).mono ?_); rintro e wn ⟨v2, rfl, ho2, hk2⟩; obtain ⟨A2, k2, rfl⟩ := ho2.slice; have hkb2 : Keep [] wB wn := (by first | exact hkb0.drew.then hk2 | exact hkb1.then hk2); obtain ⟨m0, m1, m2, m3, m4, m5, m6⟩ := (HM.out.keep hkb2 (by simp)).cells7; obtain ⟨p0, p1, p2, p3, p4, p5, p6⟩ := (HP.out.keep hkb2 (by simp)).cells7; obtain ⟨pf0, pf1, pf2, pf3, pf4, pf5, pf6⟩ := (HP.out.keep hkb2 (by simp)).froz7; obtain ⟨mf0, mf1, mf2, mf3, mf4, mf5, mf6⟩ := (HM.out.keep hkb2 (by simp)).froz7))
    all_goals
      go_wp2_with fail
      go_meet
      first
        | exact reg1_of HP.out HM.out HPM.out hkb2 (Own.lower (ho1.keep hk2 (by simp)) hkb0.size) (Own.lower ho2 hkb1.size)
        | exact reg1_of HP.out HM.out HPM.out hkb1 (Own.lower ho1 hkb2.size) (Own.lower (ho2.keep hk1 (by simp)) hkb0.size)
  case rest =>
    obtain ⟨v1, v2, hP1, ho1, hM1, ho2, hk1⟩ := hcut
    have hl1 := fewP_len ps
    have hl2 := fewP_len ms
    have hn30 := cutS_size a2 30
    obtain ⟨pF, hpF⟩ : ∃ x, fewP ps = x := ⟨_, rfl⟩
    obtain ⟨mF, hmF⟩ : ∃ x, fewP ms = x := ⟨_, rfl⟩
    obtain ⟨tp', htp⟩ : ∃ x, cutS tp 30 = x := ⟨_, rfl⟩
    obtain ⟨pl', hpl⟩ : ∃ x, cutS pl 50 = x := ⟨_, rfl⟩
    obtain ⟨fr', hfr⟩ : ∃ x, cutS fr 10 = x := ⟨_, rfl⟩
    obtain ⟨tm', htm⟩ : ∃ x, cutS tm 30 = x := ⟨_, rfl⟩
    obtain ⟨pm', hpm⟩ : ∃ x, cutS pm_ 30 = x := ⟨_, rfl⟩
    obtain ⟨ta, hta⟩ : ∃ x, tickV at_ = x := ⟨_, rfl⟩
    rw [hpF] at ho1 hl1
    rw [hmF] at ho2 hl2
    rw [htp, hpl] at hP1
    rw [hfr, htm, hpm, hta] at hM1
    obtain ⟨A1, k1, rfl⟩ := ho1.slice
    obtain ⟨A2, k2, rfl⟩ := ho2.slice
    obtain ⟨n1, hn1⟩ : ∃ n, pF.length = n := ⟨_, rfl⟩
    obtain ⟨n2, hn2⟩ : ∃ n, mF.length = n := ⟨_, rfl⟩
    rw [hn1] at ho1 hP1 hl1
    rw [hn2] at ho2 hM1 hl2
    have HN1 := hide hn1
    have HN2 := hide hn2
    have hkw : Keep [] w wc := HKB.out.trans hk1 (by simp) (fun x hx hlt => by have := HPE.out; have := HPL.out; simp at hx; omega)
    have hct : Calls Tryd.prog 18 #[.string a2, .int .i64 30] wc fun e w' => e = .returned (.string (cutS a2 30)) ∧ w' = wc := cut01_any a2 30 wc
    have htk := mtick a3 wc
    obtain ⟨nm', hnm⟩ : ∃ x, cutS a2 30 = x := ⟨_, rfl⟩
    obtain ⟨now, hnow⟩ : ∃ x, tickV a3 = x := ⟨_, rfl⟩
    rw [hnm] at hct hn30
    rw [hnow] at htk
    have HCT := hide hct
    have HTK := hide htk
    have HP1 := hide hP1
    have HM1 := hide hM1
    have HO1 := hide ho1
    have HO2 := hide ho2
    have HKW := hide hkw
    have HL := hide (And.intro hl1 hl2)
    clear hpF hmF htp hpl hfr htm hpm hta hn1 hn2 hP1 hM1 ho1 ho2 hk1 hl1 hl2 hkw hct htk hnm hnow p0 p1 p2 p3 p4 p5 p6 m0 m1 m2 m3 m4 m5 m6 HFP HFM HP HM hkb0 HPE HME HKB
    go_wp2_with fail
    refine HCT.out.mono ?_
    rintro e wc' ⟨rfl, rfl⟩
    go_wp2_with fail
    refine HTK.out.mono ?_
    rintro e w1 ⟨rfl, hk1⟩
    have hP1 := HP1.out.keep hk1 (by simp)
    have hM1 := HM1.out.keep hk1 (by simp)
    obtain ⟨p0, p1, p2, p3, p4, p5, p6⟩ := hP1.cells7
    obtain ⟨m0, m1, m2, m3, m4, m5, m6⟩ := hM1.cells7
    have hof := HN1.out ▸ mof (HN1.out.symm ▸ (HO1.out.keep hk1 (by simp))) (by have := HL.out.1; have := HN1.out; omega) d rt q id tp' pl' nm' fr' now
    have HOF := hide hof
    have HK1 := hide (HKW.out.then hk1)
    have HO1b := hide (HO1.out.keep hk1 (by simp))
    have HO2b := hide (HO2.out.keep hk1 (by simp))
    have HP1b := hide hP1
    have HM1b := hide hM1
    clear hof hP1 hM1 hk1
    go_wp2_with fail
    refine HOF.out.mono ?_
    rintro e w2 ⟨v3, rfl, ho3, hk2⟩
    obtain ⟨A3, k3, rfl⟩ := ho3.slice
    have hof3 : (ofP pF).length ≤ 8 := Nat.le_trans (List.length_filter_le _ _) (by rw [HN1.out]; exact HL.out.1)
    obtain ⟨n3, hn3⟩ : ∃ n, (ofP pF).length = n := ⟨_, rfl⟩
    rw [hn3] at ho3 hof3 ⊢
    have hX := Blk.new w2 #[.string fr', .int .i64 now, .int .u8 q, .bool rt, .slice A3 n3 k3, .string nm', .string pl'] MsT
    have hkX := (Keep.refl [] w2).alloc (.cells #[.string fr', .int .i64 now, .int .u8 q, .bool rt, .slice A3 n3 k3, .string nm', .string pl'] MsT)
    have hkk := hk2.then hkX
    have hM2 := HM1b.out.keep hkk (by simp)
    obtain ⟨m0, m1, m2, m3, m4, m5, m6⟩ := hM2.cells7
    have HX := hide hX
    have HKX := hide hkX
    have HK2 := hide (HK1.out.then hkk)
    have HM2 := hide hM2
    have HP2 := hide (HP1b.out.keep hkk (by simp))
    have HO1c := hide (HO1b.out.keep hkk (by simp))
    have HO2c := hide (HO2b.out.keep hkk (by simp))
    have HO3 := hide (Own.lower ho3 (Nat.zero_le _))
    have HN3 := hide hn3
    have HOF3 := hide hof3
    obtain ⟨X, hXe⟩ : ∃ X, w2.heap.size = X := ⟨_, rfl⟩
    clear hX hkX hkk hM2 hk2 ho3 hn3 hof3 HOF p0 p1 p2 p3 p4 p5 p6
    go_upto_region 5 with fail
    obtain ⟨w3, hw3⟩ : ∃ w3, w2.alloc (.cells #[.string fr', .int .i64 now, .int .u8 q, .bool rt, .slice A3 n3 k3, .string nm', .string pl'] MsT) = w3 := ⟨_, rfl⟩
    have hX3 := HX.out
    have hkX3 := HKX.out
    have hM3 := HM2.out
    have hP3 := HP2.out
    have hO13 := HO1c.out
    have hO23 := HO2c.out
    have hK3 := HK2.out
    rw [hw3] at hX3 hkX3 hM3 hP3 hO13 hO23 hK3 ⊢
    rw [hXe] at hX3
    have hO33 := HO3.out.keep hkX3 (by simp)
    clear hXe hw3 HX HKX HM2 HP2 HO1c HO2c HK2 HO3 m0 m1 m2 m3 m4 m5 m6 HP1b HM1b HO1b HO2b HK1 HP1 HM1 HO1 HO2 HKW
    obtain ⟨m0, m1, m2, m3, m4, m5, m6⟩ := hM3.cells7
    have hlf := hide (mleft (HN2.out.symm ▸ hO23) (by have := HL.out.2; have := HN2.out; omega) fr' tm' pm' ta qm rm_ now)
    have HX3 := hide hX3
    have HM3 := hide hM3
    have HP3 := hide hP3
    have HO13 := hide hO13
    have HO23 := hide hO23
    have HO33 := hide hO33
    have HK3 := hide hK3
    obtain ⟨⟨lv, lb⟩, hlv⟩ : ∃ x, leftV ta mF now = x := ⟨_, rfl⟩
    rw [hlv, HN2.out] at hlf
    have HLV := hide hlv
    clear hX3 hM3 hP3 hO13 hO23 hO33 hK3 hkX3 hlv
    go_wp2_with fail
    refine hlf.out.mono ?_
    rintro e w4 ⟨rfl, hk4⟩
    have hM4 := HM3.out.keep hk4 (by simp)
    obtain ⟨m0, m1, m2, m3, m4, m5, m6⟩ := hM4.cells7
    have htd := hide (told12 (HN2.out.symm ▸ (HO23.out.keep hk4 (by simp))) (by have := HL.out.2; have := HN2.out; omega) fr' tm' pm' ta qm rm_)
    rw [HN2.out] at htd
    have HK4 := hide hk4
    clear hM4 hk4 hlf
    go_wp2_with fail
    refine htd.out.mono ?_
    rintro e w5 ⟨v5, rfl, ho5, hk5⟩
    have hrl := hide (rleft ho5 (by rw [List.length_map]; have := HL.out.2; have := HN2.out; omega) fr' tm' pm' ta qm rm_ now)
    rw [left_map, HLV.out] at hrl
    obtain ⟨A5, k5, rfl⟩ := ho5.slice
    rw [List.length_map, HN2.out] at hrl ⊢
    have HK5 := hide (HK4.out.then hk5)
    clear ho5 hk5 htd
    go_wp2_with fail
    refine hrl.out.mono ?_
    rintro e w6 ⟨rfl, hk6⟩
    have hk36 := HK5.out.then hk6
    have HX6 := hide (HX3.out.keep hk36 (by simp))
    have HM6 := hide (HM3.out.keep hk36 (by simp))
    have HP6 := hide (HP3.out.keep hk36 (by simp))
    have HO16 := hide (HO13.out.keep hk36 (by simp))
    have HO26 := hide (HO23.out.keep hk36 (by simp))
    have HO36 := hide (HO33.out.keep hk36 (by simp))
    have HK6 := hide (HK3.out.then hk36)
    clear hk36 hk6 hrl HX3 HM3 HP3 HO13 HO23 HO33 HK3 HK4 HK5 m0 m1 m2 m3 m4 m5 m6
    have HA := hide (fun (w' : World) (hk : Keep [] w6 w') => awake12 w' (HMX.out.keep (HK6.out.then hk) (by simp)))
    have h12 : mF.length ≤ 100 := by have := HL.out.2; have := HN2.out; omega
    have h11 : pF.length ≤ 100 := by have := HL.out.1; have := HN1.out; omega
    have h13 : (ofP pF).length ≤ 100 := by have := HOF3.out; have := HN3.out; omega
    have HTX := hide (fun (w' : World) (hk : Keep [] w6 w') => told12' (n := n3) (v := .slice A3 n3 k3) (HO36.out.keep hk (by simp)) h13 HN3.out fr' nm' pl' now q rt)
    have HTM := hide (fun (w' : World) (hk : Keep [] w6 w') => told12' (n := n2) (v := .slice A2 n2 k2) (HO26.out.keep hk (by simp)) h12 HN2.out fr' tm' pm' ta qm rm_)
    have HTP := hide (fun (w' : World) (hk : Keep [] w6 w') => told07' (n := n1) (v := .slice A1 n1 k1) (HO16.out.keep hk (by simp)) h11 HN1.out d rt q id tp' pl')
    have HTQ := hide (fun (w' : World) (v : Value) (ho : Own kPr PrT 0 w' v (pubPs ta mF now)) => told07' (n := n2) ho (by rw [pubPs_len]; exact h12) (by rw [pubPs_len]; exact HN2.out) false rm_ qm 0 tm' pm')
    have HRO := hide (fun (w' : World) (v : Value) (ho : Own kRP RPT 0 w' v (pF.map toP)) => rof' (n := n3) ho h11 HN3.out d rt q id tp' pl' nm' fr' now)
    have HSA := hide (fun (w' : World) (v v' : Value) (ho : Own kRP RPT 0 w' v ((ofP pF).map toP)) (ho' : Own kRP RPT 0 w' v' ((ofP pF).map toP)) => same12 ho ho' (by rw [List.length_map]; exact h13) fr' nm' pl' now q rt)
    obtain ⟨gg, hgg⟩ : ∃ x, goneV ta mF now = x := ⟨_, rfl⟩
    have HGO := hide (fun (w' : World) (hk : Keep [] w6 w') => hgg ▸ mgone (v := .slice A2 n2 k2) (HO26.out.keep hk (by simp)) (by omega) fr' tm' pm' ta qm rm_ now)
    have hgr : goneR now ⟨fr', ta, qm, rm_, mF.map toP, tm', pm'⟩ = gg := (gone_map ⟨fr', ta, qm, rm_, mF, tm', pm'⟩ now).trans hgg
    have HRG := hide (fun (w' : World) (v : Value) (ho : Own kRP RPT 0 w' v (mF.map toP)) => hgr ▸ rgone ho (by rw [List.length_map]; exact h12) fr' tm' pm' ta qm rm_ now)
    have HPU := hide (fun (w' : World) (hk : Keep [] w6 w') => mpub' (n := n2) (v := .slice A2 n2 k2) (HO26.out.keep hk (by simp)) h12 HN2.out fr' tm' pm' ta qm rm_ now)
    have HRP := hide (fun (w' : World) (v : Value) (ho : Own kRP RPT 0 w' v (mF.map toP)) => rpub' (n := n2) ho h12 HN2.out fr' tm' pm' ta qm rm_ now)
    have HS7 := hide (fun (w' : World) (v v' : Value) (ho : Own kRP RPT 0 w' v ((pubPs ta mF now).map toP)) (ho' : Own kRP RPT 0 w' v' ((pubPs ta mF now).map toP)) => same07 ho ho' (by rw [List.length_map, pubPs_len]; exact h12) false rm_ qm 0 tm' pm')
    have HS := hide (fun (w' : World) (hk : Keep [] w6 w') => show w'.cell? ⟨X, 0, none⟩ = some (.string fr') ∧ w'.cell? ⟨X, 1, none⟩ = some (.int .i64 now) ∧ w'.cell? ⟨X, 2, none⟩ = some (.int .u8 q) ∧ w'.cell? ⟨X, 3, none⟩ = some (.bool rt) ∧ w'.cell? ⟨X, 4, none⟩ = some (.slice A3 n3 k3) ∧ w'.cell? ⟨X, 5, none⟩ = some (.string nm') ∧ w'.cell? ⟨X, 6, none⟩ = some (.string pl') ∧ w'.cell? ⟨M, 0, none⟩ = some (.string fr') ∧ w'.cell? ⟨M, 1, none⟩ = some (.int .i64 ta) ∧ w'.cell? ⟨M, 2, none⟩ = some (.int .u8 qm) ∧ w'.cell? ⟨M, 3, none⟩ = some (.bool rm_) ∧ w'.cell? ⟨M, 4, none⟩ = some (.slice A2 n2 k2) ∧ w'.cell? ⟨M, 5, none⟩ = some (.string tm') ∧ w'.cell? ⟨M, 6, none⟩ = some (.string pm') ∧ w'.cell? ⟨P, 0, none⟩ = some (.bool d) ∧ w'.cell? ⟨P, 1, none⟩ = some (.bool rt) ∧ w'.cell? ⟨P, 2, none⟩ = some (.int .u8 q) ∧ w'.cell? ⟨P, 3, none⟩ = some (.int .u32 id) ∧ w'.cell? ⟨P, 4, none⟩ = some (.slice A1 n1 k1) ∧ w'.cell? ⟨P, 5, none⟩ = some (.string tp') ∧ w'.cell? ⟨P, 6, none⟩ = some (.string pl') from by
      obtain ⟨x0, x1, x2, x3, x4, x5, x6⟩ := (HX6.out.keep hk (by simp)).cells7
      obtain ⟨m0, m1, m2, m3, m4, m5, m6⟩ := (HM6.out.keep hk (by simp)).cells7
      obtain ⟨p0, p1, p2, p3, p4, p5, p6⟩ := (HP6.out.keep hk (by simp)).cells7
      exact ⟨x0, x1, x2, x3, x4, x5, x6, m0, m1, m2, m3, m4, m5, m6, p0, p1, p2, p3, p4, p5, p6⟩)
    have hc0 : Keep [] w6 w6.drew := (Keep.refl _ _).drew
    clear h11 h12 h13 hgg hgr HLV
    go_wp2_with fail
    go_region_held3 (fun w' => w'.cell? ⟨X, 0, none⟩ = some (.string fr') ∧ w'.cell? ⟨X, 1, none⟩ = some (.int .i64 now) ∧ w'.cell? ⟨X, 2, none⟩ = some (.int .u8 q) ∧ w'.cell? ⟨X, 3, none⟩ = some (.bool rt) ∧ w'.cell? ⟨X, 4, none⟩ = some (.slice A3 n3 k3) ∧ w'.cell? ⟨X, 5, none⟩ = some (.string nm') ∧ w'.cell? ⟨X, 6, none⟩ = some (.string pl') ∧ w'.cell? ⟨M, 0, none⟩ = some (.string fr') ∧ w'.cell? ⟨M, 1, none⟩ = some (.int .i64 ta) ∧ w'.cell? ⟨M, 2, none⟩ = some (.int .u8 qm) ∧ w'.cell? ⟨M, 3, none⟩ = some (.bool rm_) ∧ w'.cell? ⟨M, 4, none⟩ = some (.slice A2 n2 k2) ∧ w'.cell? ⟨M, 5, none⟩ = some (.string tm') ∧ w'.cell? ⟨M, 6, none⟩ = some (.string pm') ∧ w'.cell? ⟨P, 0, none⟩ = some (.bool d) ∧ w'.cell? ⟨P, 1, none⟩ = some (.bool rt) ∧ w'.cell? ⟨P, 2, none⟩ = some (.int .u8 q) ∧ w'.cell? ⟨P, 3, none⟩ = some (.int .u32 id) ∧ w'.cell? ⟨P, 4, none⟩ = some (.slice A1 n1 k1) ∧ w'.cell? ⟨P, 5, none⟩ = some (.string tp') ∧ w'.cell? ⟨P, 6, none⟩ = some (.string pl'))
      (with_reducible exact HS.out _ (by assumption))
      (first
        | (go_at_call 12; (with_reducible refine (HA.out _ (by assumption)).mono ?_); rintro e wm ⟨rfl, hk⟩; have hc : Keep [] w6 wm := Keep.then (by assumption) hk; (try replace oX := oX.keep hk (by simp)); (try replace oP := oP.keep hk (by simp)); (try replace oO := oO.keep hk (by simp)); (try replace oT := oT.keep hk (by simp)); (try replace oQ := oQ.keep hk (by simp)); (try replace oR := oR.keep hk (by simp)); (try replace oV := oV.keep hk (by simp)))
        | (go_at_call 23; (with_reducible refine (HTX.out _ (by assumption)).mono ?_); rintro e wm ⟨⟨A9, k9⟩, rfl, ho, hk⟩; have hc : Keep [] w6 wm := Keep.then (by assumption) hk; (try replace oX := oX.keep hk (by simp)); (try replace oP := oP.keep hk (by simp)); (try replace oO := oO.keep hk (by simp)); (try replace oT := oT.keep hk (by simp)); (try replace oQ := oQ.keep hk (by simp)); (try replace oR := oR.keep hk (by simp)); (try replace oV := oV.keep hk (by simp)); have oX := ho; clear ho)
        | (go_at_call 23; (with_reducible refine (HTM.out _ (by assumption)).mono ?_); rintro e wm ⟨⟨A9, k9⟩, rfl, ho, hk⟩; have hc : Keep [] w6 wm := Keep.then (by assumption) hk; (try replace oX := oX.keep hk (by simp)); (try replace oP := oP.keep hk (by simp)); (try replace oO := oO.keep hk (by simp)); (try replace oT := oT.keep hk (by simp)); (try replace oQ := oQ.keep hk (by simp)); (try replace oR := oR.keep hk (by simp)); (try replace oV := oV.keep hk (by simp)); have oT := ho; clear ho)
        | (go_at_call 26; (with_reducible refine (HTP.out _ (by assumption)).mono ?_); rintro e wm ⟨⟨A9, k9⟩, rfl, ho, hk⟩; have hc : Keep [] w6 wm := Keep.then (by assumption) hk; (try replace oX := oX.keep hk (by simp)); (try replace oP := oP.keep hk (by simp)); (try replace oO := oO.keep hk (by simp)); (try replace oT := oT.keep hk (by simp)); (try replace oQ := oQ.keep hk (by simp)); (try replace oR := oR.keep hk (by simp)); (try replace oV := oV.keep hk (by simp)); have oP := ho; clear ho)
        | (go_at_call 26; (with_reducible refine (HTQ.out _ _ oQ).mono ?_); rintro e wm ⟨⟨A9, k9⟩, rfl, ho, hk⟩; have hc : Keep [] w6 wm := Keep.then (by assumption) hk; (try replace oX := oX.keep hk (by simp)); (try replace oP := oP.keep hk (by simp)); (try replace oO := oO.keep hk (by simp)); (try replace oT := oT.keep hk (by simp)); (try replace oQ := oQ.keep hk (by simp)); (try replace oR := oR.keep hk (by simp)); (try replace oV := oV.keep hk (by simp)); have oR := ho; clear ho)
        | (go_at_call 25; (with_reducible refine (HRO.out _ _ oP).mono ?_); rintro e wm ⟨⟨A9, k9⟩, rfl, ho, hk⟩; have hc : Keep [] w6 wm := Keep.then (by assumption) hk; (try replace oX := oX.keep hk (by simp)); (try replace oP := oP.keep hk (by simp)); (try replace oO := oO.keep hk (by simp)); (try replace oT := oT.keep hk (by simp)); (try replace oQ := oQ.keep hk (by simp)); (try replace oR := oR.keep hk (by simp)); (try replace oV := oV.keep hk (by simp)); have oO := ho; clear ho)
        | (go_at_call 24; (with_reducible refine (HSA.out _ _ _ oX oO).mono ?_); rintro e wm ⟨rfl, hk⟩; have hc : Keep [] w6 wm := Keep.then (by assumption) hk; (try replace oX := oX.keep hk (by simp)); (try replace oP := oP.keep hk (by simp)); (try replace oO := oO.keep hk (by simp)); (try replace oT := oT.keep hk (by simp)); (try replace oQ := oQ.keep hk (by simp)); (try replace oR := oR.keep hk (by simp)); (try replace oV := oV.keep hk (by simp)))
        | (go_at_call 13; (with_reducible refine (HGO.out _ (by assumption)).mono ?_); rintro e wm ⟨rfl, hk⟩; have hc : Keep [] w6 wm := Keep.then (by assumption) hk; (try replace oX := oX.keep hk (by simp)); (try replace oP := oP.keep hk (by simp)); (try replace oO := oO.keep hk (by simp)); (try replace oT := oT.keep hk (by simp)); (try replace oQ := oQ.keep hk (by simp)); (try replace oR := oR.keep hk (by simp)); (try replace oV := oV.keep hk (by simp)))
        | (go_at_call 27; (with_reducible refine (HRG.out _ _ oT).mono ?_); rintro e wm ⟨rfl, hk⟩; have hc : Keep [] w6 wm := Keep.then (by assumption) hk; (try replace oX := oX.keep hk (by simp)); (try replace oP := oP.keep hk (by simp)); (try replace oO := oO.keep hk (by simp)); (try replace oT := oT.keep hk (by simp)); (try replace oQ := oQ.keep hk (by simp)); (try replace oR := oR.keep hk (by simp)); (try replace oV := oV.keep hk (by simp)))
        | (go_at_call 19; (with_reducible refine (HPU.out _ (by assumption)).mono ?_); rintro e wm ⟨⟨A9, k9⟩, rfl, ho, hk⟩; have hc : Keep [] w6 wm := Keep.then (by assumption) hk; (try replace oX := oX.keep hk (by simp)); (try replace oP := oP.keep hk (by simp)); (try replace oO := oO.keep hk (by simp)); (try replace oT := oT.keep hk (by simp)); (try replace oQ := oQ.keep hk (by simp)); (try replace oR := oR.keep hk (by simp)); (try replace oV := oV.keep hk (by simp)); have oQ := ho; clear ho)
        | (go_at_call 29; (with_reducible refine (HRP.out _ _ oT).mono ?_); rintro e wm ⟨⟨A9, k9⟩, rfl, ho, hk⟩; have hc : Keep [] w6 wm := Keep.then (by assumption) hk; (try replace oX := oX.keep hk (by simp)); (try replace oP := oP.keep hk (by simp)); (try replace oO := oO.keep hk (by simp)); (try replace oT := oT.keep hk (by simp)); (try replace oQ := oQ.keep hk (by simp)); (try replace oR := oR.keep hk (by simp)); (try replace oV := oV.keep hk (by simp)); have oV := ho; clear ho)
        | (go_at_call 28; (with_reducible refine (HS7.out _ _ _ oR oV).mono ?_); rintro e wm ⟨rfl, hk⟩; have hc : Keep [] w6 wm := Keep.then (by assumption) hk; (try replace oX := oX.keep hk (by simp)); (try replace oP := oP.keep hk (by simp)); (try replace oO := oO.keep hk (by simp)); (try replace oT := oT.keep hk (by simp)); (try replace oQ := oQ.keep hk (by simp)); (try replace oR := oR.keep hk (by simp)); (try replace oV := oV.keep hk (by simp))))
    all_goals
      go_wp2_with fail
      go_ret
      exact ⟨rfl, (HK6.out.then (by assumption)).below⟩
end Go.Proofs.YtbgondiibnjcgaaDoor
