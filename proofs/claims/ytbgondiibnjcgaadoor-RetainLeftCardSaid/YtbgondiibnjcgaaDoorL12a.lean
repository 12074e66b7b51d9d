/- RetainLeft: the walk. -/
import Derived.Test.YtbgondiibnjcgaaDoorMsg
import Derived.Test.YtbgondiibnjcgaaDoorA12
namespace Go.Proofs.YtbgondiibnjcgaaDoor
open Go.RowKit Go.Shelf Go.Proofs.YtbgondiibnjcgaaDoor.PRetainPlays Go.Proofs.YtbgondiibnjcgaaDoorW.PrintWords Go.Proofs.YtbgondiibnjcgaaDoorW.PrintLast
set_option maxRecDepth 10000
set_option linter.unusedVariables false
set_option maxHeartbeats 1000000

theorem left_walk (c0 : Array Value) (z0 : Sh.T ShMsg) (a1 : Int) (a2 : Int) (w : World) (r0 : Sh.Rd w ShMsg z0 c0.toList) (w1 : (Lit.int .u32 a1).wf = true) (w2 : (Lit.int .i64 a2).wf = true) (hmx : MaxLenAt w) :
    Calls Tryd.prog 3 #[.agg c0, .int .u32 a1, .int .i64 a2] w fun e w' => e = .returned (.bool true) ∧ Below w.heap.size w w' := by
  obtain ⟨fr, at_, q, rt, A, c, ps, tp, pl, hc0, hc, hC, _, _⟩ := msg_in r0
  obtain rfl : c0 = #[.string fr, .int .i64 at_, .int .u8 q, .bool rt, .slice A ps.length c, .string tp, .string pl] := Array.toList_inj.1 hc0
  have ha1 : 0 ≤ a1 ∧ a1 ≤ 4294967295 := by
    have := w1
    simp [Lit.wf, IntKind.min, IntKind.max, IntKind.signed, IntKind.bits] at this
    omega
  have hX := Blk.new w #[.string fr, .int .i64 at_, .int .u8 q, .bool rt, .slice A ps.length c, .string tp, .string pl] MsT
  have hkX := (Keep.refl [] w).alloc (.cells #[.string fr, .int .i64 at_, .int .u8 q, .bool rt, .slice A ps.length c, .string tp, .string pl] MsT)
  have HF := hide (mfew hc (Kd.C_below hC hkX.below) fr tp pl at_ q rt)
  have HX := hide hX
  have HKX := hide hkX
  have HMX := hide (hmx.keep hkX (by simp))
  have HA := hide ha1
  clear r0 hc0 hC hc hX hkX w1 w2 ha1
  go_enter Tryd.func3, Tryd.ntmps3
  go_wp2_with fail
  refine HF.out.mono ?_
  rintro e w1 ⟨v, rfl, hO, hk1⟩
  obtain ⟨A1, c1, rfl⟩ := hO.slice
  have hX1 := HX.out.keep hk1 (by simp)
  obtain ⟨nl, hnl⟩ : ∃ n, (fewP ps).length = n := ⟨_, rfl⟩
  rw [hnl]
  obtain ⟨q0, q1, q2, q3, q4, q5, q6⟩ := hX1.cells7
  obtain ⟨f0, f1, f2, f3, f4, f5, f6⟩ := hX1.froz7
  obtain ⟨hX2, hk2⟩ := hX1.set7 (.string (cutS fr 10)) (.int .i64 (tickV at_)) (.int .u8 q) (.bool rt) (.slice A1 nl c1) (.string (cutS tp 30)) (.string (cutS pl 30))
  have HK1 := hide (HKX.out.then hk1)
  have HM1 := hide (HMX.out.keep hk1 (by simp))
  have HX2 := hide hX2
  have HK2 := hide hk2
  clear hX1 hk1 hO hnl hX2 hk2
  go_wp2_with fail
  obtain ⟨w2, hw2⟩ : ∃ w2, set7 w1 w.heap.size (.string (cutS fr 10)) (.int .i64 (tickV at_)) (.int .u8 q) (.bool rt) (.slice A1 nl c1) (.string (cutS tp 30)) (.string (cutS pl 30)) = w2 := ⟨_, rfl⟩
  have hX2 := HX2.out
  have hk2 := HK2.out
  rw [hw2] at hX2 hk2
  unfold set7 at hw2
  rw [hw2]
  have hkw2 : Keep [] w w2 := HK1.out.trans hk2 (by simp) (fun x hx hlt => by simp at hx; omega)
  have HT := hide (mtick a2 w2)
  have HX2' := hide hX2
  have HKW2 := hide hkw2
  have HM2 := hide (hmx.keep hkw2 (by simp))
  clear q0 q1 q2 q3 q4 q5 q6 f0 f1 f2 f3 f4 f5 f6 hw2 hX2 hk2 hkw2 HX2 HK2 HK1 HM1
  refine HT.out.mono ?_
  rintro e w3 ⟨rfl, hk3⟩
  have hX3 := HX2'.out.keep hk3 (by simp)
  have hP := Own.onePr w3 ⟨2, a1, ⟨#[]⟩, ⟨#[]⟩⟩
  have hk4 := (Keep.refl [] w3).alloc (.cells #[.int .i64 2, .int .u32 a1, .string ⟨#[]⟩, .string ⟨#[]⟩] PrT)
  have hX4 := hX3.keep hk4 (by simp)
  have f4 := hX4.frozen 4 (by simp)
  obtain ⟨q0, q1, q2, q3, q4, q5, q6⟩ := hX4.cells7
  have hX5 := hX4.set 4 (.slice (some ⟨w3.heap.size, 0, none⟩) 1 1)
  have hP5 := hP.keep ((Keep.refl [w.heap.size] _).setCell (p := ⟨w.heap.size, 4, none⟩) (fun _ => by simp) (.slice (some ⟨w3.heap.size, 0, none⟩) 1 1)) (by intro k hk; simp at hk; subst hk; exact not_of_blk hX4 (by decide))
  have hk5 : Keep [w.heap.size] w3 ((w3.alloc (.cells #[.int .i64 2, .int .u32 a1, .string ⟨#[]⟩, .string ⟨#[]⟩] PrT)).setCell ⟨w.heap.size, 4, none⟩ (.slice (some ⟨w3.heap.size, 0, none⟩) 1 1)) := (hk4.mono (by simp)).setCell (fun _ => by simp) _
  have hkw5 := (HKW2.out.then hk3).trans hk5 (S := []) (by simp) (fun x hx hlt => by simp at hx; omega)
  have HX5 := hide hX5
  have HP5 := hide hP5
  have HKW5 := hide hkw5
  clear hk3 hX3 hP hk4 hX4 hX5 hP5 hk5 hkw5
  have hbt := tickV_bd at_
  have hbn := tickV_bd a2
  obtain ⟨ta, hta⟩ : ∃ x, tickV at_ = x := ⟨_, rfl⟩
  obtain ⟨tn, htn⟩ : ∃ x, tickV a2 = x := ⟨_, rfl⟩
  rw [hta] at hbt q1 ⊢
  rw [htn] at hbn ⊢
  have hlv1 := leftV_one ta a1 tn ⟨#[]⟩ ⟨#[]⟩ hbt HA.out (by omega)
  have hlv2 := leftV_one ta a1 (tn + 1) ⟨#[]⟩ ⟨#[]⟩ hbt HA.out (by omega)
  have HL1 := hide (hlv1 ▸ mleft HP5.out (by simp) (cutS fr 10) (cutS tp 30) (cutS pl 30) ta q rt tn)
  have HL2 := hide (fun (w' : World) (hk : Keep [] _ w') => hlv2 ▸ mleft (HP5.out.keep hk (by simp)) (by simp) (cutS fr 10) (cutS tp 30) (cutS pl 30) ta q rt (tn + 1))
  obtain ⟨hb0, hb1⟩ := hbt
  obtain ⟨hb2, hb3⟩ := hbn
  have hA := HA.out
  obtain ⟨hb4, hb5⟩ := hA
  have HX5n : Hid (Blk _ w.heap.size #[.string (cutS fr 10), .int .i64 ta, .int .u8 q, .bool rt, .slice (some ⟨w3.heap.size, 0, none⟩) 1 1, .string (cutS tp 30), .string (cutS pl 30)] MsT) := hide (by have := HX5.out; rw [hta] at this; exact this)
  clear hlv1 hlv2 hta htn HX5
  go_wp2_with fail
  refine HL1.out.mono ?_
  rintro e w6 ⟨rfl, hk6⟩
  obtain ⟨q0, q1, q2, q3, q4, q5, q6⟩ := (HX5n.out.keep hk6 (by simp)).cells7
  have HK6 := hide hk6
  clear hk6
  go_wp2_with fail
  refine (HL2.out _ HK6.out).mono ?_
  rintro e w7 ⟨rfl, hk7⟩
  have hX7 := HX5n.out.keep (HK6.out.then hk7) (by simp)
  obtain ⟨q0, q1, q2, q3, q4, q5, q6⟩ := hX7.cells7
  have f4 := hX7.frozen 4 (by simp)
  have hX8 := hX7.set 4 (.slice none 0 0)
  have hk8 : Keep [w.heap.size] w7 (w7.setCell ⟨w.heap.size, 4, none⟩ (.slice none 0 0)) := (Keep.refl _ w7).setCell (fun _ => by simp) _
  have hkw8 := ((HKW5.out.then HK6.out).then hk7).trans hk8 (S := []) (by simp) (fun x hx hlt => by simp at hx; omega)
  have HA12 := hide (awake12 _ (hmx.keep hkw8 (by simp)))
  have HX8 := hide hX8
  have HKW8 := hide hkw8
  clear hk7 hX7 hX8 hk8 hkw8
  go_wp2_with fail
  refine HA12.out.mono ?_
  rintro e w9 ⟨rfl, hk9⟩
  have hX9 := HX8.out.keep hk9 (by simp)
  simp at hX9
  obtain ⟨q0, q1, q2, q3, q4, q5, q6⟩ := hX9.cells7
  have hgf : goneV ta [] tn = false := rfl
  have HG := hide (hgf ▸ mgone (Own.nil kPr PrT w9.heap.size w9) (by decide) (cutS fr 10) (cutS tp 30) (cutS pl 30) ta q rt tn)
  have HK9 := hide (HKW8.out.then hk9)
  have eq1 : (ta + a1 - tn == ta + a1 - (tn + 1) + 1) = true := by simp; omega
  have HX9 := hide hX9
  clear hX9 hk9 hgf
  go_wp2_with fail
  refine HG.out.mono ?_
  rintro e w10 ⟨rfl, hk10⟩
  obtain ⟨q0, q1, q2, q3, q4, q5, q6⟩ := (HX9.out.keep hk10 (by simp)).cells7
  go_wp2_with fail
  go_ret
  exact ⟨rfl, (HK9.out.then hk10).below⟩
end Go.Proofs.YtbgondiibnjcgaaDoor
