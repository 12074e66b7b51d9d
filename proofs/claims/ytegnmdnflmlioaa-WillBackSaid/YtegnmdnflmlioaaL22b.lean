/- WillBack: the walk. -/
import Derived.Test.YtegnmdnflmlioaaRows
import Derived.Test.YtegnmdnflmlioaaChecked
import Derived.Test.YtegnmdnflmlioaaA22
import Derived.Test.YtegnmdnflmlioaaBand
namespace Go.Proofs.Ytegnmdnflmlioaa
open Go.RowKit Go.Shelf Go.Proofs.Ytegnmdnflmlioaa.PWillPlays Go.Proofs.YtegnmdnflmlioaaW.PrintWords Go.Proofs.YtegnmdnflmlioaaW.PrintLast
set_option maxRecDepth 10000
set_option linter.unusedVariables false
set_option maxHeartbeats 2000000

theorem back_walk (a0 : Int) (a1 : Int) (a2 : Bool) (w : World) (w0 : (Lit.int .u32 a0).wf = true) (w1 : (Lit.int .i64 a1).wf = true) :
    Calls Try.prog 5 #[.int .u32 a0, .int .i64 a1, .bool a2] w fun e w' => e = .returned (.bool true) ∧ Below w.heap.size w w' := by
  have hb0 : 0 ≤ a0 ∧ a0 ≤ 4294967295 := by
    have := w0
    simp [Lit.wf, IntKind.min, IntKind.max, IntKind.signed, IntKind.bits] at this
    omega
  obtain ⟨hb0, hb0'⟩ := hb0
  obtain ⟨hm0, hm1⟩ := band_small a1 65535 (by decide)
  have e65 : ((65535 : Nat) : Int) = 65535 := rfl
  rw [e65] at hm0 hm1
  clear e65
  go_enter Try.func5, Try.ntmps5
  go_wp2_with fail
  refine (awake22 _).mono ?_
  rintro e wa ⟨rfl, hka⟩
  go_wp2_with fail
  refine (wNew (W := w) hka.size).mono ?_
  rintro e w2 ⟨⟨n, b, tn, tb⟩, rfl, h2, hk2⟩
  simp only at h2
  go_wp2_with fail
  obtain ⟨d, hd⟩ : ∃ d, 1 + a0 % 1000 = d := ⟨_, rfl⟩
  have hd0 : 1 ≤ d := by omega
  have hd1 : d ≤ 1000 := by omega
  have hO := (Own.onePr w2 ⟨24, d, se, se⟩).keep ((Keep.refl [] _).alloc (.cells #[.slice (some ⟨w2.heap.size, 0, none⟩) 1 1, .string st, .string se, .int .u8 0, .bool false] 33)) (by simp)
  have hk2b := (((Keep.refl [] w2).alloc (.cells #[.int .i64 24, .int .u32 d, .string se, .string se] PrT)).alloc (.cells #[.slice (some ⟨w2.heap.size, 0, none⟩) 1 1, .string st, .string se, .int .u8 0, .bool false] 33))
  have hX := Blk.new' (w := w2.alloc (.cells #[.int .i64 24, .int .u32 d, .string se, .string se] PrT)) (n := w2.heap.size + 1) #[.slice (some ⟨w2.heap.size, 0, none⟩) 1 1, .string st, .string se, .int .u8 0, .bool false] 33 (by simp)
  rw [hd]
  refine (wHold (W := w) (h2.keep hk2b) sc st se 0 false hO (by simp) (by show 0 ≤ d ∧ d ≤ 4294967295; omega)).mono ?_
  rintro e w3 ⟨v, rfl, h3, hk3⟩
  have e2 : rmE [] sc = [] := rfl
  rw [e2] at h3
  obtain ⟨hh, hhd⟩ : ∃ hd : Hd, (⟨⟨sc, 0, 0, false, noWD [⟨24, d, se, se⟩], st, se⟩, v, numPr [⟨24, d, se, se⟩] 24 0⟩ : Hd) = hd := ⟨_, rfl⟩
  rw [hhd] at h3
  have h3 : Ws w w3 n b tn tb [(sc, hh)] [] 1 := h3
  have hhd' : hh.d = d := by rw [← hhd]; rfl
  have HHD := hide hhd'
  have hO3 := hk3.own hO
  have hX3 := hk3.blk hX
  have HB := hide (hk3.below (((Keep.of_below hka.below).then hk2).then hk2b).below)
  clear hhd hhd' e2 hO hX hk2b hk2 hk3 h2
  go_wp2_with fail
  refine (wEnd h3 sc 5 5000 (by decide) (by decide) (by decide) (by decide) (by decide)).mono ?_
  rintro e w4 ⟨rfl, h4, hk4⟩
  have e4 : endW [(sc, hh)] [] sc 5 5000 = [(sc, 5 + d)] := by
    show [(sc, 5 + min hh.d 5000)] = _
    rw [HHD.out, show min d 5000 = d by omega]
  rw [e4] at h4
  have hO4 := hk4.own hO3
  have hX4 := hk4.blk hX3
  have HB4 := hide (hk4.below HB.out)
  clear e4 hO3 hX3 hk4 h3 HB
  have hq0 := Int.emod_nonneg (bits .and .i64 a1 65535) (show d ≠ 0 by omega)
  have hq1 := Int.emod_lt_of_pos (bits .and .i64 a1 65535) (show 0 < d by omega)
  obtain ⟨q, hq⟩ : ∃ q, bits .and .i64 a1 65535 % d = q := ⟨_, rfl⟩
  rw [hq] at hq0 hq1
  go_wp2_with fail
  refine (wDue h4 (5 + q) (by omega)).mono ?_
  rintro e w5 ⟨v5, rfl, hO5, h5, hk5⟩
  have e6 : ([(sc, 5 + d)].filter fun p => decide (p.2 ≤ 5 + q)) = [] := by
    rw [List.filter_cons_of_neg (by simp; omega)]; rfl
  have e7 : ([(sc, 5 + d)].filter fun p => decide (5 + q < p.2)) = [(sc, 5 + d)] := by
    rw [List.filter_cons_of_pos (by simp; omega)]; rfl
  rw [e6] at hO5 h5
  rw [e7] at h5
  have h5 : Ws w w5 n b tn tb [(sc, hh)] [(sc, 5 + d)] 2 := h5
  have hO5 : Own kMs MsT w4.heap.size w5 v5 [] := hO5
  obtain ⟨A5, c5, rfl⟩ := hO5.slice
  have hP5 := hk5.own hO4
  have hX5 := hk5.blk hX4
  have HB5 := hide (hk5.below HB4.out)
  have x0 := hX5.cell 0
  have x1 := hX5.cell 1
  have x2 := hX5.cell 2
  have x3 := hX5.cell 3
  have x4 := hX5.cell 4
  simp at x0 x1 x2 x3 x4
  clear e6 e7 hO5 hO4 hX4 hk5 h4 HB4 hq hq0 hq1
  cases a2
  · go_wp2_with fail
    refine (wDrop h5 sc).mono ?_
    rintro e w6 ⟨rfl, h6, hk6⟩
    have h6 : Ws w w6 n b tn tb [] [] 2 := h6
    have HB6 := hide (hk6.below HB5.out)
    have e3 : hasW [] [] sc = (0, false) := rfl
    have hh6 := wHas h6 sc
    rw [e3] at hh6
    have HH := hide hh6
    clear e3 hh6 x0 x1 x2 x3 x4
    go_wp2_with fail
    refine HH.out.mono ?_
    rintro e w7 ⟨rfl, hk7⟩
    go_wp2_with fail
    refine (wDue (h6.keep hk7) 100000 (by omega)).mono ?_
    rintro e w8 ⟨v8, rfl, hO8, h8, hk8⟩
    have hO8 : Own kMs MsT w7.heap.size w8 v8 [] := hO8
    obtain ⟨A8, c8, rfl⟩ := hO8.slice
    have hbb := hk8.below (Keep.below_of HB6.out hk7 (by simp))
    clear hO8
    go_wp2_with fail
    go_ret
    exact ⟨rfl, hbb⟩
  · go_wp2_with fail
    refine (wHold h5 sc st se 0 false hP5 (by simp) (by show 0 ≤ d ∧ d ≤ 4294967295; omega)).mono ?_
    rintro e w6 ⟨v6, rfl, h6, hk6⟩
    have e2 : rmE [(sc, 5 + d)] sc = [] := rfl
    rw [e2] at h6
    obtain ⟨h0, hhd⟩ : ∃ hd : Hd, (⟨⟨sc, 0, 0, false, noWD [⟨24, d, se, se⟩], st, se⟩, v6, numPr [⟨24, d, se, se⟩] 24 0⟩ : Hd) = hd := ⟨_, rfl⟩
    rw [hhd] at h6
    have h6 : Ws w w6 n b tn tb [(sc, h0)] [] 3 := h6
    have HB6 := hide (hk6.below HB5.out)
    have e3 : hasW [(sc, h0)] [] sc = (-1, true) := rfl
    have hh6 := wHas h6 sc
    rw [e3] at hh6
    have HH := hide hh6
    clear e3 hh6 x0 x1 x2 x3 x4 hhd e2
    go_wp2_with fail
    refine HH.out.mono ?_
    rintro e w7 ⟨rfl, hk7⟩
    go_wp2_with fail
    refine (wDue (h6.keep hk7) 100000 (by omega)).mono ?_
    rintro e w8 ⟨v8, rfl, hO8, h8, hk8⟩
    have hO8 : Own kMs MsT w7.heap.size w8 v8 [] := hO8
    obtain ⟨A8, c8, rfl⟩ := hO8.slice
    have hbb := hk8.below (Keep.below_of HB6.out hk7 (by simp))
    clear hO8
    go_wp2_with fail
    go_ret
    exact ⟨rfl, hbb⟩
end Go.Proofs.Ytegnmdnflmlioaa
