import Derived.Test.YtegnmdnflmlioaaMs
namespace Go.Proofs.Ytegnmdnflmlioaa
open Go.RowKit Go.Shelf Go.Proofs.Ytegnmdnflmlioaa.PWillPlays Go.Proofs.YtegnmdnflmlioaaW.PrintWords Go.Proofs.YtegnmdnflmlioaaW.PrintLast
set_option maxRecDepth 10000
set_option linter.unusedVariables false
set_option maxHeartbeats 1000000
theorem Own.onePr (w : World) (p : SP) : Own kPr PrT w.heap.size (w.alloc (.cells #[.int .i64 p.f0, .int .u32 p.f1, .string p.f2, .string p.f3] PrT)) (.slice (some ⟨w.heap.size, 0, none⟩) 1 1) [p] := by
  refine ⟨fun _ _ => trivial, [.int .i64 p.f0, .int .u32 p.f1, .string p.f2, .string p.f3], ⟨by simp [kPr]; rfl, .inr ⟨w.heap.size, 1, #[.int .i64 p.f0, .int .u32 p.f1, .string p.f2, .string p.f3], rfl, Nat.le_refl _, ?_, Nat.le_refl _, by decide, rfl, rfl⟩⟩, ?_⟩
  · show (w.heap.push _)[w.heap.size]? = _; simp
  · refine ⟨rfl, fun j q hj => ?_⟩
    cases j with
    | zero => simp at hj; subst hj; exact k29_mkM _ _ _ _
    | succ j => simp at hj
abbrev sc : BA := ⟨#[99]⟩
abbrev st : BA := ⟨#[116]⟩
abbrev se : BA := ⟨#[]⟩
theorem awake22 (w : World) : Calls Try.prog 6 #[] w fun e w' => e = .returned (.bool true) ∧ Keep [] w w' := by
  go_enter Try.func6, Try.ntmps6
  go_wp2_with fail
  refine (wNew (W := w) (Nat.le_refl _)).mono ?_
  rintro e w1 ⟨⟨n, b, tn, tb⟩, rfl, h1, hk1⟩
  simp only at h1
  go_wp2_with fail
  refine (wHold (W := w) (h1.keep ((Keep.refl [] w1).alloc _)) sc st se 0 false (Own.onePr w1 ⟨24, 5, se, se⟩) (by decide) (by decide)).mono ?_
  rintro e w2 ⟨v, rfl, h2, hk2⟩
  have e2 : rmE [] sc = [] := rfl
  rw [e2] at h2
  obtain ⟨hd, hhd⟩ : ∃ hd : Hd, (⟨⟨sc, 0, 0, false, noWD [⟨24, 5, se, se⟩], st, se⟩, v, numPr [⟨24, 5, se, se⟩] 24 0⟩ : Hd) = hd := ⟨_, rfl⟩
  rw [hhd] at h2
  have h2 : Ws w w2 n b tn tb [(sc, hd)] [] 1 := h2
  have e3 : hasW [(sc, hd)] [] sc = (-1, true) := rfl
  have hh := wHas h2 sc
  rw [e3] at hh
  have HHD := hide hhd
  have HH := hide hh
  clear e2 e3 hh hhd
  go_wp2_with fail
  refine HH.out.mono ?_
  rintro e w3 ⟨rfl, hk3⟩
  have h3 := h2.keep hk3
  go_wp2_with fail
  refine (wEnd h3 sc 10 3 (by decide) (by decide) (by decide) (by decide) (by decide)).mono ?_
  rintro e w4 ⟨rfl, h4, hk4⟩
  have e4 : endW [(sc, hd)] [] sc 10 3 = [(sc, 13)] := by
    have h5 := HHD.out
    subst h5
    rfl
  rw [e4] at h4
  have e5 : hasW [(sc, hd)] [(sc, 13)] sc = (13, true) := rfl
  have hh := wHas h4 sc
  rw [e5] at hh
  have HH4 := hide hh
  clear e4 e5 hh HH
  go_wp2_with fail
  refine HH4.out.mono ?_
  rintro e w5 ⟨rfl, hk5⟩
  have h5 := h4.keep hk5
  clear HH4
  go_wp2_with fail
  refine (wDue h5 12 (by omega)).mono ?_
  rintro e w6 ⟨v6, rfl, hO6, h6, hk6⟩
  have e6 : ([(sc, (13 : Int))].filter fun p => decide (p.2 ≤ 12)) = [] := rfl
  have e7 : ([(sc, (13 : Int))].filter fun p => decide (12 < p.2)) = [(sc, 13)] := rfl
  rw [e6] at hO6 h6
  rw [e7] at h6
  have h6 : Ws w w6 n b tn tb [(sc, hd)] [(sc, 13)] 2 := h6
  have hO6 : Own kMs MsT w5.heap.size w6 v6 [] := hO6
  obtain ⟨A6, c6, rfl⟩ := hO6.slice
  clear e6 e7 hO6
  go_wp2_with fail
  refine (wDue h6 13 (by omega)).mono ?_
  rintro e w7 ⟨v7, rfl, hO7, h7, hk7⟩
  have e6 : ([(sc, (13 : Int))].filter fun p => decide (p.2 ≤ 13)) = [(sc, 13)] := rfl
  have e7 : ([(sc, (13 : Int))].filter fun p => decide (13 < p.2)) = [] := rfl
  rw [e6] at hO7 h7
  rw [e7] at h7
  have h7 : Ws w w7 n b tn tb [] [] 2 := h7
  have e8 : [(sc, (13 : Int))].map (msgAt [(sc, hd)] 13) = [⟨sc, 13, 0, false, noWD [⟨24, 5, se, se⟩], st, se⟩] := by
    have h5 := HHD.out
    subst h5
    rfl
  rw [e8] at hO7
  obtain ⟨g, cap, A4, c4, rfl, _, _, x0, x1, x2, x3, x4, x5, x6, _, _⟩ := own_ms_at hO7 (j := 0) (by decide)
  have HL := hide (wLen h7)
  have hkk : Keep [] w w7 := Keep.of_below (hk7.below (hk6.below (Keep.below_of (hk4.below (Keep.below_of (hk2.below (hk1.alloc _).below) hk3 (by simp))) hk5 (by simp))))
  simp at x1 x5
  clear e6 e7 e8 hO7 x0 x2 x3 x4 x6 hk1 hk2 hk3 hk4 hk5 hk6 hk7 h1 h2 h3 h4 h5 h6 h7 HHD
  go_wp2_with fail
  refine HL.out.mono ?_
  rintro e w8 ⟨rfl, rfl⟩
  go_wp2_with fail
  go_ret
  exact ⟨rfl, hkk⟩
end Go.Proofs.Ytegnmdnflmlioaa
