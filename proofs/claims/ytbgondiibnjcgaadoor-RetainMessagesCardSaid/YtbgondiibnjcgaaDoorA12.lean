import Derived.Test.YtbgondiibnjcgaaDoorPub
import Derived.Test.YtbgondiibnjcgaaDoorRm
import Derived.Test.YtbgondiibnjcgaaDoorRt4
namespace Go.Proofs.YtbgondiibnjcgaaDoor
open Go.RowKit Go.Shelf Go.Proofs.YtbgondiibnjcgaaDoor.PRetainPlays Go.Proofs.YtbgondiibnjcgaaDoorW.PrintWords Go.Proofs.YtbgondiibnjcgaaDoorW.PrintLast
set_option maxRecDepth 10000
set_option linter.unusedVariables false
set_option maxHeartbeats 1000000
theorem Own.onePr (w : World) (p : SP) : Own kPr PrT w.heap.size (w.alloc (.cells #[.int .i64 p.f0, .int .u32 p.f1, .string p.f2, .string p.f3] PrT)) (.slice (some ⟨w.heap.size, 0, none⟩) 1 1) [p] := by
  refine ⟨fun _ _ => trivial, [.int .i64 p.f0, .int .u32 p.f1, .string p.f2, .string p.f3], ⟨by simp [kPr]; rfl, .inr ⟨w.heap.size, 1, #[.int .i64 p.f0, .int .u32 p.f1, .string p.f2, .string p.f3], rfl, Nat.le_refl _, ?_, Nat.le_refl _, by decide, rfl, rfl⟩⟩, ?_⟩
  · show (w.heap.push _)[w.heap.size]? = _; simp
  · refine ⟨rfl, fun j q hj => ?_⟩
    cases j with
    | zero => simp at hj; subst hj; exact k30_mkM _ _ _ _
    | succ j => simp at hj
abbrev sa : BA := ⟨#[97]⟩
abbrev sx : BA := ⟨#[120]⟩
abbrev se : BA := ⟨#[]⟩
abbrev p25 : SP := ⟨2, 5, se, se⟩
theorem fieldPub (b1 b2 : Bool) (i1 i2 : Int) (v4 : Value) (c d : BA) (w : World) : (Instr.field PbT (.agg #[.bool b1, .bool b2, .int .u8 i1, .int .u32 i2, v4, .string c, .string d]) 4).run Tryd.prog w = .ok v4 w := by kernel_rfl
theorem awk_told (v : Value) : isTold [(sa, ⟨se, 10, 0, false, [p25], v, sa, sx⟩)] oneB 11 sa = true := by
  have h1 : topM oneB sa = true := by decide +kernel
  unfold isTold
  rw [h1]
  have h2 : AL.get [(sa, (⟨se, 10, 0, false, [p25], v, sa, sx⟩ : Rm))] sa = some ⟨se, 10, 0, false, [p25], v, sa, sx⟩ := if_pos rfl
  rw [h2]
  show (true && !goneV 10 [p25] 11) = true
  decide +kernel
theorem awake12 (w : World) (hmx : MaxLenAt w) : Calls Tryd.prog 12 #[] w fun e w' => e = .returned (.bool true) ∧ Keep [] w w' := by
  have hP := Own.onePr w p25
  have hk0 := (Keep.refl [] w).alloc (.cells #[.int .i64 p25.f0, .int .u32 p25.f1, .string p25.f2, .string p25.f3] PrT)
  have hX := Blk.new (w.alloc (.cells #[.int .i64 p25.f0, .int .u32 p25.f1, .string p25.f2, .string p25.f3] PrT)) #[.string se, .int .i64 10, .int .u8 0, .bool false, .slice (some ⟨w.heap.size, 0, none⟩) 1 1, .string sa, .string sx] MsT
  have hk1 := hk0.alloc (.cells #[.string se, .int .i64 10, .int .u8 0, .bool false, .slice (some ⟨w.heap.size, 0, none⟩) 1 1, .string sa, .string sx] MsT)
  have hP1 := hP.keep ((Keep.refl [] _).alloc (.cells #[.string se, .int .i64 10, .int .u8 0, .bool false, .slice (some ⟨w.heap.size, 0, none⟩) 1 1, .string sa, .string sx] MsT)) (by simp)
  have HP1 := hide hP1
  have HX := hide hX
  have HK1 := hide hk1
  have HMX := hide hmx
  have hw0 := hide (show 0 < w.heap.size from by obtain ⟨m, hm⟩ := hmx; exact World.block_lt_of_cell? _ _ hm)
  clear hP hk0 hX hk1 hP1 hmx
  go_enter Tryd.func12, Tryd.ntmps12
  go_wp2_with fail
  refine (mleft HP1.out (by decide) se sa sx 10 0 false 12).mono ?_
  rintro e w1 ⟨rfl, hk1⟩
  have e1 : leftV 10 [p25] 12 = (3, true) := by decide +kernel
  rw [e1]
  clear e1
  go_wp2_with fail
  refine (rNew (W := w) (by have := HK1.out.size; have := hk1.size; omega) 1).mono ?_
  rintro e w2 ⟨⟨n, b⟩, rfl, h2, hk2⟩
  simp only at h2
  have hm1 : max (1 : Int) 0 = 1 := by decide
  rw [hm1] at h2
  have hX2 := (HX.out.keep hk1 (by simp)).keep hk2 (by simp)
  have x0 := hX2.cell 0
  have x1 := hX2.cell 1
  have x2 := hX2.cell 2
  have x3 := hX2.cell 3
  have x4 := hX2.cell 4
  have x5 := hX2.cell 5
  have x6 := hX2.cell 6
  simp at x0 x1 x2 x3 x4 x5 x6
  have hP2 := (HP1.out.keep hk1 (by simp)).keep hk2 (by simp)
  have hs := rSetStore h2 se sa 10 0 false (some ⟨w.heap.size, 0, none⟩) [p25] 1 sx (by decide) hP2 (by decide) (Or.inr (by decide))
  have HS := hide hs
  have HX2 := hide hX2
  have HP2 := hide hP2
  have HK2 := hide ((HK1.out.then hk1).then hk2)
  have HXb := hide (h2.map.ne_blk hX2)
  have HMb := hide h2.map
  have HNB := hide (And.intro h2.bn h2.bb)
  clear hs hX2 hP2 hm1 h2 hk1 hk2
  go_wp2_with fail
  refine HS.out.mono ?_
  rintro e w3 ⟨v, rfl, h3, hk3⟩
  have h3 : Rs w w3 n b 1 [(sa, ⟨se, 10, 0, false, [p25], v, sa, sx⟩)] := h3
  have hKw3 : Keep [] w w3 := HK2.out.trans hk3 (by simp) (fun x hx hlt => by simp at hx; have := HNB.out.2; omega)
  have hX3 := HX2.out.keep hk3 (by simpa using HXb.out)
  have hP3 := HP2.out.keep hk3 (by simp; exact not_of_map HMb.out _)
  have x0 := hX3.cell 0
  have x1 := hX3.cell 1
  have x2 := hX3.cell 2
  have x3 := hX3.cell 3
  have x4 := hX3.cell 4
  have x5 := hX3.cell 5
  have x6 := hX3.cell 6
  simp at x0 x1 x2 x3 x4 x5 x6
  have g1 : goneV 10 [p25] 15 = true := by decide +kernel
  have g2 : goneV 10 [p25] 14 = false := by decide +kernel
  have HG1 := hide (g1 ▸ mgone hP3 (by decide) se sa sx 10 0 false 15)
  have HG2 := hide (fun (w' : World) (hk : Keep [] w3 w') => g2 ▸ mgone (hP3.keep hk (by simp)) (by decide) se sa sx 10 0 false 14)
  have HPUB := hide (fun (w' : World) (hk : Keep [] w3 w') => mpub (hP3.keep hk (by simp)) (by decide) se sa sx 10 0 false 12)
  have HX3 := hide hX3
  have H3 := hide h3
  have HK3 := hide hKw3
  clear hX3 hP3 g1 g2 h3 hKw3 hk3 HS HX2 HP2
  go_wp2_with fail
  refine HG1.out.mono ?_
  rintro e w4 ⟨rfl, hk4⟩
  have hX4 := HX3.out.keep hk4 (by simp)
  have x0 := hX4.cell 0
  have x1 := hX4.cell 1
  have x2 := hX4.cell 2
  have x3 := hX4.cell 3
  have x4 := hX4.cell 4
  have x5 := hX4.cell 5
  have x6 := hX4.cell 6
  simp at x0 x1 x2 x3 x4 x5 x6
  have HK4 := hide hk4
  clear hX4 hk4
  go_wp2_with fail
  refine (HG2.out _ HK4.out).mono ?_
  rintro e w5 ⟨rfl, hk5⟩
  have HK5 := hide (HK4.out.then hk5)
  have hl := rLen (H3.out.keep HK5.out)
  have HLn := hide hl
  clear hk5 hl HK4
  go_wp2_with fail
  refine HLn.out.mono ?_
  rintro e w5' ⟨rfl, rfl⟩
  go_wp2_with fail
  refine (rMatch (H3.out.keep HK5.out) oneB 11 (by decide) (by simp; decide) (by simp) ((HMX.out.keep HK3.out (by simp)).keep HK5.out (by simp))).mono ?_
  rintro e w6 ⟨⟨v6, L⟩, rfl, hO6, hL6, hk6⟩
  simp only at hO6 hL6 hk6
  have hL : L = [sa] := List.perm_singleton.1 hL6.1
  subst hL
  have hlen : (matchR [(sa, ⟨se, 10, 0, false, [p25], v, sa, sx⟩)] oneB 11 [sa]).length = 1 := by
    unfold matchR; rw [List.length_map, List.filter_cons_of_pos (awk_told v)]; rfl
  obtain ⟨A6, c6, rfl⟩ := hO6.slice
  rw [hlen]
  have HK6 := hide (HK5.out.then hk6)
  have hX6 := HX3.out.keep HK6.out (by simp)
  have x0 := hX6.cell 0
  have x1 := hX6.cell 1
  have x2 := hX6.cell 2
  have x3 := hX6.cell 3
  have x4 := hX6.cell 4
  have x5 := hX6.cell 5
  have x6 := hX6.cell 6
  simp at x0 x1 x2 x3 x4 x5 x6
  clear hX6 hk6 hO6 hL6 hlen HK5 HLn
  go_wp2_with fail
  refine (HPUB.out _ HK6.out).mono ?_
  rintro e w7 ⟨v7, rfl, hO7, hk7⟩
  have e7 : pubPs 10 [p25] 12 = [⟨2, 3, se, se⟩] := by
    have h5 : leftV 10 [p25] 12 = (3, true) := by decide +kernel
    unfold pubPs; rw [h5]; rfl
  rw [e7] at hO7
  obtain ⟨A7, c7, rfl⟩ := hO7.slice
  have hl1 : [(⟨2, 3, se, se⟩ : SP)].length = 1 := rfl
  rw [hl1] at hO7 ⊢
  clear hl1
  have e8 : numPr [⟨2, 3, se, se⟩] 2 0 = 3 := by decide +kernel
  have HN : Hid (Calls Tryd.prog 37 #[.slice A7 1 c7, .int .i64 2, .int .u32 0] w7 fun e w' => e = .returned (.int .u32 3) ∧ Keep [] w7 w') := hide (e8 ▸ mnum hO7 (by decide) 2 0)
  have hfd := fieldPub false false 0 0 (.slice A7 1 c7) sa sx
  have HK7 := hide ((HK3.out.then HK6.out).then hk7)
  clear e7 e8 hO7 hk7
  go_wp2_with fail
  refine HN.out.mono ?_
  rintro e w8 ⟨rfl, hk8⟩
  go_wp2_with fail
  go_ret
  exact ⟨rfl, HK7.out.then hk8⟩
end Go.Proofs.YtbgondiibnjcgaaDoor
