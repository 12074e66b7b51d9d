import Derived.Test.YtbgondiibnjcgaaDoorM12
namespace Go.Proofs.YtbgondiibnjcgaaDoor
open Go.RowKit Go.Lib Go.Proofs.YtbgondiibnjcgaaDoor.PRetainPlays Go.Proofs.YtbgondiibnjcgaaDoorW.PrintWords Go.Proofs.YtbgondiibnjcgaaDoorW.PrintLast
set_option maxRecDepth 100000
set_option linter.unusedVariables false
set_option maxHeartbeats 4000000
attribute [local go_sem] Go.Proofs.YtbgondiibnjcgaaDoorW.PrintMore.min2_int Go.Proofs.YtbgondiibnjcgaaDoorW.PrintMore.max2_int
namespace M12
open R12
theorem own_rp_at {base : Nat} {w : World} {v : Value} {l : List RP} (h : Own kRP RPT base w v l) {j : Nat} (hj : j < l.length) :
    ∃ g cap, v = .slice (some ⟨g, 0, none⟩) l.length cap ∧ base ≤ g ∧ g < w.heap.size ∧ w.cell? ⟨g, j * 4, none⟩ = some (.int .i64 l[j].f0) ∧ w.cell? ⟨g, j * 4 + 1, none⟩ = some (.int .u32 l[j].f1) ∧ w.cell? ⟨g, j * 4 + 2, none⟩ = some (.string l[j].f2) ∧ w.cell? ⟨g, j * 4 + 3, none⟩ = some (.string l[j].f3) := by
  obtain ⟨g, cap, hv, hb, hg⟩ := h.form (by omega)
  obtain ⟨A, c, hv', _, hC⟩ := h.reads
  rw [hv] at hv'
  cases hv'
  obtain ⟨ad, e, x0, x1, x2, x3⟩ := at_T92 hC (j : Int) (by omega) (by omega)
  cases e
  rw [R12.rdQ_at l j hj, show ((j : Int)).toNat = j by omega] at x0 x1 x2 x3
  have ea : (⟨g, 0, none⟩ : Addr).add (j * 4) = ⟨g, j * 4, none⟩ := by rw [add_plain]
  rw [ea] at x0 x1 x2 x3
  exact ⟨g, _, hv, hb, hg, x0, x1, x2, x3⟩
theorem infoRP : (Tryd.prog.info? RPT).map (fun i => (i.zero, i.size, i.bytes)) = some (some (.agg #[.int .i64 0, .int .u32 0, .string ByteArray.empty, .string ByteArray.empty]), 4, 48) := by kernel_rfl
abbrev PuT : Nat := 61
def rpubRel (wS : World) (ps : List RP) (n : Int) (o i : Value) (wr : World) : Prop := ∃ j : Nat, i = .int .i64 j ∧ j ≤ ps.length ∧ Own kRP RPT wS.heap.size wr o ((ps.take j).map (updR n)) ∧ Keep [] wS wr
theorem rpub {w : World} {base : Nat} {v : Value} {ps : List RP} (h : Own kRP RPT base w v ps) (hl : ps.length ≤ 100) (fr tp pl : ByteArray) (at_ q : Int) (rt : Bool) (now : Int) :
    Calls Tryd.prog 29 #[.agg #[.string fr, .int .i64 at_, .int .u8 q, .bool rt, v, .string tp, .string pl], .int .i64 now] w (Px fun (v' : Value) e w' => e = .returned (.agg #[.bool false, .bool rt, .int .u8 q, .int .u32 0, v', .string tp, .string pl]) ∧ Own kRP RPT w.heap.size w' v' (ps.map (updR (clampU (leftR at_ ps now).1))) ∧ Keep [] w w') := by
  obtain ⟨A, c, rfl⟩ := h.slice
  obtain ⟨nl, hnl⟩ : ∃ n, ps.length = n := ⟨_, rfl⟩
  rw [hnl] at h hl ⊢
  have hX := Blk.new w #[.string fr, .int .i64 at_, .int .u8 q, .bool rt, .slice A nl c, .string tp, .string pl] RMT
  have hkX := (Keep.refl [] w).alloc (.cells #[.string fr, .int .i64 at_, .int .u8 q, .bool rt, .slice A nl c, .string tp, .string pl] RMT)
  obtain ⟨wx, hwx⟩ : ∃ wx, w.alloc (.cells #[.string fr, .int .i64 at_, .int .u8 q, .bool rt, .slice A nl c, .string tp, .string pl] RMT) = wx := ⟨_, rfl⟩
  rw [hwx] at hX hkX
  have hR := Blk.new wx #[.bool false, .bool false, .int .u8 0, .int .u32 0, .slice none 0 0, .string ⟨#[]⟩, .string ⟨#[]⟩] PuT
  have hkR := (Keep.refl [] wx).alloc (.cells #[.bool false, .bool false, .int .u8 0, .int .u32 0, .slice none 0 0, .string ⟨#[]⟩, .string ⟨#[]⟩] PuT)
  obtain ⟨w0, hw0⟩ : ∃ w0, wx.alloc (.cells #[.bool false, .bool false, .int .u8 0, .int .u32 0, .slice none 0 0, .string ⟨#[]⟩, .string ⟨#[]⟩] PuT) = w0 := ⟨_, rfl⟩
  rw [hw0] at hR hkR
  have hX0 := hX.keep hkR (by simp)
  have hO0 := h.keep (hkX.then hkR) (by simp)
  have hsx : wx.heap.size = w.heap.size + 1 := by rw [← hwx]; simp
  have hlf := hnl ▸ rleft (hnl ▸ hO0) (by omega) fr tp pl at_ q rt now
  obtain ⟨⟨lv, lb⟩, hlv⟩ : ∃ x, leftR at_ ps now = x := ⟨_, rfl⟩
  rw [hlv] at hlf ⊢
  obtain ⟨q0, q1, q2, q3, q4, q5, q6⟩ := hX0.cells7
  have HLF := hide hlf
  have HO0 := hide hO0
  have HX0 := hide hX0
  have HR0 := hide hR
  have HK0 := hide (hkX.then hkR)
  have HNL := hide hnl
  have HSX := hide hsx
  have HLV := hide hlv
  clear hX hkX hR hkR hX0 hO0 h hsx hlf hnl hlv
  go_enter Tryd.func29, Tryd.ntmps29
  go_wp2_with fail
  clear hwx hw0
  refine HLF.out.mono ?_
  rintro e wS ⟨rfl, hkS⟩
  have hXS := HX0.out.keep hkS (by simp)
  have hRS := HR0.out.keep hkS (by simp)
  have hOS := HO0.out.keep hkS (by simp)
  have hfr : Own kRP RPT wS.heap.size (wS.alloc (.cells #[] RPT)) (.slice (some ⟨wS.heap.size, 0, none⟩) 0 0) [] := Own.fresh (Nat.le_refl _)
  have hka := (Keep.refl [] wS).alloc (.cells #[] RPT)
  obtain ⟨q0, q1, q2, q3, q4, q5, q6⟩ := (hXS.keep hka (by simp)).cells7
  have HXS := hide hXS
  have HRS := hide hRS
  have HOS := hide hOS
  have HFR := hide hfr
  have HKA := hide hka
  have HKS := hide (HK0.out.then hkS)
  clear hXS hRS hOS hfr hka hkS
  go_wp2_with fail
  have hcb : 0 ≤ clampU lv ∧ clampU lv ≤ 4294967295 := by unfold clampU; omega
  obtain ⟨cu, hcu⟩ : ∃ x, max 0 (min lv 4294967295) = x := ⟨_, rfl⟩
  have hcl : clampU lv = cu := hcu
  rw [hcu]
  rw [hcl] at hcb
  have HCL := hide hcl
  obtain ⟨hcb0, hcb1⟩ := hcb
  clear hcu hcl HLV
  go_loopw [7, 23] (fun o i wr => rpubRel wS ps cu o i wr) (fun _ i _ => nl - (intOf i).toNat)
  case atStart => exact ⟨0, rfl, by omega, HFR.out, HKA.out⟩
  case round =>
    obtain ⟨j, rfl, hj, hO, hK⟩ := hrel
    rw [HNL.out] at hj
    by_cases hlt : j < nl
    · have hjp : j < ps.length := by rw [HNL.out]; exact hlt
      obtain ⟨g, cap, hv, hgb, hg, x0, x1, x2, x3⟩ := own_rp_at (HOS.out.keep hK (by simp)) hjp
      rw [HNL.out] at hv
      obtain ⟨hA, hc⟩ := slice_inj hv
      subst hA hc
      clear hv
      have htk : ps.take (j + 1) = ps.take j ++ [ps[j]] := by rw [List.take_succ_eq_append_getElem hjp]
      obtain ⟨⟨a0, a1, a2, a3⟩, hx⟩ : ∃ x, ps[j] = x := ⟨_, rfl⟩
      rw [hx] at x0 x1 x2 x3 htk
      simp only at x0 x1 x2 x3
      have hlt3 : (j : Int) < (nl : Int) := by omega
      have hsz := hK.size
      have HTK := hide htk
      have HO := hide hO
      have HK := hide hK
      have HLT := hide hlt
      clear htk hx hO hK hlt hjp hj
      by_cases h2 : a0 = 2
      · have e2 : (a0 == 2) = true := by simpa using h2
        have hu : updR cu ⟨a0, a1, a2, a3⟩ = ⟨a0, cu, a2, a3⟩ := by unfold updR; rw [if_pos h2]
        have HU := hide hu
        clear hu h2
        have hka := (Keep.refl [] wr).alloc (.cells #[.int .i64 a0, .int .u32 cu, .string a2, .string a3] RPT)
        have hOb := HO.out.keep hka (by simp)
        go_wp2_with (at_builtin; refine Own.append_law kRP wS.heap.size rfl (.tmp 33) (.tmp 35) 54 RPT _ _ rfl Tryd.underlying54 infoRP rfl (by decide) (by decide) _ ((ps.take j).map (updR cu)) ⟨a0, cu, a2, a3⟩ _ rfl _ (by simp) rfl (k92_mkM _ _ _ _) hOb (by first | omega | (simp; omega)) (by first | omega | (simp; omega)) ?_; intro v1 w2 hO2 hg2 hr2)
        refine ⟨⟨j + 1, by simp, by have := HLT.out; have := HNL.out; omega, ?_, (HK.out.then hka).grown_base (Nat.le_refl _) hg2 hr2⟩, by have := HLT.out; simp [intOf] <;> omega⟩
        rw [HTK.out, List.map_append, List.map_cons, List.map_nil, HU.out]
        exact hO2
      · have e2 : (a0 == 2) = false := by simpa using h2
        have hu : updR cu ⟨a0, a1, a2, a3⟩ = ⟨a0, a1, a2, a3⟩ := by unfold updR; rw [if_neg h2]
        have HU := hide hu
        clear hu h2
        have hka := (Keep.refl [] wr).alloc (.cells #[.int .i64 a0, .int .u32 a1, .string a2, .string a3] RPT)
        have hOb := HO.out.keep hka (by simp)
        go_wp2_with (at_builtin; refine Own.append_law kRP wS.heap.size rfl (.tmp 33) (.tmp 35) 54 RPT _ _ rfl Tryd.underlying54 infoRP rfl (by decide) (by decide) _ ((ps.take j).map (updR cu)) ⟨a0, a1, a2, a3⟩ _ rfl _ (by simp) rfl (k92_mkM _ _ _ _) hOb (by first | omega | (simp; omega)) (by first | omega | (simp; omega)) ?_; intro v1 w2 hO2 hg2 hr2)
        refine ⟨⟨j + 1, by simp, by have := HLT.out; have := HNL.out; omega, ?_, (HK.out.then hka).grown_base (Nat.le_refl _) hg2 hr2⟩, by have := HLT.out; simp [intOf] <;> omega⟩
        rw [HTK.out, List.map_append, List.map_cons, List.map_nil, HU.out]
        exact hO2
    · obtain rfl : j = nl := by omega
      have hWZ : Own kRP RPT w.heap.size wr u7 (ps.map (updR cu)) := by
        rw [List.take_of_length_le (by have := HNL.out; omega)] at hO
        exact Own.lower hO (by have := HKS.out.size; omega)
      obtain ⟨A7, c7, rfl⟩ := hWZ.slice
      have hml : (ps.map (updR cu)).length = j := by rw [List.length_map]; exact HNL.out
      rw [hml] at hWZ ⊢
      have hkw : Keep [] w wr := HKS.out.then hK
      have hXZ := HXS.out.keep hK (by simp)
      have hRZ := HRS.out.keep hK (by simp)
      have hOZ := hWZ
      have hKZ := hkw
      obtain ⟨WZ, hWZe⟩ : ∃ W, wr = W := ⟨_, rfl⟩
      rw [hWZe] at hXZ hRZ hKZ hOZ ⊢
      clear hO hK hWZ hkw hml hj hlt
      clear hWZe
      have z0 := hXZ.cell 0
      have z1 := hXZ.cell 1
      have z2 := hXZ.cell 2
      have z3 := hXZ.cell 3
      have z4 := hXZ.cell 4
      have z5 := hXZ.cell 5
      have z6 := hXZ.cell 6
      have r0 := hRZ.cell 0
      have r1 := hRZ.cell 1
      have r2 := hRZ.cell 2
      have r3 := hRZ.cell 3
      have r4 := hRZ.cell 4
      have r5 := hRZ.cell 5
      have r6 := hRZ.cell 6
      have f0 := hRZ.frozen 0 (by simp)
      have f1 := hRZ.frozen 1 (by simp)
      have f2 := hRZ.frozen 2 (by simp)
      have f3 := hRZ.frozen 3 (by simp)
      have f4 := hRZ.frozen 4 (by simp)
      have f5 := hRZ.frozen 5 (by simp)
      have f6 := hRZ.frozen 6 (by simp)
      simp at z0 z1 z2 z3 z4 z5 z6 r0 r1 r2 r3 r4 r5 r6 f0 f1 f2 f3 f4 f5 f6
      have HRZ := hide hRZ
      have HOZ := hide hOZ
      have HKZ := hide hKZ
      clear hRZ hOZ hKZ hXZ
      go_wp2_with fail
      have hR7 := ((((((HRZ.out.set 0 (.bool false)).set 1 (.bool rt)).set 2 (.int .u8 q)).set 3 (.int .u32 0)).set 4 (.slice A7 j c7)).set 5 (.string tp)).set 6 (.string pl)
      have hk7 : Keep [wx.heap.size] WZ (((((((WZ.setCell ⟨wx.heap.size, 0, none⟩ (.bool false)).setCell ⟨wx.heap.size, 1, none⟩ (.bool rt)).setCell ⟨wx.heap.size, 2, none⟩ (.int .u8 q)).setCell ⟨wx.heap.size, 3, none⟩ (.int .u32 0)).setCell ⟨wx.heap.size, 4, none⟩ (.slice A7 j c7)).setCell ⟨wx.heap.size, 5, none⟩ (.string tp)).setCell ⟨wx.heap.size, 6, none⟩ (.string pl)) := by
        repeat' (first | with_reducible exact Keep.refl _ _ | with_reducible refine Keep.setCell ?_ ?_ _ | exact fun _ => by simp)
      have e0 := hR7.cell 0
      have e1 := hR7.cell 1
      have e2 := hR7.cell 2
      have e3 := hR7.cell 3
      have e4 := hR7.cell 4
      have e5 := hR7.cell 5
      have e6 := hR7.cell 6
      simp at e0 e1 e2 e3 e4 e5 e6
      refine bodyPost_ret (v := .agg #[.bool false, .bool rt, .int .u8 q, .int .u32 0, .slice A7 j c7, .string tp, .string pl]) ?_ ?_ ?_
      · simp [results, Tryd.results29, go_sem, e0, e1, e2, e3, e4, e5, e6]
      · rfl
      · have hsx := HSX.out
        exact ⟨_, rfl, by rw [HCL.out]; exact HOZ.out.keep hk7 (by intro k hk; simp at hk; subst hk; exact not_of_blk HRZ.out (by decide)), HKZ.out.trans hk7 (by simp) (fun x hx hlt => by simp at hx; omega)⟩
end M12
end Go.Proofs.YtbgondiibnjcgaaDoor
