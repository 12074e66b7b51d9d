import Derived.Test.YtbgondiibnjcgaaDoorRt3
namespace Go.Proofs.YtbgondiibnjcgaaDoor
open Go.RowKit Go.Shelf Go.Proofs.YtbgondiibnjcgaaDoor.PRetainPlays Go.Proofs.YtbgondiibnjcgaaDoorW.PrintWords Go.Proofs.YtbgondiibnjcgaaDoorW.PrintLast
set_option maxRecDepth 100000
set_option linter.unusedVariables false
set_option maxHeartbeats 1000000
theorem mem_set {ν : Type} {hs : List (ByteArray × ν)} {c : ByteArray} {y : ν} {p : ByteArray × ν} (h : p ∈ AL.set hs c y) : p = (c, y) ∨ p ∈ hs := by
  induction hs with
  | nil => simp [AL.set] at h; exact Or.inl h
  | cons a t ih =>
    obtain ⟨k, x⟩ := a
    simp only [AL.set] at h
    split at h
    · rename_i e
      subst e
      rcases List.mem_cons.1 h with h | h
      · exact Or.inl h
      · exact Or.inr (List.mem_cons_of_mem _ h)
    · rcases List.mem_cons.1 h with h | h
      · subst h; exact Or.inr (by simp)
      · rcases ih h with h | h
        · exact Or.inl h
        · exact Or.inr (List.mem_cons_of_mem _ h)
theorem rSetStore {W w : World} {n b : Nat} {most : Int} {hs : List (ByteArray × Rm)} (h : Rs W w n b most hs) (fr tp : ByteArray) (at_ q : Int) (rt : Bool) {base : Nat} (A : Option Addr) (ps : List SP) (c : Nat) (pl : ByteArray) (hp : pl.size ≠ 0)
    (ho : Own kPr PrT base w (.slice A ps.length c) ps) (hl : ps.length ≤ 100) (hroom : (AL.get hs tp).isSome = true ∨ (hs.length : Int) < most) :
    Calls Tryd.prog 15 #[.pointer (some ⟨n, 0, none⟩), .agg #[.string fr, .int .i64 at_, .int .u8 q, .bool rt, .slice A ps.length c, .string tp, .string pl]] w (Px fun (v : Value) e w' => e = .returned (.int .i64 0) ∧ Rs W w' n b most (AL.set hs tp ⟨fr, at_, q, rt, ps, v, tp, pl⟩) ∧ Keep [b] w w') := by
  have hX := Blk.new w #[.string fr, .int .i64 at_, .int .u8 q, .bool rt, .slice A ps.length c, .string tp, .string pl] 25
  have hk0 := (Keep.refl [] w).alloc (.cells #[.string fr, .int .i64 at_, .int .u8 q, .bool rt, .slice A ps.length c, .string tp, .string pl] 25)
  obtain ⟨w0, hw0⟩ : ∃ w0, w.alloc (.cells #[.string fr, .int .i64 at_, .int .u8 q, .bool rt, .slice A ps.length c, .string tp, .string pl] 25) = w0 := ⟨_, rfl⟩
  rw [hw0] at hX hk0
  have h0 := h.keep hk0
  have HO := hide (ho.keep hk0 (by simp))
  have HL := hide hl
  have hWn := h.bn
  have hnl := h.box.lt
  have HNL2 := hide hnl
  have HW := hide (show W.heap.size ≤ w.heap.size from by omega)
  obtain ⟨nl, hnle⟩ : ∃ nl, ps.length = nl := ⟨_, rfl⟩
  rw [hnle] at hX ho HO hw0
  rw [hnle]
  have HNL := hide hnle
  have c0 : w0.cell? ⟨n, 0, none⟩ = some (.map (some b)) := h0.box.cell 0
  have x5 : w0.cell? ⟨w.heap.size, 5, none⟩ = some (.string tp) := hX.cell 5
  have x6 : w0.cell? ⟨w.heap.size, 6, none⟩ = some (.string pl) := hX.cell 6
  have d0 : ∀ o, (w0.alloc o).cell? ⟨n, 0, none⟩ = some (.map (some b)) := fun o => (h0.box.alloc o).cell 0
  have d5 : ∀ o, (w0.alloc o).cell? ⟨w.heap.size, 5, none⟩ = some (.string tp) := fun o => (hX.alloc o).cell 5
  have d6 : ∀ o, (w0.alloc o).cell? ⟨w.heap.size, 6, none⟩ = some (.string pl) := fun o => (hX.alloc o).cell 6
  have look := fun (w' : World) (hk : Keep [] w0 w') => lookR (h0.keep hk) tp true
  obtain ⟨xA, xc, hpv⟩ := h0.pvf tp
  obtain ⟨x, hx⟩ : ∃ x, (AL.get hs tp).getD Rm.zero = x := ⟨_, rfl⟩
  rw [hx] at look hpv
  obtain ⟨x0, x1, x2, x3, x4, xp, x5', x6'⟩ := x
  simp only at hpv
  subst hpv
  simp only [rmV, if_true] at look
  obtain ⟨xl, hxl⟩ : ∃ xl, x4.length = xl := ⟨_, rfl⟩
  rw [hxl] at look
  obtain ⟨qq, hqq⟩ : ∃ qq, (AL.get hs tp).isSome = qq := ⟨_, rfl⟩
  rw [hqq] at look hroom
  clear hqq
  have hpe : pl.toList.isEmpty = false := by rw [ByteArray.toList_eq]; cases pl with | mk d => cases d with | mk l => cases l with | nil => exact absurd rfl hp | cons a l => rfl
  have hpn : ¬ pl.toList = [] := by intro e; rw [e] at hpe; cases hpe
  clear hp
  have HS := hide (fun (w' : World) (hk : Keep [] w0 w') => show w'.cell? ⟨n, 0, none⟩ = some (.map (some b)) ∧ w'.cell? ⟨w.heap.size, 5, none⟩ = some (.string tp) ∧ w'.cell? ⟨w.heap.size, 6, none⟩ = some (.string pl) ∧ (Instr.lookup 81 (.map (some b)) (.string tp) true).run Tryd.prog w' = .ok (.tuple #[.agg #[.string x0, .int .i64 x1, .int .u8 x2, .bool x3, .slice xA xl xc, .string x5', .string x6'], .bool qq]) w' from ⟨(h0.box.keep hk (by simp)).cell 0, (hX.keep hk (by simp)).cell 5, (hX.keep hk (by simp)).cell 6, look w' hk⟩)
  have H0 := hide h0
  have HXB := hide hX
  have HBL := hide h.map.lt
  have HNE := hide (h.map.ne_blk h.box)
  have HK := hide hk0
  have HR := hide hroom
  have HPL := hide h.plen
  clear hx h hxl h0 hX hk0 look hroom ho hnle hl hWn hnl
  go_enter Tryd.func15, Tryd.ntmps15
  go_wp2_with fail
  clear hw0
  go_region_held3 (fun w' => w'.cell? ⟨n, 0, none⟩ = some (.map (some b)) ∧ w'.cell? ⟨w.heap.size, 5, none⟩ = some (.string tp) ∧ w'.cell? ⟨w.heap.size, 6, none⟩ = some (.string pl) ∧ (Instr.lookup 81 (.map (some b)) (.string tp) true).run Tryd.prog w' = .ok (.tuple #[.agg #[.string x0, .int .i64 x1, .int .u8 x2, .bool x3, .slice xA xl xc, .string x5', .string x6'], .bool qq]) w')
    (first | exact HS.out _ (Keep.refl _ _) | exact HS.out _ (Keep.refl _ _).drew | exact HS.out _ (((Keep.refl _ _).drew).alloc _))
    (fail)
  all_goals
    have hk1 : Keep [] w0 (w0.alloc (.cells #[.string x0, .int .i64 x1, .int .u8 x2, .bool x3, .slice xA xl xc, .string x5', .string x6'] 25)).drew := ((Keep.refl [] w0).alloc _).drew
    obtain ⟨w1, hw1⟩ : ∃ w1, (w0.alloc (.cells #[.string x0, .int .i64 x1, .int .u8 x2, .bool x3, .slice xA xl xc, .string x5', .string x6'] 25)).drew = w1 := ⟨_, rfl⟩
    rw [hw1] at hk1
    rw [hw1]
    have S1 := HS.out w1 hk1
    have s0 := S1.1
    have s5 := S1.2.1
    have s6 := S1.2.2.1
    have h1 := H0.out.keep hk1
    have q0 : ∀ m, (w1.drewN m).cell? ⟨n, 0, none⟩ = some (.map (some b)) := fun m => s0
    have q1 : ∀ m, (w1.drewN m).cell? ⟨n, 1, none⟩ = some (.int .i64 most) := fun m => h1.box.cell 1
    have q4 : ∀ m, (w1.drewN m).cell? ⟨w.heap.size, 4, none⟩ = some (.slice A nl c) := fun m => (HXB.out.keep hk1 (by simp)).cell 4
    have ql := fun (m : Nat) ty => run_len_map (w := w1.drewN m) Tryd.underlying81 (h1.keep ((Keep.refl [] w1).drewN m)).map ty
    obtain ⟨z, hz⟩ : ∃ z : Int, (hs.length : Int) = z := ⟨_, rfl⟩
    rw [hz] at ql
    have HX1 := hide h1
    have HX2 := hide hk1
    have HRz : Hid (qq = true ∨ z < most) := hide (by have := HR.out; rw [hz] at this; exact this)
    clear S1 h1 hk1 hw1 hz
    have hg : qq = true ∨ (qq = false ∧ decide (most ≤ z) = false ∧ ¬ most ≤ z) := by
      cases qq with
      | true => exact Or.inl rfl
      | false => exact Or.inr ⟨rfl, by have := HRz.out; simp at this; simp; omega, by have := HRz.out; simp at this; omega⟩
    rcases hg with rfl | ⟨rfl, g1, g2⟩
    all_goals
      go_wp2_with fail
      go_quiet (fail)
      go_wp2_with fail
      have hk2 := (HX2.out.then ((Keep.refl [] w1).drewN nq))
      have HK2 := hide hk2
      have hcl := clonePr (HNL.out ▸ (HO.out.keep hk2 (by simp))) (by have := HL.out; omega)
      clear hk2
      rw [HNL.out] at hcl
      refine hcl.mono ?_
      clear hcl
      rintro e w3 ⟨v, rfl, hOv, hk3⟩
      obtain ⟨A2, c2, rfl⟩ := hOv.slice
      rw [HNL.out] at hOv ⊢
      have hX3 := ((HXB.out.keep HX2.out (by simp)).drewN nq).keep hk3 (by simp)
      have f4 := hX3.frozen 4 (by simp)
      have g4 := hX3.cell 4
      simp at g4
      have hX4 := hX3.set 4 (.slice A2 nl c2)
      have hk4 : Keep [w.heap.size] w3 (w3.setCell ⟨w.heap.size, 4, none⟩ (.slice A2 nl c2)) := (Keep.refl _ w3).setCell (by simp) _
      have HK3 := hide hk3
      have HK4 := hide hk4
      have HX4 := hide hX4
      have HOV := hide hOv
      have HX3 := hide hX3
      clear hX3 hX4 hk4 hOv hk3
      go_wp2_with fail
      obtain ⟨w4, hw4⟩ : ∃ w4, w3.setCell ⟨w.heap.size, 4, none⟩ (.slice A2 nl c2) = w4 := ⟨_, rfl⟩
      rw [hw4]
      have HW4 := hide hw4
      have HX4' := HX4.out
      have HK4' := HK4.out
      rw [hw4] at HX4' HK4'
      have hk24 : Keep [w.heap.size] w1 w4 := (((Keep.refl [w.heap.size] w1).drewN nq).then (HK3.out.mono (by simp))).then HK4'
      have hHW := HW.out
      have hb4 : b < w.heap.size := HBL.out
      have hn4 : n < w.heap.size := HNL2.out
      have h4m := HX1.out.map.keep hk24 (by simp; omega)
      have h4b := HX1.out.box.keep hk24 (by simp; omega)
      obtain ⟨wu, hru, hMu, hKu, hzu⟩ := run_mapUpdate_map (P := Tryd.prog) lawStr Tryd.underlying81 h4m.drew tp (⟨fr, at_, q, rt, ps, .slice A2 nl c2, tp, pl⟩ : Rm)
      simp only [rmV] at hru
      have s0 : w4.cell? ⟨n, 0, none⟩ = some (.map (some b)) := h4b.cell 0
      have t0 := HX4'.cell 0
      have t1 := HX4'.cell 1
      have t2 := HX4'.cell 2
      have t3 := HX4'.cell 3
      have t4 := HX4'.cell 4
      have t5 := HX4'.cell 5
      have t6 := HX4'.cell 6
      have hXu := HX4'.drew.keep hKu (by simp; omega)
      have u0 : wu.cell? ⟨n, 0, none⟩ = some (.map (some b)) := (h4b.drew.keep hKu (by simpa using HNE.out)).cell 0
      have u1 := hXu.cell 0
      have u2 := hXu.cell 1
      have u3 := hXu.cell 2
      have u4 := hXu.cell 3
      have u5 := hXu.cell 4
      have u6 := hXu.cell 5
      have u7 := hXu.cell 6
      simp at t0 t1 t2 t3 t4 t5 t6 u1 u2 u3 u4 u5 u6 u7
      have HU := hide (And.intro hMu hKu)
      have HK24 := hide hk24
      clear f4 g4 hw4 HX4' HK4' hk24 h4m h4b hMu hKu hzu hXu hb4 hn4 hHW q0 q1 q4 ql s5 s6
      go_region_held3 (fun w' => w'.cell? ⟨n, 0, none⟩ = some (.map (some b)) ∧ w'.cell? ⟨w.heap.size, 0, none⟩ = some (.string fr) ∧ w'.cell? ⟨w.heap.size, 1, none⟩ = some (.int .i64 at_) ∧ w'.cell? ⟨w.heap.size, 2, none⟩ = some (.int .u8 q) ∧ w'.cell? ⟨w.heap.size, 3, none⟩ = some (.bool rt) ∧ w'.cell? ⟨w.heap.size, 4, none⟩ = some (.slice A2 nl c2) ∧ w'.cell? ⟨w.heap.size, 5, none⟩ = some (.string tp) ∧ w'.cell? ⟨w.heap.size, 6, none⟩ = some (.string pl))
        (first | exact ⟨s0, t0, t1, t2, t3, t4, t5, t6⟩ | exact ⟨u0, u1, u2, u3, u4, u5, u6, u7⟩)
        (fail)
      all_goals
        go_wp2_with fail
        go_ret
        have hb4 : b < w.heap.size := HBL.out
        have hn4 : n < w.heap.size := HNL2.out
        have hX1 := HXB.out.keep HX2.out (by simp)
        have hnt : ∀ k ∈ [w.heap.size], ¬ OfTypes (PrT :: kPr.E) w1 k := by intro k hk; simp at hk; subst hk; exact not_of_blk hX1 (by decide)
        have h4 : Rs W w4 n b most hs := ⟨HX1.out.box.keep HK24.out (by simp; omega), HX1.out.map.keep HK24.out (by simp; omega), HX1.out.bn, HX1.out.bb, fun p hp => (HX1.out.own p hp).keep HK24.out hnt, HX1.out.plen⟩
        have hbn := not_of_map (h4.map.drew) (PrT :: kPr.E)
        have hpv : Own kPr PrT W.heap.size w4.drew (.slice A2 nl c2) ps := by
          have e1 := Own.keep (Own.keep HOV.out HK4.out (by intro k hk; simp at hk; subst hk; exact not_of_blk HX3.out (by decide))) (Keep.refl [] _).drew (by simp)
          refine Own.lower (base := (w1.drewN nq).heap.size) ?_ ?_
          · rw [← HW4.out]; exact e1
          · have := HX2.out.size; have := HK.out.size; have := HW.out; show W.heap.size ≤ w1.heap.size; omega
        refine ⟨.slice A2 nl c2, rfl, (h4.keep (Keep.refl [] w4).drew).offb HU.out.2 HU.out.1 (fun p hp => ?_) (fun p hp => ?_), ?_⟩
        · rcases mem_set hp with rfl | hp
          · exact hpv
          · exact (h4.own p hp).keep (Keep.refl [] w4).drew (by simp)
        · rcases mem_set hp with rfl | hp
          · exact HL.out
          · exact HPL.out p hp
        · exact (((HK.out.then HX2.out).trans HK24.out (S := [b]) (by simp) (fun x hx hlt => by simp at hx; omega)).drew).then HU.out.2
end Go.Proofs.YtbgondiibnjcgaaDoor
