import Derived.Test.YtjhhnidfmoejdaaDoorLh
namespace Go.Proofs.YtjhhnidfmoejdaaDoor
open Go.RowKit Go.Proofs.YtjhhnidfmoejdaaDoor.PLedgerPlays Go.Proofs.YtjhhnidfmoejdaaDoorW.PrintWords Go.Proofs.YtjhhnidfmoejdaaDoorW.PrintLast
set_option maxRecDepth 10000
set_option linter.unusedVariables false
set_option maxHeartbeats 4000000
theorem upM_upM {α : Type} (M : Int → Option α) (k : Int) (x y : Option α) : upM (upM M k x) k y = upM M k y := by
  funext k'
  unfold upM
  by_cases h : k' = k
  · rw [if_pos h, if_pos h]
  · rw [if_neg h, if_neg h, if_neg h]
theorem lHeard_done {W w : World} {p : Pl} {S : Lg} (h : Sd W w p S) (id code : Int) (A : Option Addr) (n c : Nat) (q : Nat) (xi x3 : Int) (x1 x2 : BA) (x5 : Bool) (hl : AL.get p.l id = some q) (hM : S.M id = some ⟨xi, x1, x2, x3, true, x5⟩) (hld : S.dn.length < 100000) :
    Calls Tryd.prog 17 #[ptrTo p.n, akV 7 id code A n c] w (SdPost W w p ({ S with M := upM S.M id none, dn := S.dn ++ [⟨xi, x1, x2, x3, true, true⟩] })) := by
  have hsl := h.dn.slice
  obtain ⟨dA, dc, hdv⟩ := hsl
  obtain ⟨dn, hdn⟩ : ∃ dn, S.dn = dn := ⟨_, rfl⟩
  rw [hdn] at hdv hld
  have HDV := hide hdv
  have hqX0 : q ≠ w.heap.size := by have := h.qlt hl; omega
  have HDN := hide hdn
  have hWs := h.bel.size
  have hX0 := Blk.new w (akC 7 id code A n c) AkT
  have hk0 := (Keep.refl [] w).alloc (.cells (akC 7 id code A n c) AkT)
  obtain ⟨X, hXe⟩ : ∃ X, w.heap.size = X := ⟨_, rfl⟩
  obtain ⟨w0, hw0⟩ : ∃ w0, w.alloc (.cells (akC 7 id code A n c) AkT) = w0 := ⟨_, rfl⟩
  rw [hw0, hXe] at hX0
  rw [hw0] at hk0
  have h0 := h.keep hk0
  have HK0 := hide hk0
  have H0 := hide h0
  have H := hide h
  have HX := hide hX0
  have HKP := hide (fun (w' : World) (hk : Keep [] w w') => h.keep hk)
  obtain ⟨nn, hnn⟩ : ∃ nn, p.n = nn := ⟨_, rfl⟩
  have HN := hide hnn
  have q0 : ∀ m, (w0.drewN m).cell? ⟨nn, 0, none⟩ = some (.map (some p.bo)) := fun m => by rw [← hnn]; exact (h0.box.drewN m).cell 0
  have q2 : ∀ m, (w0.drewN m).cell? ⟨nn, 2, none⟩ = some (.map (some p.bt)) := fun m => by rw [← hnn]; exact (h0.box.drewN m).cell 2
  have y0 : ∀ m, (w0.drewN m).cell? ⟨X, 0, none⟩ = some (.int .i64 7) := fun m => (hX0.drewN m).cell 0
  have y1 : ∀ m, (w0.drewN m).cell? ⟨X, 1, none⟩ = some (.int .u32 id) := fun m => (hX0.drewN m).cell 1
  have y2 : ∀ m, (w0.drewN m).cell? ⟨X, 2, none⟩ = some (.int .u8 code) := fun m => (hX0.drewN m).cell 2
  have ql : ∀ m, (Instr.lookup 57 (.map (some p.bo)) (.int .u32 id) false).run Tryd.prog (w0.drewN m) = .ok (ptrTo q) (w0.drewN m) := fun m => by have := lookX (h0.keep ((Keep.refl [] w0).drewN m)).op id; rw [hl] at this; exact this
  have hB0 : Blk w0 q #[.int .u32 xi, .string x1, .string x2, .int .i64 x3, .bool true, .bool x5] ExT := by
    obtain ⟨y, hy, hb⟩ := h0.op.at_ id q hl
    rw [hM] at hy; cases hy; exact hb
  have HB := hide hB0
  have HQL := hide hl
  have z4 : ∀ m, (w0.drewN m).cell? ⟨q, 4, none⟩ = some (.bool true) := fun m => (hB0.drewN m).cell 4
  have zf : ∀ m, (w0.drewN m).frozen? ⟨q, 4, none⟩ = false := fun m => (hB0.drewN m).frozen 4 (by simp)
  have z5 : ∀ m, (w0.drewN m).cell? ⟨q, 5, none⟩ = some (.bool x5) := fun m => (hB0.drewN m).cell 5
  have zg : ∀ m, (w0.drewN m).frozen? ⟨q, 5, none⟩ = false := fun m => (hB0.drewN m).frozen 5 (by simp)
  have q1 : ∀ m, (w0.drewN m).cell? ⟨nn, 1, none⟩ = some (.slice dA dn.length dc) := fun m => by rw [← hnn, ← hdv]; exact (h0.box.drewN m).cell 1
  rw [hnn]
  have HXF := hide (show ¬ p.F X from fun hF => by have := h.flt hF; omega)
  have HQX := hide (show q ≠ X from hXe ▸ hqX0)
  clear h0 hk0 h hnn hdv hdn hB0 hqX0
  go_enter Tryd.func17, Tryd.ntmps17
  go_wp2_with fail
  clear hw0
  go_quiet (fail)
  go_upto_region 11 with fail
  obtain ⟨w2, hw2⟩ : ∃ w2, (w0.drewN nq).setCell ⟨q, 5, none⟩ (.bool true) = w2 := ⟨_, rfl⟩
  rw [hw2]
  have hB2 : Blk w2 q (exC ⟨xi, x1, x2, x3, true, true⟩) ExT := by
    rw [← hw2]
    have := (HB.out.drewN nq).set 5 (.bool true)
    simpa using this
  have hS2 := (HKP.out _ (HK0.out.drewN nq)).upx HQL.out (w' := w2) (x := ⟨xi, x1, x2, x3, true, true⟩) (by rw [← hw2]; exact (Keep.refl [q] (w0.drewN nq)).setCell (p := ⟨q, 5, none⟩) (fun _ => by simp) (.bool true)) hB2
  have hG2 := (Gone.same (p := p) (HK0.out.drewN nq)).trans hS2.2
  have hX2 : Blk w2 X (akC 7 id code A n c) AkT := by rw [← hw2]; exact (HX.out.drewN nq).other (fun e => HQX.out e.symm) _
  have hzz := hS2.1.bel.size
  have HO2 := hide (show Own kX ExT W.heap.size w2.drew (.slice dA dn.length dc) dn from by have := (hS2.1.keep (Keep.refl [] w2).drew).dn; rw [HDV.out, HDN.out] at this; exact this)
  have bx := hS2.1.box
  rw [HN.out, HDV.out] at bx
  have c1 : w2.cell? ⟨nn, 1, none⟩ = some (.slice dA dn.length dc) := bx.cell 1
  have c1a : ∀ o, (w2.alloc o).cell? ⟨nn, 1, none⟩ = some (.slice dA dn.length dc) := fun o => (bx.alloc o).cell 1
  have e0 : w2.cell? ⟨q, 0, none⟩ = some (.int .u32 xi) := hB2.cell 0
  have e1 : w2.cell? ⟨q, 1, none⟩ = some (.string x1) := hB2.cell 1
  have e2 : w2.cell? ⟨q, 2, none⟩ = some (.string x2) := hB2.cell 2
  have e3 : w2.cell? ⟨q, 3, none⟩ = some (.int .i64 x3) := hB2.cell 3
  have e4 : w2.cell? ⟨q, 4, none⟩ = some (.bool true) := hB2.cell 4
  have e5 : w2.cell? ⟨q, 5, none⟩ = some (.bool true) := hB2.cell 5
  have HNE := hide (show (Value.slice dA dn.length dc).ownBlock ≠ some nn from fun e => by have := (hS2.1.dne (k := nn) (by rw [HDV.out]; exact e)).1; exact this HN.out.symm)
  have hnlt : nn < w2.heap.size := bx.lt
  have HBX := hide bx
  have HS2 := hide hS2.1
  have HG2 := hide hG2
  have HX2 := hide hX2
  clear q0 q1 q2 y0 y1 y2 z4 zf z5 zg ql hB2 hS2 hG2 hX2 hw2 bx
  go_region_law (first
    | (refine Own.append_step2 kX fltX (W := w2.drew) W.heap.size (by simp [Region.wanted]) (.tmp 70) (.tmp 74) ExsT ExT _ _ rfl Tryd.underlying37 infoX rfl (by decide) (by decide) (.slice dA dn.length dc) dn ⟨xi, x1, x2, x3, true, true⟩ _ (by simp [Act.eval]) w2.heap.size (by simp) (by simp [Act.eval]) (k66_mkM _ _ _ _) HO2.out (by simp; omega) (by omega) ?_; intro v1 w7 hO7 hg7 hr7; obtain ⟨A7, c7, rfl⟩ := hO7.slice; rw [show (dn ++ [(⟨xi, x1, x2, x3, true, true⟩ : SX)]).length = dn.length + 1 by simp] at hO7 hr7 ⊢; have hB7 := HBX.out.of_block (hg7.block nn hnlt (fun e => HNE.out e.symm)); have hc7 : w7.cell? ⟨nn, 1, none⟩ = some (.slice dA dn.length dc) := hB7.cell 1; have hf7 := hB7.frozen 1 (by simp); have HO7 := hide hO7; have HG7 := hide hg7; have HR7 := hide hr7; clear hB7 hO7 hg7 hr7)
    | fail)
  all_goals go_upto_region 12 with fail
  all_goals
    obtain ⟨w8, hw8⟩ : ∃ w8, w7.setCell ⟨nn, 1, none⟩ (.slice A7 (dn.length + 1) c7) = w8 := ⟨_, rfl⟩
    rw [hw8]
    have hd := HS2.out.dvp (Keep.refl [] w2).drew (by rw [HDV.out]; exact HG7.out) HO7.out (by rw [HDV.out]; exact HR7.out)
    rw [HN.out, hw8] at hd
    have hX8 : Blk w8 X (akC 7 id code A n c) AkT := HX2.out.of_block (hd.2.block X HX2.out.lt HXF.out)
    have hG8 := HG2.out.trans hd.2
    have h1 := hd.1.keep (Keep.refl [] w8).drew
    obtain ⟨wu, hru, hMu, hKu, hzu⟩ := run_delete_map (P := Tryd.prog) (KeyLaw.int Tryd.underlying22) Tryd.underlying57 h1.op.map id 0
    have s0 : w8.cell? ⟨nn, 0, none⟩ = some (.map (some p.bo)) := hd.1.box.cell 0
    have s1 : w8.cell? ⟨X, 1, none⟩ = some (.int .u32 id) := hX8.cell 1
    have u0 : wu.cell? ⟨nn, 0, none⟩ = some (.map (some p.bo)) := (h1.box.keep hKu (by simp; exact h1.nbo)).cell 0
    have u1 : wu.cell? ⟨X, 1, none⟩ = some (.int .u32 id) := (hX8.drew.keep hKu (by simp; exact (h1.op.map.ne_blk hX8.drew))).cell 1
    have hfin := h1.delx hKu hMu
    have HF := hide (And.intro hfin.1 (hG8.trans ((Gone.same (Keep.refl [] w8).drew).trans hfin.2)))
    clear hMu hKu hzu h1 hfin hd hX8 hG8 hw8
    go_region_held3 (fun w' => w'.cell? ⟨nn, 0, none⟩ = some (.map (some p.bo)) ∧ w'.cell? ⟨X, 1, none⟩ = some (.int .u32 id))
      (first | exact ⟨s0, s1⟩ | exact ⟨u0, u1⟩)
      (fail)
    all_goals go_wp2_with fail
    all_goals
      go_end0
      have hf := HF.out
      simp only [upM_upM, HN.out.symm] at hf
      exact ⟨{ p with dv := .slice A7 (dn.length + 1) c7, l := AL.del p.l id }, rfl, rfl, by rw [HDN.out]; exact hf.1, hf.2⟩
end Go.Proofs.YtjhhnidfmoejdaaDoor
