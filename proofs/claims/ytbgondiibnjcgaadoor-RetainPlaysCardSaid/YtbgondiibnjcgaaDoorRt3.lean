import Derived.Test.YtbgondiibnjcgaaDoorRt2
namespace Go.Proofs.YtbgondiibnjcgaaDoor
open Go.RowKit Go.Shelf Go.Proofs.YtbgondiibnjcgaaDoor.PRetainPlays Go.Proofs.YtbgondiibnjcgaaDoorW.PrintWords Go.Proofs.YtbgondiibnjcgaaDoorW.PrintLast
set_option maxRecDepth 100000
set_option linter.unusedVariables false
set_option maxHeartbeats 1000000
theorem rSetFull {W w : World} {n b : Nat} {most : Int} {hs : List (ByteArray × Rm)} (h : Rs W w n b most hs) (fr tp : ByteArray) (at_ q : Int) (rt : Bool) (A : Option Addr) (l c : Nat) (pl : ByteArray) (hp : pl.size ≠ 0) (hq : AL.get hs tp = none) (hfu : most ≤ hs.length) :
    Calls Tryd.prog 15 #[.pointer (some ⟨n, 0, none⟩), .agg #[.string fr, .int .i64 at_, .int .u8 q, .bool rt, .slice A l c, .string tp, .string pl]] w fun e w' => e = .returned (.int .i64 6) ∧ Rs W w' n b most hs ∧ Keep [] w w' := by
  have hX := Blk.new w #[.string fr, .int .i64 at_, .int .u8 q, .bool rt, .slice A l c, .string tp, .string pl] 25
  have hk0 := (Keep.refl [] w).alloc (.cells #[.string fr, .int .i64 at_, .int .u8 q, .bool rt, .slice A l c, .string tp, .string pl] 25)
  obtain ⟨w0, hw0⟩ : ∃ w0, w.alloc (.cells #[.string fr, .int .i64 at_, .int .u8 q, .bool rt, .slice A l c, .string tp, .string pl] 25) = w0 := ⟨_, rfl⟩
  rw [hw0] at hX hk0
  have h0 := h.keep hk0
  have c0 : w0.cell? ⟨n, 0, none⟩ = some (.map (some b)) := h0.box.cell 0
  have x5 : w0.cell? ⟨w.heap.size, 5, none⟩ = some (.string tp) := hX.cell 5
  have x6 : w0.cell? ⟨w.heap.size, 6, none⟩ = some (.string pl) := hX.cell 6
  have d0 : ∀ o, (w0.alloc o).cell? ⟨n, 0, none⟩ = some (.map (some b)) := fun o => (h0.box.alloc o).cell 0
  have d5 : ∀ o, (w0.alloc o).cell? ⟨w.heap.size, 5, none⟩ = some (.string tp) := fun o => (hX.alloc o).cell 5
  have d6 : ∀ o, (w0.alloc o).cell? ⟨w.heap.size, 6, none⟩ = some (.string pl) := fun o => (hX.alloc o).cell 6
  have look := fun (w' : World) (hk : Keep [] w0 w') => lookR (h0.keep hk) tp true
  obtain ⟨xA, xc, hpv⟩ := h0.pvf tp
  obtain ⟨x, hx⟩ : ∃ x, (AL.get hs tp).getD Rm.zero = x := ⟨_, rfl⟩
  rw [hx] at look hpv
  obtain ⟨x0, x1, x2, x3, x4, xp, x5', x6'⟩ := x
  simp only at hpv
  subst hpv
  simp only [rmV, if_true] at look
  obtain ⟨xl, hxl⟩ : ∃ xl, x4.length = xl := ⟨_, rfl⟩
  rw [hxl] at look
  obtain ⟨qq, hqq⟩ : ∃ qq, (AL.get hs tp).isSome = qq := ⟨_, rfl⟩
  rw [hqq] at look
  obtain rfl : false = qq := by rw [← hqq, hq]; rfl
  clear hqq
  have hpe : pl.toList.isEmpty = false := by rw [ByteArray.toList_eq]; cases pl with | mk d => cases d with | mk l => cases l with | nil => exact absurd rfl hp | cons a l => rfl
  have hpn : ¬ pl.toList = [] := by intro e; rw [e] at hpe; cases hpe
  clear hp
  have HS := hide (fun (w' : World) (hk : Keep [] w0 w') => show w'.cell? ⟨n, 0, none⟩ = some (.map (some b)) ∧ w'.cell? ⟨w.heap.size, 5, none⟩ = some (.string tp) ∧ w'.cell? ⟨w.heap.size, 6, none⟩ = some (.string pl) ∧ (Instr.lookup 81 (.map (some b)) (.string tp) true).run Tryd.prog w' = .ok (.tuple #[.agg #[.string x0, .int .i64 x1, .int .u8 x2, .bool x3, .slice xA xl xc, .string x5', .string x6'], .bool false]) w' from ⟨(h0.box.keep hk (by simp)).cell 0, (hX.keep hk (by simp)).cell 5, (hX.keep hk (by simp)).cell 6, look w' hk⟩)
  have H0 := hide h0
  have HXB := hide hX
  have HBL := hide h.map.lt
  have HK := hide hk0
  clear hx h hxl h0 hX hk0 look
  go_enter Tryd.func15, Tryd.ntmps15
  go_wp2_with fail
  clear hw0
  go_region_held3 (fun w' => w'.cell? ⟨n, 0, none⟩ = some (.map (some b)) ∧ w'.cell? ⟨w.heap.size, 5, none⟩ = some (.string tp) ∧ w'.cell? ⟨w.heap.size, 6, none⟩ = some (.string pl) ∧ (Instr.lookup 81 (.map (some b)) (.string tp) true).run Tryd.prog w' = .ok (.tuple #[.agg #[.string x0, .int .i64 x1, .int .u8 x2, .bool x3, .slice xA xl xc, .string x5', .string x6'], .bool false]) w')
    (first | exact HS.out _ (Keep.refl _ _) | exact HS.out _ (Keep.refl _ _).drew | exact HS.out _ (((Keep.refl _ _).drew).alloc _))
    (fail)
  all_goals
    have hk1 : Keep [] w0 (w0.alloc (.cells #[.string x0, .int .i64 x1, .int .u8 x2, .bool x3, .slice xA xl xc, .string x5', .string x6'] 25)).drew := ((Keep.refl [] w0).alloc _).drew
    obtain ⟨w1, hw1⟩ : ∃ w1, (w0.alloc (.cells #[.string x0, .int .i64 x1, .int .u8 x2, .bool x3, .slice xA xl xc, .string x5', .string x6'] 25)).drew = w1 := ⟨_, rfl⟩
    rw [hw1] at hk1
    rw [hw1]
    have S1 := HS.out w1 hk1
    have s0 := S1.1
    have s5 := S1.2.1
    have s6 := S1.2.2.1
    have h1 := H0.out.keep hk1
    have q0 : ∀ m, (w1.drewN m).cell? ⟨n, 0, none⟩ = some (.map (some b)) := fun m => s0
    have q1 : ∀ m, (w1.drewN m).cell? ⟨n, 1, none⟩ = some (.int .i64 most) := fun m => h1.box.cell 1
    have ql := fun (m : Nat) ty => run_len_map (w := w1.drewN m) Tryd.underlying81 (h1.keep ((Keep.refl [] w1).drewN m)).map ty
    obtain ⟨z, hz⟩ : ∃ z : Int, (hs.length : Int) = z := ⟨_, rfl⟩
    rw [hz] at ql
    have g1 : decide (most ≤ z) = true := decide_eq_true (by omega)
    have g2 : most ≤ z := by omega
    have HX1 := hide h1
    have HX2 := hide hk1
    clear S1 h1 hk1 hw1 hfu hz hq
    go_wp2_with fail
    go_quiet (fail)
    go_wp2_with fail
    go_ret
    exact ⟨rfl, HX1.out.keep ((Keep.refl [] w1).drewN _), (HK.out.then HX2.out).then ((Keep.refl [] w1).drewN _)⟩
end Go.Proofs.YtbgondiibnjcgaaDoor
