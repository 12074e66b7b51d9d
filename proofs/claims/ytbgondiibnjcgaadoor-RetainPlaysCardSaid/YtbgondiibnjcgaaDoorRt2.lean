import Derived.Test.YtbgondiibnjcgaaDoorRt
namespace Go.Proofs.YtbgondiibnjcgaaDoor
open Go.RowKit Go.Shelf Go.Proofs.YtbgondiibnjcgaaDoor.PRetainPlays Go.Proofs.YtbgondiibnjcgaaDoorW.PrintWords Go.Proofs.YtbgondiibnjcgaaDoorW.PrintLast
set_option maxRecDepth 100000
set_option linter.unusedVariables false
set_option maxHeartbeats 1000000
theorem get_mem2 {ν : Type} {hs : List (ByteArray × ν)} {k : ByteArray} {x : ν} (h : AL.get hs k = some x) : (k, x) ∈ hs := by
  induction hs with
  | nil => simp [AL.get] at h
  | cons a t ih =>
    obtain ⟨a, y⟩ := a
    simp only [AL.get] at h
    split at h
    · rename_i e; cases h; subst e; simp
    · exact List.mem_cons_of_mem _ (ih h)
theorem mem_del {ν : Type} {hs : List (ByteArray × ν)} {c : ByteArray} {p : ByteArray × ν} (h : p ∈ AL.del hs c) : p ∈ hs := by
  induction hs with
  | nil => simp [AL.del] at h
  | cons a t ih =>
    obtain ⟨k, x⟩ := a
    simp only [AL.del] at h
    split at h
    · exact List.mem_cons_of_mem _ h
    · rcases List.mem_cons.1 h with h | h
      · subst h; simp
      · exact List.mem_cons_of_mem _ (ih h)
theorem Rs.pvf {W w : World} {n b : Nat} {most : Int} {hs : List (ByteArray × Rm)} (h : Rs W w n b most hs) (k : ByteArray) : ∃ A c, ((AL.get hs k).getD Rm.zero).pv = .slice A ((AL.get hs k).getD Rm.zero).ps.length c := by
  cases hg : AL.get hs k with
  | none => exact ⟨none, 0, rfl⟩
  | some x =>
    have hm : (k, x) ∈ hs := get_mem2 hg
    exact (h.own _ hm).slice
theorem rSetNone {W w : World} {n b : Nat} {most : Int} {hs : List (ByteArray × Rm)} (h : Rs W w n b most hs) (fr tp : ByteArray) (at_ q : Int) (rt : Bool) (A : Option Addr) (l c : Nat) :
    Calls Tryd.prog 15 #[.pointer (some ⟨n, 0, none⟩), .agg #[.string fr, .int .i64 at_, .int .u8 q, .bool rt, .slice A l c, .string tp, .string ⟨#[]⟩]] w fun e w' => e = .returned (.int .i64 0) ∧ Rs W w' n b most (AL.del hs tp) ∧ Keep [b] w w' := by
  have hX := Blk.new w #[.string fr, .int .i64 at_, .int .u8 q, .bool rt, .slice A l c, .string tp, .string ⟨#[]⟩] 25
  have hk0 := (Keep.refl [] w).alloc (.cells #[.string fr, .int .i64 at_, .int .u8 q, .bool rt, .slice A l c, .string tp, .string ⟨#[]⟩] 25)
  obtain ⟨w0, hw0⟩ : ∃ w0, w.alloc (.cells #[.string fr, .int .i64 at_, .int .u8 q, .bool rt, .slice A l c, .string tp, .string ⟨#[]⟩] 25) = w0 := ⟨_, rfl⟩
  rw [hw0] at hX hk0
  have h0 := h.keep hk0
  have c0 : w0.cell? ⟨n, 0, none⟩ = some (.map (some b)) := h0.box.cell 0
  have x5 : w0.cell? ⟨w.heap.size, 5, none⟩ = some (.string tp) := hX.cell 5
  have x6 : w0.cell? ⟨w.heap.size, 6, none⟩ = some (.string ⟨#[]⟩) := hX.cell 6
  have d0 : ∀ o, (w0.alloc o).cell? ⟨n, 0, none⟩ = some (.map (some b)) := fun o => (h0.box.alloc o).cell 0
  have d5 : ∀ o, (w0.alloc o).cell? ⟨w.heap.size, 5, none⟩ = some (.string tp) := fun o => (hX.alloc o).cell 5
  have d6 : ∀ o, (w0.alloc o).cell? ⟨w.heap.size, 6, none⟩ = some (.string ⟨#[]⟩) := fun o => (hX.alloc o).cell 6
  have look := fun (w' : World) (hk : Keep [] w0 w') => lookR (h0.keep hk) tp true
  obtain ⟨xA, xc, hpv⟩ := h0.pvf tp
  obtain ⟨x, hx⟩ : ∃ x, (AL.get hs tp).getD Rm.zero = x := ⟨_, rfl⟩
  rw [hx] at look hpv
  obtain ⟨x0, x1, x2, x3, x4, xp, x5', x6'⟩ := x
  simp only at hpv
  subst hpv
  simp only [rmV, if_true] at look
  obtain ⟨xl, hxl⟩ : ∃ xl, x4.length = xl := ⟨_, rfl⟩
  rw [hxl] at look
  generalize (AL.get hs tp).isSome = qq at look
  have HS := hide (fun (w' : World) (hk : Keep [] w0 w') => show w'.cell? ⟨n, 0, none⟩ = some (.map (some b)) ∧ w'.cell? ⟨w.heap.size, 5, none⟩ = some (.string tp) ∧ w'.cell? ⟨w.heap.size, 6, none⟩ = some (.string ⟨#[]⟩) ∧ (Instr.lookup 81 (.map (some b)) (.string tp) true).run Tryd.prog w' = .ok (.tuple #[.agg #[.string x0, .int .i64 x1, .int .u8 x2, .bool x3, .slice xA xl xc, .string x5', .string x6'], .bool qq]) w' from ⟨(h0.box.keep hk (by simp)).cell 0, (hX.keep hk (by simp)).cell 5, (hX.keep hk (by simp)).cell 6, look w' hk⟩)
  have H0 := hide h0
  have HXB := hide hX
  have HBL := hide h.map.lt
  have HK := hide hk0
  clear hx h hxl h0 hX hk0 look
  go_enter Tryd.func15, Tryd.ntmps15
  go_wp2_with fail
  clear hw0
  go_region_held3 (fun w' => w'.cell? ⟨n, 0, none⟩ = some (.map (some b)) ∧ w'.cell? ⟨w.heap.size, 5, none⟩ = some (.string tp) ∧ w'.cell? ⟨w.heap.size, 6, none⟩ = some (.string ⟨#[]⟩) ∧ (Instr.lookup 81 (.map (some b)) (.string tp) true).run Tryd.prog w' = .ok (.tuple #[.agg #[.string x0, .int .i64 x1, .int .u8 x2, .bool x3, .slice xA xl xc, .string x5', .string x6'], .bool qq]) w')
    (first | exact HS.out _ (Keep.refl _ _) | exact HS.out _ (Keep.refl _ _).drew | exact HS.out _ (((Keep.refl _ _).drew).alloc _))
    (fail)
  all_goals
    have hk1 : Keep [] w0 (w0.alloc (.cells #[.string x0, .int .i64 x1, .int .u8 x2, .bool x3, .slice xA xl xc, .string x5', .string x6'] 25)).drew := ((Keep.refl [] w0).alloc _).drew
    obtain ⟨w1, hw1⟩ : ∃ w1, (w0.alloc (.cells #[.string x0, .int .i64 x1, .int .u8 x2, .bool x3, .slice xA xl xc, .string x5', .string x6'] 25)).drew = w1 := ⟨_, rfl⟩
    rw [hw1] at hk1
    rw [hw1]
    have S1 := HS.out w1 hk1
    have s0 := S1.1
    have s5 := S1.2.1
    have s6 := S1.2.2.1
    have h1 := H0.out.keep hk1
    obtain ⟨wu, hru, hMu, hKu, hzu⟩ := run_delete_map (P := Tryd.prog) lawStr Tryd.underlying81 (h1.keep (Keep.refl [] w1).drew).map tp 0
    have u0 : wu.cell? ⟨n, 0, none⟩ = some (.map (some b)) := ((h1.keep (Keep.refl [] w1).drew).box.keep hKu (by simpa using h1.map.ne_blk h1.box)).cell 0
    have u5 : wu.cell? ⟨w.heap.size, 5, none⟩ = some (.string tp) := ((HXB.out.keep (hk1.then (Keep.refl [] w1).drew) (by simp)).keep hKu (by have := HBL.out; simp; omega)).cell 5
    have HX1 := hide h1
    have HX2 := hide hk1
    have HX3 := hide hMu
    have HX4 := hide hKu
    clear S1 h1 hMu hKu hzu hk1 hw1
    go_wp2_with fail
    go_region_held3 (fun w' => w'.cell? ⟨n, 0, none⟩ = some (.map (some b)) ∧ w'.cell? ⟨w.heap.size, 5, none⟩ = some (.string tp))
      (first | exact ⟨s0, s5⟩ | exact ⟨u0, u5⟩)
      (fail)
    all_goals
      go_wp2_with fail
      go_ret
      have h2 := HX1.out.keep (Keep.refl [] w1).drew
      exact ⟨rfl, h2.offb HX4.out HX3.out (fun p hp => h2.own p (mem_del hp)) (fun p hp => h2.plen p (mem_del hp)), ((HK.out.then HX2.out).then (Keep.refl [] w1).drew).trans HX4.out (S := [b]) (by simp) (fun _ h _ => h)⟩
end Go.Proofs.YtbgondiibnjcgaaDoor
