import Derived.Test.YtjhhnidfmoejdaaDoorLs
import Derived.RegionTactic
import Derived.Deep.RegionLaw
namespace Go.Proofs.YtjhhnidfmoejdaaDoor
open Go.RowKit Go.Proofs.YtjhhnidfmoejdaaDoor.PLedgerPlays Go.Proofs.YtjhhnidfmoejdaaDoorW.PrintWords Go.Proofs.YtjhhnidfmoejdaaDoorW.PrintLast
set_option maxRecDepth 10000
set_option linter.unusedVariables false
set_option maxHeartbeats 2000000
abbrev akC (kind id code : Int) (A : Option Addr) (n c : Nat) : Array Value := #[.int .i64 kind, .int .u32 id, .int .u8 code, .slice A n c]
abbrev akV (kind id code : Int) (A : Option Addr) (n c : Nat) : Value := .agg (akC kind id code A n c)
def Lg.heard (S : Lg) (kind id code : Int) : Lg :=
  if kind = 6 then { S with tk := AL.del S.tk id } else
  match S.M id with
  | none => S
  | some x => if kind = 5 then (if code < 128 ∨ x.f4 = true then { S with M := upM S.M id (some { x with f4 := true }) } else { S with M := upM S.M id none })
    else if kind = 7 ∧ x.f4 = true then { S with M := upM S.M id none, dn := S.dn ++ [{ x with f5 := true }] } else S
theorem lGood (a : Int) (w : World) : Calls Tryd.prog 30 #[.int .u8 a] w fun e w' => e = .returned (.bool (decide (a < 128))) ∧ w' = w := by
  go_enter Tryd.func30, Tryd.ntmps30
  go_wp2
  go_ret
  exact ⟨rfl, rfl⟩
theorem lHeard_rel {W w : World} {p : Pl} {S : Lg} (h : Sd W w p S) (id code : Int) (A : Option Addr) (n c : Nat)  :
    Calls Tryd.prog 17 #[ptrTo p.n, akV 6 id code A n c] w (SdPost W w p ({ S with tk := AL.del S.tk id })) := by
  have hX0 := Blk.new w (akC 6 id code A n c) AkT
  have hk0 := (Keep.refl [] w).alloc (.cells (akC 6 id code A n c) AkT)
  obtain ⟨X, hXe⟩ : ∃ X, w.heap.size = X := ⟨_, rfl⟩
  obtain ⟨w0, hw0⟩ : ∃ w0, w.alloc (.cells (akC 6 id code A n c) AkT) = w0 := ⟨_, rfl⟩
  rw [hw0, hXe] at hX0
  rw [hw0] at hk0
  have h0 := h.keep hk0
  have HK0 := hide hk0
  have H0 := hide h0
  have H := hide h
  have HX := hide hX0
  have HKP := hide (fun (w' : World) (hk : Keep [] w w') => h.keep hk)
  obtain ⟨nn, hnn⟩ : ∃ nn, p.n = nn := ⟨_, rfl⟩
  have HN := hide hnn
  have q0 : ∀ m, (w0.drewN m).cell? ⟨nn, 0, none⟩ = some (.map (some p.bo)) := fun m => by rw [← hnn]; exact (h0.box.drewN m).cell 0
  have q2 : ∀ m, (w0.drewN m).cell? ⟨nn, 2, none⟩ = some (.map (some p.bt)) := fun m => by rw [← hnn]; exact (h0.box.drewN m).cell 2
  have y0 : ∀ m, (w0.drewN m).cell? ⟨X, 0, none⟩ = some (.int .i64 6) := fun m => (hX0.drewN m).cell 0
  have y1 : ∀ m, (w0.drewN m).cell? ⟨X, 1, none⟩ = some (.int .u32 id) := fun m => (hX0.drewN m).cell 1
  have y2 : ∀ m, (w0.drewN m).cell? ⟨X, 2, none⟩ = some (.int .u8 code) := fun m => (hX0.drewN m).cell 2
  have ql : ∀ m, (Instr.lookup 57 (.map (some p.bo)) (.int .u32 id) false).run Tryd.prog (w0.drewN m) = .ok (match AL.get p.l id with | some q => ptrTo q | none => .pointer none) (w0.drewN m) := fun m => by have := lookX (h0.keep ((Keep.refl [] w0).drewN m)).op id; exact this
  obtain ⟨lk, hlk⟩ : ∃ v : Value, (match AL.get p.l id with | some q => ptrTo q | none => .pointer none) = v := ⟨_, rfl⟩
  rw [hlk] at ql
  clear hlk
  rw [hnn]
  clear h0 hk0 h hnn
  go_enter Tryd.func17, Tryd.ntmps17
  go_wp2_with fail
  clear hw0
  go_quiet (fail)
  go_wp2_with fail
  obtain ⟨w1, hw1⟩ : ∃ w1, w0.drewN nq = w1 := ⟨_, rfl⟩
  have hk1 : Keep [] w0 w1 := by rw [← hw1]; exact (Keep.refl [] w0).drewN nq
  rw [hw1]
  have h1 := H0.out.keep hk1.drew
  obtain ⟨wu, hru, hMu, hKu, hzu⟩ := run_delete_map (P := Tryd.prog) (KeyLaw.int Tryd.underlying22) Tryd.underlying58 h1.tk id 0
  have s0 : w1.cell? ⟨nn, 2, none⟩ = some (.map (some p.bt)) := by have := (H0.out.keep hk1).box.cell 2; rw [HN.out] at this; exact this
  have s1 : w1.cell? ⟨X, 1, none⟩ = some (.int .u32 id) := (HX.out.keep hk1 (by simp)).cell 1
  have u0 : wu.cell? ⟨nn, 2, none⟩ = some (.map (some p.bt)) := by have := (h1.box.keep hKu (by simp; exact h1.nbt)).cell 2; rw [HN.out] at this; exact this
  have u1 : wu.cell? ⟨X, 1, none⟩ = some (.int .u32 id) := ((HX.out.keep hk1.drew (by simp)).keep hKu (by simp; exact (h1.tk.ne_blk (HX.out.keep hk1.drew (by simp))))).cell 1
  have hfin := h1.tkp hKu hMu
  have HF := hide (And.intro hfin.1 ((Gone.same (p := p) (HK0.out.then hk1.drew)).trans hfin.2))
  clear hMu hKu hzu h1 hfin hk1 hw1 q0 q2 y0 y1 y2 ql
  go_region_held3 (fun w' => w'.cell? ⟨nn, 2, none⟩ = some (.map (some p.bt)) ∧ w'.cell? ⟨X, 1, none⟩ = some (.int .u32 id))
    (first | exact ⟨s0, s1⟩ | exact ⟨u0, u1⟩)
    (fail)
  all_goals go_wp2_with fail
  all_goals
    go_end0
    exact ⟨p, rfl, rfl, HF.out⟩
theorem lHeard_none {W w : World} {p : Pl} {S : Lg} (h : Sd W w p S) (id code : Int) (A : Option Addr) (n c : Nat) (kind : Int) (hk6 : kind ≠ 6) (hl : AL.get p.l id = none) :
    Calls Tryd.prog 17 #[ptrTo p.n, akV kind id code A n c] w (SdPost W w p (S)) := by
  have b6 : (kind == 6) = false := by simpa using hk6
  have hX0 := Blk.new w (akC kind id code A n c) AkT
  have hk0 := (Keep.refl [] w).alloc (.cells (akC kind id code A n c) AkT)
  obtain ⟨X, hXe⟩ : ∃ X, w.heap.size = X := ⟨_, rfl⟩
  obtain ⟨w0, hw0⟩ : ∃ w0, w.alloc (.cells (akC kind id code A n c) AkT) = w0 := ⟨_, rfl⟩
  rw [hw0, hXe] at hX0
  rw [hw0] at hk0
  have h0 := h.keep hk0
  have HK0 := hide hk0
  have H0 := hide h0
  have H := hide h
  have HX := hide hX0
  have HKP := hide (fun (w' : World) (hk : Keep [] w w') => h.keep hk)
  obtain ⟨nn, hnn⟩ : ∃ nn, p.n = nn := ⟨_, rfl⟩
  have HN := hide hnn
  have q0 : ∀ m, (w0.drewN m).cell? ⟨nn, 0, none⟩ = some (.map (some p.bo)) := fun m => by rw [← hnn]; exact (h0.box.drewN m).cell 0
  have q2 : ∀ m, (w0.drewN m).cell? ⟨nn, 2, none⟩ = some (.map (some p.bt)) := fun m => by rw [← hnn]; exact (h0.box.drewN m).cell 2
  have y0 : ∀ m, (w0.drewN m).cell? ⟨X, 0, none⟩ = some (.int .i64 kind) := fun m => (hX0.drewN m).cell 0
  have y1 : ∀ m, (w0.drewN m).cell? ⟨X, 1, none⟩ = some (.int .u32 id) := fun m => (hX0.drewN m).cell 1
  have y2 : ∀ m, (w0.drewN m).cell? ⟨X, 2, none⟩ = some (.int .u8 code) := fun m => (hX0.drewN m).cell 2
  have ql : ∀ m, (Instr.lookup 57 (.map (some p.bo)) (.int .u32 id) false).run Tryd.prog (w0.drewN m) = .ok (.pointer none) (w0.drewN m) := fun m => by have := lookX (h0.keep ((Keep.refl [] w0).drewN m)).op id; rw [hl] at this; exact this
  rw [hnn]
  clear h0 hk0 h hnn
  go_enter Tryd.func17, Tryd.ntmps17
  go_wp2_with fail
  clear hw0
  go_quiet (fail)
  go_wp2_with fail
  go_end0
  exact ⟨p, rfl, rfl, HKP.out _ (HK0.out.drewN _), Gone.same (HK0.out.drewN _)⟩
theorem lHeard_good {W w : World} {p : Pl} {S : Lg} (h : Sd W w p S) (id code : Int) (A : Option Addr) (n c : Nat) (q : Nat) (xi x3 : Int) (x1 x2 : BA) (x4 x5 : Bool) (hl : AL.get p.l id = some q) (hM : S.M id = some ⟨xi, x1, x2, x3, x4, x5⟩) (hc : code < 128) :
    Calls Tryd.prog 17 #[ptrTo p.n, akV 5 id code A n c] w (SdPost W w p ({ S with M := upM S.M id (some ⟨xi, x1, x2, x3, true, x5⟩) })) := by
  have hg : decide (code < 128) = true := by simpa using hc
  have HG := hide (fun (w : World) => show Calls Tryd.prog 30 #[.int .u8 code] w (fun e w' => e = .returned (.bool true) ∧ w' = w) from by rw [← hg]; exact lGood code w)
  clear hg
  have hX0 := Blk.new w (akC 5 id code A n c) AkT
  have hk0 := (Keep.refl [] w).alloc (.cells (akC 5 id code A n c) AkT)
  obtain ⟨X, hXe⟩ : ∃ X, w.heap.size = X := ⟨_, rfl⟩
  obtain ⟨w0, hw0⟩ : ∃ w0, w.alloc (.cells (akC 5 id code A n c) AkT) = w0 := ⟨_, rfl⟩
  rw [hw0, hXe] at hX0
  rw [hw0] at hk0
  have h0 := h.keep hk0
  have HK0 := hide hk0
  have H0 := hide h0
  have H := hide h
  have HX := hide hX0
  have HKP := hide (fun (w' : World) (hk : Keep [] w w') => h.keep hk)
  obtain ⟨nn, hnn⟩ : ∃ nn, p.n = nn := ⟨_, rfl⟩
  have HN := hide hnn
  have q0 : ∀ m, (w0.drewN m).cell? ⟨nn, 0, none⟩ = some (.map (some p.bo)) := fun m => by rw [← hnn]; exact (h0.box.drewN m).cell 0
  have q2 : ∀ m, (w0.drewN m).cell? ⟨nn, 2, none⟩ = some (.map (some p.bt)) := fun m => by rw [← hnn]; exact (h0.box.drewN m).cell 2
  have y0 : ∀ m, (w0.drewN m).cell? ⟨X, 0, none⟩ = some (.int .i64 5) := fun m => (hX0.drewN m).cell 0
  have y1 : ∀ m, (w0.drewN m).cell? ⟨X, 1, none⟩ = some (.int .u32 id) := fun m => (hX0.drewN m).cell 1
  have y2 : ∀ m, (w0.drewN m).cell? ⟨X, 2, none⟩ = some (.int .u8 code) := fun m => (hX0.drewN m).cell 2
  have ql : ∀ m, (Instr.lookup 57 (.map (some p.bo)) (.int .u32 id) false).run Tryd.prog (w0.drewN m) = .ok (ptrTo q) (w0.drewN m) := fun m => by have := lookX (h0.keep ((Keep.refl [] w0).drewN m)).op id; rw [hl] at this; exact this
  have hB0 : Blk w0 q #[.int .u32 xi, .string x1, .string x2, .int .i64 x3, .bool x4, .bool x5] ExT := by
    obtain ⟨y, hy, hb⟩ := h0.op.at_ id q hl
    rw [hM] at hy; cases hy; exact hb
  have HB := hide hB0
  have HQL := hide hl
  have z4 : ∀ m, (w0.drewN m).cell? ⟨q, 4, none⟩ = some (.bool x4) := fun m => (hB0.drewN m).cell 4
  have zf : ∀ m, (w0.drewN m).frozen? ⟨q, 4, none⟩ = false := fun m => (hB0.drewN m).frozen 4 (by simp)
  have z5 : ∀ m, (w0.drewN m).cell? ⟨q, 5, none⟩ = some (.bool x5) := fun m => (hB0.drewN m).cell 5
  have zg : ∀ m, (w0.drewN m).frozen? ⟨q, 5, none⟩ = false := fun m => (hB0.drewN m).frozen 5 (by simp)
  rw [hnn]
  clear h0 hk0 h hnn
  go_enter Tryd.func17, Tryd.ntmps17
  go_wp2_with fail
  clear hw0
  go_quiet (fail)
  go_wp2_with fail
  refine (HG.out _).mono ?_
  rintro e w3 ⟨rfl, rfl⟩
  go_wp2_with fail
  go_end0
  have hfin : ∀ m, Sd W ((w0.drewN m).setCell ⟨q, 4, none⟩ (.bool true)) p { S with M := upM S.M id (some ⟨xi, x1, x2, x3, true, x5⟩) } ∧ Gone p p w ((w0.drewN m).setCell ⟨q, 4, none⟩ (.bool true)) := fun m => by
    have hb : Blk ((w0.drewN m).setCell ⟨q, 4, none⟩ (.bool true)) q (exC ⟨xi, x1, x2, x3, true, x5⟩) ExT := by
      have := (HB.out.drewN m).set 4 (.bool true)
      simpa using this
    have hf := (HKP.out _ (HK0.out.drewN m)).upx HQL.out ((Keep.refl [q] (w0.drewN m)).setCell (p := ⟨q, 4, none⟩) (fun _ => by simp) (.bool true)) hb
    exact ⟨hf.1, (Gone.same (HK0.out.drewN m)).trans hf.2⟩
  exact ⟨p, rfl, rfl, hfin _⟩
theorem lHeard_came {W w : World} {p : Pl} {S : Lg} (h : Sd W w p S) (id code : Int) (A : Option Addr) (n c : Nat) (q : Nat) (xi x3 : Int) (x1 x2 : BA) (x5 : Bool) (hl : AL.get p.l id = some q) (hM : S.M id = some ⟨xi, x1, x2, x3, true, x5⟩) (hc : 128 ≤ code) :
    Calls Tryd.prog 17 #[ptrTo p.n, akV 5 id code A n c] w (SdPost W w p ({ S with M := upM S.M id (some ⟨xi, x1, x2, x3, true, x5⟩) })) := by
  have hg : decide (code < 128) = false := by simpa using hc
  have HG := hide (fun (w : World) => show Calls Tryd.prog 30 #[.int .u8 code] w (fun e w' => e = .returned (.bool false) ∧ w' = w) from by rw [← hg]; exact lGood code w)
  clear hg
  have hX0 := Blk.new w (akC 5 id code A n c) AkT
  have hk0 := (Keep.refl [] w).alloc (.cells (akC 5 id code A n c) AkT)
  obtain ⟨X, hXe⟩ : ∃ X, w.heap.size = X := ⟨_, rfl⟩
  obtain ⟨w0, hw0⟩ : ∃ w0, w.alloc (.cells (akC 5 id code A n c) AkT) = w0 := ⟨_, rfl⟩
  rw [hw0, hXe] at hX0
  rw [hw0] at hk0
  have h0 := h.keep hk0
  have HK0 := hide hk0
  have H0 := hide h0
  have H := hide h
  have HX := hide hX0
  have HKP := hide (fun (w' : World) (hk : Keep [] w w') => h.keep hk)
  obtain ⟨nn, hnn⟩ : ∃ nn, p.n = nn := ⟨_, rfl⟩
  have HN := hide hnn
  have q0 : ∀ m, (w0.drewN m).cell? ⟨nn, 0, none⟩ = some (.map (some p.bo)) := fun m => by rw [← hnn]; exact (h0.box.drewN m).cell 0
  have q2 : ∀ m, (w0.drewN m).cell? ⟨nn, 2, none⟩ = some (.map (some p.bt)) := fun m => by rw [← hnn]; exact (h0.box.drewN m).cell 2
  have y0 : ∀ m, (w0.drewN m).cell? ⟨X, 0, none⟩ = some (.int .i64 5) := fun m => (hX0.drewN m).cell 0
  have y1 : ∀ m, (w0.drewN m).cell? ⟨X, 1, none⟩ = some (.int .u32 id) := fun m => (hX0.drewN m).cell 1
  have y2 : ∀ m, (w0.drewN m).cell? ⟨X, 2, none⟩ = some (.int .u8 code) := fun m => (hX0.drewN m).cell 2
  have ql : ∀ m, (Instr.lookup 57 (.map (some p.bo)) (.int .u32 id) false).run Tryd.prog (w0.drewN m) = .ok (ptrTo q) (w0.drewN m) := fun m => by have := lookX (h0.keep ((Keep.refl [] w0).drewN m)).op id; rw [hl] at this; exact this
  have hB0 : Blk w0 q #[.int .u32 xi, .string x1, .string x2, .int .i64 x3, .bool true, .bool x5] ExT := by
    obtain ⟨y, hy, hb⟩ := h0.op.at_ id q hl
    rw [hM] at hy; cases hy; exact hb
  have HB := hide hB0
  have HQL := hide hl
  have z4 : ∀ m, (w0.drewN m).cell? ⟨q, 4, none⟩ = some (.bool true) := fun m => (hB0.drewN m).cell 4
  have zf : ∀ m, (w0.drewN m).frozen? ⟨q, 4, none⟩ = false := fun m => (hB0.drewN m).frozen 4 (by simp)
  have z5 : ∀ m, (w0.drewN m).cell? ⟨q, 5, none⟩ = some (.bool x5) := fun m => (hB0.drewN m).cell 5
  have zg : ∀ m, (w0.drewN m).frozen? ⟨q, 5, none⟩ = false := fun m => (hB0.drewN m).frozen 5 (by simp)
  rw [hnn]
  clear h0 hk0 h hnn
  go_enter Tryd.func17, Tryd.ntmps17
  go_wp2_with fail
  clear hw0
  go_quiet (fail)
  go_wp2_with fail
  refine (HG.out _).mono ?_
  rintro e w3 ⟨rfl, rfl⟩
  go_wp2_with fail
  go_end0
  have hfin : ∀ m, Sd W ((w0.drewN m).setCell ⟨q, 4, none⟩ (.bool true)) p { S with M := upM S.M id (some ⟨xi, x1, x2, x3, true, x5⟩) } ∧ Gone p p w ((w0.drewN m).setCell ⟨q, 4, none⟩ (.bool true)) := fun m => by
    have hb : Blk ((w0.drewN m).setCell ⟨q, 4, none⟩ (.bool true)) q (exC ⟨xi, x1, x2, x3, true, x5⟩) ExT := by
      have := (HB.out.drewN m).set 4 (.bool true)
      simpa using this
    have hf := (HKP.out _ (HK0.out.drewN m)).upx HQL.out ((Keep.refl [q] (w0.drewN m)).setCell (p := ⟨q, 4, none⟩) (fun _ => by simp) (.bool true)) hb
    exact ⟨hf.1, (Gone.same (HK0.out.drewN m)).trans hf.2⟩
  exact ⟨p, rfl, rfl, hfin _⟩
theorem lHeard_ref {W w : World} {p : Pl} {S : Lg} (h : Sd W w p S) (id code : Int) (A : Option Addr) (n c : Nat) (q : Nat) (xi x3 : Int) (x1 x2 : BA) (x5 : Bool) (hl : AL.get p.l id = some q) (hM : S.M id = some ⟨xi, x1, x2, x3, false, x5⟩) (hc : 128 ≤ code) :
    Calls Tryd.prog 17 #[ptrTo p.n, akV 5 id code A n c] w (SdPost W w p ({ S with M := upM S.M id none })) := by
  have hg : decide (code < 128) = false := by simpa using hc
  have HG := hide (fun (w : World) => show Calls Tryd.prog 30 #[.int .u8 code] w (fun e w' => e = .returned (.bool false) ∧ w' = w) from by rw [← hg]; exact lGood code w)
  clear hg
  have hX0 := Blk.new w (akC 5 id code A n c) AkT
  have hk0 := (Keep.refl [] w).alloc (.cells (akC 5 id code A n c) AkT)
  obtain ⟨X, hXe⟩ : ∃ X, w.heap.size = X := ⟨_, rfl⟩
  obtain ⟨w0, hw0⟩ : ∃ w0, w.alloc (.cells (akC 5 id code A n c) AkT) = w0 := ⟨_, rfl⟩
  rw [hw0, hXe] at hX0
  rw [hw0] at hk0
  have h0 := h.keep hk0
  have HK0 := hide hk0
  have H0 := hide h0
  have H := hide h
  have HX := hide hX0
  have HKP := hide (fun (w' : World) (hk : Keep [] w w') => h.keep hk)
  obtain ⟨nn, hnn⟩ : ∃ nn, p.n = nn := ⟨_, rfl⟩
  have HN := hide hnn
  have q0 : ∀ m, (w0.drewN m).cell? ⟨nn, 0, none⟩ = some (.map (some p.bo)) := fun m => by rw [← hnn]; exact (h0.box.drewN m).cell 0
  have q2 : ∀ m, (w0.drewN m).cell? ⟨nn, 2, none⟩ = some (.map (some p.bt)) := fun m => by rw [← hnn]; exact (h0.box.drewN m).cell 2
  have y0 : ∀ m, (w0.drewN m).cell? ⟨X, 0, none⟩ = some (.int .i64 5) := fun m => (hX0.drewN m).cell 0
  have y1 : ∀ m, (w0.drewN m).cell? ⟨X, 1, none⟩ = some (.int .u32 id) := fun m => (hX0.drewN m).cell 1
  have y2 : ∀ m, (w0.drewN m).cell? ⟨X, 2, none⟩ = some (.int .u8 code) := fun m => (hX0.drewN m).cell 2
  have ql : ∀ m, (Instr.lookup 57 (.map (some p.bo)) (.int .u32 id) false).run Tryd.prog (w0.drewN m) = .ok (ptrTo q) (w0.drewN m) := fun m => by have := lookX (h0.keep ((Keep.refl [] w0).drewN m)).op id; rw [hl] at this; exact this
  have hB0 : Blk w0 q #[.int .u32 xi, .string x1, .string x2, .int .i64 x3, .bool false, .bool x5] ExT := by
    obtain ⟨y, hy, hb⟩ := h0.op.at_ id q hl
    rw [hM] at hy; cases hy; exact hb
  have HB := hide hB0
  have HQL := hide hl
  have z4 : ∀ m, (w0.drewN m).cell? ⟨q, 4, none⟩ = some (.bool false) := fun m => (hB0.drewN m).cell 4
  have zf : ∀ m, (w0.drewN m).frozen? ⟨q, 4, none⟩ = false := fun m => (hB0.drewN m).frozen 4 (by simp)
  have z5 : ∀ m, (w0.drewN m).cell? ⟨q, 5, none⟩ = some (.bool x5) := fun m => (hB0.drewN m).cell 5
  have zg : ∀ m, (w0.drewN m).frozen? ⟨q, 5, none⟩ = false := fun m => (hB0.drewN m).frozen 5 (by simp)
  rw [hnn]
  clear h0 hk0 h hnn
  go_enter Tryd.func17, Tryd.ntmps17
  go_wp2_with fail
  clear hw0
  go_quiet (fail)
  go_wp2_with fail
  refine (HG.out _).mono ?_
  rintro e w3 ⟨rfl, rfl⟩
  go_wp2_with fail
  obtain ⟨w1, hw1⟩ : ∃ w1, w0.drewN nq = w1 := ⟨_, rfl⟩
  have hk1 : Keep [] w0 w1 := by rw [← hw1]; exact (Keep.refl [] w0).drewN nq
  rw [hw1]
  have h1 := H0.out.keep hk1.drew
  obtain ⟨wu, hru, hMu, hKu, hzu⟩ := run_delete_map (P := Tryd.prog) (KeyLaw.int Tryd.underlying22) Tryd.underlying57 h1.op.map id 0
  have s0 : w1.cell? ⟨nn, 0, none⟩ = some (.map (some p.bo)) := by have := (H0.out.keep hk1).box.cell 0; rw [HN.out] at this; exact this
  have s1 : w1.cell? ⟨X, 1, none⟩ = some (.int .u32 id) := (HX.out.keep hk1 (by simp)).cell 1
  have u0 : wu.cell? ⟨nn, 0, none⟩ = some (.map (some p.bo)) := by have := (h1.box.keep hKu (by simp; exact h1.nbo)).cell 0; rw [HN.out] at this; exact this
  have u1 : wu.cell? ⟨X, 1, none⟩ = some (.int .u32 id) := ((HX.out.keep hk1.drew (by simp)).keep hKu (by simp; exact (h1.op.map.ne_blk (HX.out.keep hk1.drew (by simp))))).cell 1
  have hfin := h1.delx hKu hMu
  have HF := hide (And.intro hfin.1 ((Gone.same (p := p) (HK0.out.then hk1.drew)).trans hfin.2))
  clear hMu hKu hzu h1 hfin hk1 hw1 q0 q2 y0 y1 y2 ql
  go_region_held3 (fun w' => w'.cell? ⟨nn, 0, none⟩ = some (.map (some p.bo)) ∧ w'.cell? ⟨X, 1, none⟩ = some (.int .u32 id))
    (first | exact ⟨s0, s1⟩ | exact ⟨u0, u1⟩)
    (fail)
  all_goals go_wp2_with fail
  all_goals
    go_end0
    exact ⟨{ p with l := AL.del p.l id }, rfl, rfl, HF.out⟩
theorem lHeard_four {W w : World} {p : Pl} {S : Lg} (h : Sd W w p S) (id code : Int) (A : Option Addr) (n c : Nat) (q : Nat) (xi x3 : Int) (x1 x2 : BA) (x4 x5 : Bool) (hl : AL.get p.l id = some q) (hM : S.M id = some ⟨xi, x1, x2, x3, x4, x5⟩) :
    Calls Tryd.prog 17 #[ptrTo p.n, akV 4 id code A n c] w (SdPost W w p (S)) := by
  have hX0 := Blk.new w (akC 4 id code A n c) AkT
  have hk0 := (Keep.refl [] w).alloc (.cells (akC 4 id code A n c) AkT)
  obtain ⟨X, hXe⟩ : ∃ X, w.heap.size = X := ⟨_, rfl⟩
  obtain ⟨w0, hw0⟩ : ∃ w0, w.alloc (.cells (akC 4 id code A n c) AkT) = w0 := ⟨_, rfl⟩
  rw [hw0, hXe] at hX0
  rw [hw0] at hk0
  have h0 := h.keep hk0
  have HK0 := hide hk0
  have H0 := hide h0
  have H := hide h
  have HX := hide hX0
  have HKP := hide (fun (w' : World) (hk : Keep [] w w') => h.keep hk)
  obtain ⟨nn, hnn⟩ : ∃ nn, p.n = nn := ⟨_, rfl⟩
  have HN := hide hnn
  have q0 : ∀ m, (w0.drewN m).cell? ⟨nn, 0, none⟩ = some (.map (some p.bo)) := fun m => by rw [← hnn]; exact (h0.box.drewN m).cell 0
  have q2 : ∀ m, (w0.drewN m).cell? ⟨nn, 2, none⟩ = some (.map (some p.bt)) := fun m => by rw [← hnn]; exact (h0.box.drewN m).cell 2
  have y0 : ∀ m, (w0.drewN m).cell? ⟨X, 0, none⟩ = some (.int .i64 4) := fun m => (hX0.drewN m).cell 0
  have y1 : ∀ m, (w0.drewN m).cell? ⟨X, 1, none⟩ = some (.int .u32 id) := fun m => (hX0.drewN m).cell 1
  have y2 : ∀ m, (w0.drewN m).cell? ⟨X, 2, none⟩ = some (.int .u8 code) := fun m => (hX0.drewN m).cell 2
  have ql : ∀ m, (Instr.lookup 57 (.map (some p.bo)) (.int .u32 id) false).run Tryd.prog (w0.drewN m) = .ok (ptrTo q) (w0.drewN m) := fun m => by have := lookX (h0.keep ((Keep.refl [] w0).drewN m)).op id; rw [hl] at this; exact this
  have hB0 : Blk w0 q #[.int .u32 xi, .string x1, .string x2, .int .i64 x3, .bool x4, .bool x5] ExT := by
    obtain ⟨y, hy, hb⟩ := h0.op.at_ id q hl
    rw [hM] at hy; cases hy; exact hb
  have HB := hide hB0
  have HQL := hide hl
  have z4 : ∀ m, (w0.drewN m).cell? ⟨q, 4, none⟩ = some (.bool x4) := fun m => (hB0.drewN m).cell 4
  have zf : ∀ m, (w0.drewN m).frozen? ⟨q, 4, none⟩ = false := fun m => (hB0.drewN m).frozen 4 (by simp)
  have z5 : ∀ m, (w0.drewN m).cell? ⟨q, 5, none⟩ = some (.bool x5) := fun m => (hB0.drewN m).cell 5
  have zg : ∀ m, (w0.drewN m).frozen? ⟨q, 5, none⟩ = false := fun m => (hB0.drewN m).frozen 5 (by simp)
  rw [hnn]
  clear h0 hk0 h hnn
  go_enter Tryd.func17, Tryd.ntmps17
  go_wp2_with fail
  clear hw0
  go_quiet (fail)
  go_wp2_with fail
  go_end0
  exact ⟨p, rfl, rfl, HKP.out _ (HK0.out.drewN _), Gone.same (HK0.out.drewN _)⟩
theorem lHeard_early {W w : World} {p : Pl} {S : Lg} (h : Sd W w p S) (id code : Int) (A : Option Addr) (n c : Nat) (q : Nat) (xi x3 : Int) (x1 x2 : BA) (x5 : Bool) (hl : AL.get p.l id = some q) (hM : S.M id = some ⟨xi, x1, x2, x3, false, x5⟩) :
    Calls Tryd.prog 17 #[ptrTo p.n, akV 7 id code A n c] w (SdPost W w p (S)) := by
  have hX0 := Blk.new w (akC 7 id code A n c) AkT
  have hk0 := (Keep.refl [] w).alloc (.cells (akC 7 id code A n c) AkT)
  obtain ⟨X, hXe⟩ : ∃ X, w.heap.size = X := ⟨_, rfl⟩
  obtain ⟨w0, hw0⟩ : ∃ w0, w.alloc (.cells (akC 7 id code A n c) AkT) = w0 := ⟨_, rfl⟩
  rw [hw0, hXe] at hX0
  rw [hw0] at hk0
  have h0 := h.keep hk0
  have HK0 := hide hk0
  have H0 := hide h0
  have H := hide h
  have HX := hide hX0
  have HKP := hide (fun (w' : World) (hk : Keep [] w w') => h.keep hk)
  obtain ⟨nn, hnn⟩ : ∃ nn, p.n = nn := ⟨_, rfl⟩
  have HN := hide hnn
  have q0 : ∀ m, (w0.drewN m).cell? ⟨nn, 0, none⟩ = some (.map (some p.bo)) := fun m => by rw [← hnn]; exact (h0.box.drewN m).cell 0
  have q2 : ∀ m, (w0.drewN m).cell? ⟨nn, 2, none⟩ = some (.map (some p.bt)) := fun m => by rw [← hnn]; exact (h0.box.drewN m).cell 2
  have y0 : ∀ m, (w0.drewN m).cell? ⟨X, 0, none⟩ = some (.int .i64 7) := fun m => (hX0.drewN m).cell 0
  have y1 : ∀ m, (w0.drewN m).cell? ⟨X, 1, none⟩ = some (.int .u32 id) := fun m => (hX0.drewN m).cell 1
  have y2 : ∀ m, (w0.drewN m).cell? ⟨X, 2, none⟩ = some (.int .u8 code) := fun m => (hX0.drewN m).cell 2
  have ql : ∀ m, (Instr.lookup 57 (.map (some p.bo)) (.int .u32 id) false).run Tryd.prog (w0.drewN m) = .ok (ptrTo q) (w0.drewN m) := fun m => by have := lookX (h0.keep ((Keep.refl [] w0).drewN m)).op id; rw [hl] at this; exact this
  have hB0 : Blk w0 q #[.int .u32 xi, .string x1, .string x2, .int .i64 x3, .bool false, .bool x5] ExT := by
    obtain ⟨y, hy, hb⟩ := h0.op.at_ id q hl
    rw [hM] at hy; cases hy; exact hb
  have HB := hide hB0
  have HQL := hide hl
  have z4 : ∀ m, (w0.drewN m).cell? ⟨q, 4, none⟩ = some (.bool false) := fun m => (hB0.drewN m).cell 4
  have zf : ∀ m, (w0.drewN m).frozen? ⟨q, 4, none⟩ = false := fun m => (hB0.drewN m).frozen 4 (by simp)
  have z5 : ∀ m, (w0.drewN m).cell? ⟨q, 5, none⟩ = some (.bool x5) := fun m => (hB0.drewN m).cell 5
  have zg : ∀ m, (w0.drewN m).frozen? ⟨q, 5, none⟩ = false := fun m => (hB0.drewN m).frozen 5 (by simp)
  rw [hnn]
  clear h0 hk0 h hnn
  go_enter Tryd.func17, Tryd.ntmps17
  go_wp2_with fail
  clear hw0
  go_quiet (fail)
  go_wp2_with fail
  go_end0
  exact ⟨p, rfl, rfl, HKP.out _ (HK0.out.drewN _), Gone.same (HK0.out.drewN _)⟩
end Go.Proofs.YtjhhnidfmoejdaaDoor
