import Derived.Test.YtjhhnidfmoejdaaDoorLw
import Derived.Test.YtjhhnidfmoejdaaDoorLm
import Derived.Deep.QuietTactic
import Derived.BigQuiet
import Derived.Deep.RegionHeld3
namespace Go.Proofs.YtjhhnidfmoejdaaDoor
open Go.RowKit Go.Proofs.YtjhhnidfmoejdaaDoor.PLedgerPlays Go.Proofs.YtjhhnidfmoejdaaDoorW.PrintWords Go.Proofs.YtjhhnidfmoejdaaDoorW.PrintLast
set_option maxRecDepth 10000
set_option linter.unusedVariables false
set_option maxHeartbeats 2000000
abbrev PbT : Nat := 29
abbrev AkT : Nat := 34
abbrev pubC (d rt : Bool) (q id : Int) (A : Option Addr) (n c : Nat) (tp pl : BA) : Array Value := #[.bool d, .bool rt, .int .u8 q, .int .u32 id, .slice A n c, .string tp, .string pl]
abbrev pubV (d rt : Bool) (q id : Int) (A : Option Addr) (n c : Nat) (tp pl : BA) : Value := .agg (pubC d rt q id A n c tp pl)
def Lg.wrong (S : Lg) (s : BA) (id : Int) : Lg := { S with er := S.er ++ [msg s id] }
abbrev sTwice : BA := ⟨#[98, 111, 117, 110, 100, 32, 116, 119, 105, 99, 101]⟩
abbrev sNever : BA := ⟨#[110, 101, 118, 101, 114, 32, 98, 111, 117, 110, 100]⟩
abbrev sWhen : BA := ⟨#[115, 101, 110, 116, 32, 119, 104, 101, 110, 32, 114, 101, 99, 101, 105, 118, 101, 100]⟩
abbrev sOther : BA := ⟨#[97, 110, 111, 116, 104, 101, 114, 32, 109, 101, 115, 115, 97, 103, 101]⟩
abbrev sRel : BA := ⟨#[114, 101, 108, 101, 97, 115, 101, 100]⟩
def Lg.sent (S : Lg) (d : Bool) (q id : Int) (tp pl : BA) : Lg :=
  if q ≠ 2 then S else
  match S.M id with
  | some x => if d = false then S.wrong sTwice id else if x.f4 = true then S.wrong sWhen id else if x.f1 ≠ tp ∨ x.f2 ≠ pl then S.wrong sOther id else { S with M := upM S.M id (some { x with f3 := x.f3 + 1 }) }
  | none => if d = false then { S with M := upM S.M id (some ⟨id, tp, pl, 1, false, false⟩) } else S.wrong sNever id
theorem zeroEx (w : World) : (zeroValue 64).run Tryd.prog w = .ok (.pointer none) w := by kernel_rfl
theorem lookX {w : World} {b : Nat} {l : List (Int × Nat)} {M : Int → Option SX} (h : OpAt w b l M) (k : Int) : (Instr.lookup 57 (.map (some b)) (.int .u32 k) false).run Tryd.prog w = .ok (match AL.get l k with | some q => ptrTo q | none => .pointer none) w := by
  have := run_lookup_map (KeyLaw.int Tryd.underlying22) Tryd.underlying57 h.map (zeroEx w) k false
  rw [this]
  cases AL.get l k <;> rfl
def SdPost (W w : World) (p : Pl) (S' : Lg) : Ending → World → Prop := Px fun (p' : Pl) e w' => e = .returned (.tuple #[]) ∧ p'.n = p.n ∧ Sd W w' p' S' ∧ Gone p p' w w'
theorem lSent_not {W w : World} {p : Pl} {S : Lg} (h : Sd W w p S) (d rt : Bool) (q id : Int) (A : Option Addr) (n c : Nat) (tp pl : BA) (hq : q ≠ 2) :
    Calls Tryd.prog 15 #[ptrTo p.n, pubV d rt q id A n c tp pl] w (SdPost W w p S) := by
  have b1 : (q == 2) = false := by simpa using hq
  have hX := Blk.new w (pubC d rt q id A n c tp pl) PbT
  have hk := (Keep.refl [] w).alloc (.cells (pubC d rt q id A n c tp pl) PbT)
  have x2 : (w.alloc (.cells (pubC d rt q id A n c tp pl) PbT)).cell? ⟨w.heap.size, 2, none⟩ = some (.int .u8 q) := hX.cell 2
  have hS := h.keep hk
  have hG := Gone.same (p := p) hk
  obtain ⟨w0, hw0⟩ : ∃ w0, w.alloc (.cells (pubC d rt q id A n c tp pl) PbT) = w0 := ⟨_, rfl⟩
  rw [hw0] at x2 hS hG
  have HF := hide (And.intro hS hG)
  clear hX hk h hS hG
  go_enter Tryd.func15, Tryd.ntmps15
  go_wp2_with fail
  go_end0
  exact ⟨p, rfl, rfl, HF.out.1, HF.out.2⟩
theorem lSent_new {W w : World} {p : Pl} {S : Lg} (h : Sd W w p S) (rt : Bool) (id : Int) (A : Option Addr) (n c : Nat) (tp pl : BA) (hl : AL.get p.l id = none) :
    Calls Tryd.prog 15 #[ptrTo p.n, pubV false rt 2 id A n c tp pl] w (SdPost W w p { S with M := upM S.M id (some ⟨id, tp, pl, 1, false, false⟩) }) := by
  obtain ⟨d, hd⟩ : ∃ d, false = d := ⟨_, rfl⟩
  rw [hd]
  have hX0 := Blk.new w (pubC d rt 2 id A n c tp pl) PbT
  have hk0 := (Keep.refl [] w).alloc (.cells (pubC d rt 2 id A n c tp pl) PbT)
  have hXn : w.heap.size ∉ ([] : List Nat) := by simp
  obtain ⟨X, hXe⟩ : ∃ X, w.heap.size = X := ⟨_, rfl⟩
  obtain ⟨w0, hw0⟩ : ∃ w0, w.alloc (.cells (pubC d rt 2 id A n c tp pl) PbT) = w0 := ⟨_, rfl⟩
  rw [hw0, hXe] at hX0
  rw [hw0] at hk0
  have h0 := h.keep hk0
  have HS := hide (fun (w' : World) (hk : Keep [] w0 w') => show w'.cell? ⟨p.n, 0, none⟩ = some (.map (some p.bo)) ∧ w'.cell? ⟨X, 0, none⟩ = some (.bool d) ∧ w'.cell? ⟨X, 3, none⟩ = some (.int .u32 id) ∧ w'.cell? ⟨X, 5, none⟩ = some (.string tp) ∧ w'.cell? ⟨X, 6, none⟩ = some (.string pl) ∧ (Instr.lookup 57 (.map (some p.bo)) (.int .u32 id) false).run Tryd.prog w' = .ok (match AL.get p.l id with | some q => ptrTo q | none => .pointer none) w' from ⟨(h0.keep hk).box.cell 0, (hX0.keep hk (by simp)).cell 0, (hX0.keep hk (by simp)).cell 3, (hX0.keep hk (by simp)).cell 5, (hX0.keep hk (by simp)).cell 6, lookX (h0.keep hk).op id⟩)
  have xq2 : w0.cell? ⟨X, 2, none⟩ = some (.int .u8 2) := hX0.cell 2
  have HK0 := hide hk0
  have H0 := hide h0
  have H := hide h
  have HX := hide hX0
  obtain ⟨nn, hnn⟩ : ∃ nn, p.n = nn := ⟨_, rfl⟩
  rw [hnn] at HS
  have HN := hide hnn
  rw [hl] at HS
  simp only at HS
  subst hd
  have q0 : ∀ m, (w0.drewN m).cell? ⟨nn, 0, none⟩ = some (.map (some p.bo)) := fun m => (HS.out _ ((Keep.refl [] w0).drewN m)).1
  have y0 : ∀ m, (w0.drewN m).cell? ⟨X, 0, none⟩ = some (.bool false) := fun m => (HS.out _ ((Keep.refl [] w0).drewN m)).2.1
  have y3 : ∀ m, (w0.drewN m).cell? ⟨X, 3, none⟩ = some (.int .u32 id) := fun m => (HS.out _ ((Keep.refl [] w0).drewN m)).2.2.1
  have y5 : ∀ m, (w0.drewN m).cell? ⟨X, 5, none⟩ = some (.string tp) := fun m => (HS.out _ ((Keep.refl [] w0).drewN m)).2.2.2.1
  have y6 : ∀ m, (w0.drewN m).cell? ⟨X, 6, none⟩ = some (.string pl) := fun m => (HS.out _ ((Keep.refl [] w0).drewN m)).2.2.2.2.1
  have ql : ∀ m, (Instr.lookup 57 (.map (some p.bo)) (.int .u32 id) false).run Tryd.prog (w0.drewN m) = .ok (.pointer none) (w0.drewN m) := fun m => (HS.out _ ((Keep.refl [] w0).drewN m)).2.2.2.2.2
  rw [hnn]
  clear h0 hk0 h hX0 hnn hXn
  go_enter Tryd.func15, Tryd.ntmps15
  go_wp2_with fail
  clear hw0
  go_quiet (fail)
  go_wp2_with fail
  obtain ⟨w1, hw1⟩ : ∃ w1, w0.drewN nq = w1 := ⟨_, rfl⟩
  have hk1 : Keep [] w0 w1 := by rw [← hw1]; exact (Keep.refl [] w0).drewN nq
  rw [hw1]
  have h1 := H0.out.keep hk1
  have hXl := (HX.out.keep hk1 (by simp))
  have hE := (Blk.new w1 (exC ⟨id, tp, pl, 1, false, false⟩) ExT).drew
  have hkE := ((Keep.refl [] w1).alloc (.cells (exC ⟨id, tp, pl, 1, false, false⟩) ExT)).drew
  obtain ⟨wu, hru, hMu, hKu, hzu⟩ := run_mapUpdate_map (P := Tryd.prog) (KeyLaw.int Tryd.underlying22) Tryd.underlying57 (h1.keep hkE).op.map id w1.heap.size
  have hu : Keep [p.bo] w0 wu := (hk1.mono (by simp)).then ((hkE.mono (by simp)).then hKu)
  have hXu := HX.out.keep hu (by simp; exact fun e => (H0.out.op.map.ne_blk HX.out) e)
  have hNu := H0.out.box.keep hu (by simp; exact H0.out.nbo)
  rw [HN.out] at hNu
  have u0 : wu.cell? ⟨nn, 0, none⟩ = some (.map (some p.bo)) := hNu.cell 0
  have u3 : wu.cell? ⟨X, 3, none⟩ = some (.int .u32 id) := hXu.cell 3
  have u5 : wu.cell? ⟨X, 5, none⟩ = some (.string tp) := hXu.cell 5
  have u6 : wu.cell? ⟨X, 6, none⟩ = some (.string pl) := hXu.cell 6
  have HU := hide (And.intro hMu (And.intro hKu (And.intro hkE (And.intro hE hk1))))
  have HS1 := hide (fun (w' : World) (hk : Keep [] w1 w') => show w'.cell? ⟨nn, 0, none⟩ = some (.map (some p.bo)) ∧ w'.cell? ⟨X, 3, none⟩ = some (.int .u32 id) ∧ w'.cell? ⟨X, 5, none⟩ = some (.string tp) ∧ w'.cell? ⟨X, 6, none⟩ = some (.string pl) from ⟨(HS.out _ (hk1.then hk)).1, (HS.out _ (hk1.then hk)).2.2.1, (HS.out _ (hk1.then hk)).2.2.2.1, (HS.out _ (hk1.then hk)).2.2.2.2.1⟩)
  clear q0 y0 y3 y5 y6 ql hMu hKu hzu hkE hE hXu hNu hu h1 hXl hw1 hk1
  go_region_held3 (fun w' => w'.cell? ⟨nn, 0, none⟩ = some (.map (some p.bo)) ∧ w'.cell? ⟨X, 3, none⟩ = some (.int .u32 id) ∧ w'.cell? ⟨X, 5, none⟩ = some (.string tp) ∧ w'.cell? ⟨X, 6, none⟩ = some (.string pl))
    (first | with_reducible exact HS1.out _ (Keep.refl _ _).drew | with_reducible exact HS1.out _ ((Keep.refl _ _).alloc _).drew | exact ⟨u0, u3, u5, u6⟩)
    (fail)
  all_goals go_wp2_with fail
  all_goals
    go_end0
    obtain ⟨hMu, hKu, hkE, hE, hk1⟩ := HU.out
    have hfin := H.out.addx (w1 := (w1.alloc (.cells (exC ⟨id, tp, pl, 1, false, false⟩) ExT)).drew) (x := ⟨id, tp, pl, 1, false, false⟩) (HK0.out.then (hk1.then hkE)) (q := w1.heap.size) (Nat.le_trans HK0.out.size hk1.size) hE hKu hMu
    exact ⟨{ p with l := AL.set p.l id w1.heap.size }, rfl, rfl, hfin⟩
theorem lSent_never {W w : World} {p : Pl} {S : Lg} (hT : Tab W) (h : Sd W w p S) (rt : Bool) (id : Int) (hi0 : 0 ≤ id) (hi1 : id ≤ 4294967295) (hE : S.er.length < 100000) (A : Option Addr) (n c : Nat) (tp pl : BA) (hl : AL.get p.l id = none) :
    Calls Tryd.prog 15 #[ptrTo p.n, pubV true rt 2 id A n c tp pl] w (SdPost W w p (S.wrong sNever id)) := by
  obtain ⟨d, hd⟩ : ∃ d, true = d := ⟨_, rfl⟩
  rw [hd]
  have hX0 := Blk.new w (pubC d rt 2 id A n c tp pl) PbT
  have hk0 := (Keep.refl [] w).alloc (.cells (pubC d rt 2 id A n c tp pl) PbT)
  have hXn : w.heap.size ∉ ([] : List Nat) := by simp
  obtain ⟨X, hXe⟩ : ∃ X, w.heap.size = X := ⟨_, rfl⟩
  obtain ⟨w0, hw0⟩ : ∃ w0, w.alloc (.cells (pubC d rt 2 id A n c tp pl) PbT) = w0 := ⟨_, rfl⟩
  rw [hw0, hXe] at hX0
  rw [hw0] at hk0
  have h0 := h.keep hk0
  have HS := hide (fun (w' : World) (hk : Keep [] w0 w') => show w'.cell? ⟨p.n, 0, none⟩ = some (.map (some p.bo)) ∧ w'.cell? ⟨X, 0, none⟩ = some (.bool d) ∧ w'.cell? ⟨X, 3, none⟩ = some (.int .u32 id) ∧ w'.cell? ⟨X, 5, none⟩ = some (.string tp) ∧ w'.cell? ⟨X, 6, none⟩ = some (.string pl) ∧ (Instr.lookup 57 (.map (some p.bo)) (.int .u32 id) false).run Tryd.prog w' = .ok (match AL.get p.l id with | some q => ptrTo q | none => .pointer none) w' from ⟨(h0.keep hk).box.cell 0, (hX0.keep hk (by simp)).cell 0, (hX0.keep hk (by simp)).cell 3, (hX0.keep hk (by simp)).cell 5, (hX0.keep hk (by simp)).cell 6, lookX (h0.keep hk).op id⟩)
  have xq2 : w0.cell? ⟨X, 2, none⟩ = some (.int .u8 2) := hX0.cell 2
  have HK0 := hide hk0
  have H0 := hide h0
  have H := hide h
  have HX := hide hX0
  obtain ⟨nn, hnn⟩ : ∃ nn, p.n = nn := ⟨_, rfl⟩
  rw [hnn] at HS
  have HN := hide hnn
  rw [hl] at HS
  simp only at HS
  subst hd
  have q0 : ∀ m, (w0.drewN m).cell? ⟨nn, 0, none⟩ = some (.map (some p.bo)) := fun m => (HS.out _ ((Keep.refl [] w0).drewN m)).1
  have y0 : ∀ m, (w0.drewN m).cell? ⟨X, 0, none⟩ = some (.bool true) := fun m => (HS.out _ ((Keep.refl [] w0).drewN m)).2.1
  have y3 : ∀ m, (w0.drewN m).cell? ⟨X, 3, none⟩ = some (.int .u32 id) := fun m => (HS.out _ ((Keep.refl [] w0).drewN m)).2.2.1
  have y5 : ∀ m, (w0.drewN m).cell? ⟨X, 5, none⟩ = some (.string tp) := fun m => (HS.out _ ((Keep.refl [] w0).drewN m)).2.2.2.1
  have y6 : ∀ m, (w0.drewN m).cell? ⟨X, 6, none⟩ = some (.string pl) := fun m => (HS.out _ ((Keep.refl [] w0).drewN m)).2.2.2.2.1
  have ql : ∀ m, (Instr.lookup 57 (.map (some p.bo)) (.int .u32 id) false).run Tryd.prog (w0.drewN m) = .ok (.pointer none) (w0.drewN m) := fun m => (HS.out _ ((Keep.refl [] w0).drewN m)).2.2.2.2.2
  have HW := hide (show ∀ s : BA, s.size ≤ 100 → ∀ w', Keep [] w w' → Calls Tryd.prog 16 #[ptrTo nn, .string s, .int .u32 id] w' (SdPost W w' p (S.wrong s id)) from fun s hs w' hk => by
    rw [← hnn]
    refine (lWrong hT (h.keep hk) s hs id hi0 hi1 hE).mono ?_
    rintro e w2 ⟨v, rfl, h1, h2⟩
    exact ⟨{ p with ev := v }, rfl, rfl, h1, h2⟩)
  rw [hnn]
  clear h0 hk0 h hX0 hnn hXn
  go_enter Tryd.func15, Tryd.ntmps15
  go_wp2_with fail
  clear hw0
  go_quiet (fail)
  go_wp2_with fail
  refine (HW.out _ (by decide) _ (HK0.out.drewN _)).mono ?_
  intro e w3 hp
  obtain ⟨p', rfl, hn', hS, hG⟩ := hp
  go_wp2_with fail
  go_end0
  exact ⟨p', rfl, hn', hS, (Gone.same (HK0.out.drewN _)).trans hG⟩
theorem lSent_twice {W w : World} {p : Pl} {S : Lg} (hT : Tab W) (h : Sd W w p S) (rt : Bool) (id : Int) (hi0 : 0 ≤ id) (hi1 : id ≤ 4294967295) (hE : S.er.length < 100000) (A : Option Addr) (n c : Nat) (tp pl : BA) (q : Nat) (xi x3 : Int) (x1 x2 : BA) (x4 x5 : Bool) (hl : AL.get p.l id = some q) (hM : S.M id = some ⟨xi, x1, x2, x3, x4, x5⟩) :
    Calls Tryd.prog 15 #[ptrTo p.n, pubV false rt 2 id A n c tp pl] w (SdPost W w p (S.wrong sTwice id)) := by
  obtain ⟨d, hd⟩ : ∃ d, false = d := ⟨_, rfl⟩
  rw [hd]
  have hX0 := Blk.new w (pubC d rt 2 id A n c tp pl) PbT
  have hk0 := (Keep.refl [] w).alloc (.cells (pubC d rt 2 id A n c tp pl) PbT)
  have hXn : w.heap.size ∉ ([] : List Nat) := by simp
  obtain ⟨X, hXe⟩ : ∃ X, w.heap.size = X := ⟨_, rfl⟩
  obtain ⟨w0, hw0⟩ : ∃ w0, w.alloc (.cells (pubC d rt 2 id A n c tp pl) PbT) = w0 := ⟨_, rfl⟩
  rw [hw0, hXe] at hX0
  rw [hw0] at hk0
  have h0 := h.keep hk0
  have HS := hide (fun (w' : World) (hk : Keep [] w0 w') => show w'.cell? ⟨p.n, 0, none⟩ = some (.map (some p.bo)) ∧ w'.cell? ⟨X, 0, none⟩ = some (.bool d) ∧ w'.cell? ⟨X, 3, none⟩ = some (.int .u32 id) ∧ w'.cell? ⟨X, 5, none⟩ = some (.string tp) ∧ w'.cell? ⟨X, 6, none⟩ = some (.string pl) ∧ (Instr.lookup 57 (.map (some p.bo)) (.int .u32 id) false).run Tryd.prog w' = .ok (match AL.get p.l id with | some q => ptrTo q | none => .pointer none) w' from ⟨(h0.keep hk).box.cell 0, (hX0.keep hk (by simp)).cell 0, (hX0.keep hk (by simp)).cell 3, (hX0.keep hk (by simp)).cell 5, (hX0.keep hk (by simp)).cell 6, lookX (h0.keep hk).op id⟩)
  have xq2 : w0.cell? ⟨X, 2, none⟩ = some (.int .u8 2) := hX0.cell 2
  have HK0 := hide hk0
  have H0 := hide h0
  have H := hide h
  have HX := hide hX0
  obtain ⟨nn, hnn⟩ : ∃ nn, p.n = nn := ⟨_, rfl⟩
  rw [hnn] at HS
  have HN := hide hnn
  rw [hl] at HS
  simp only at HS
  subst hd
  have q0 : ∀ m, (w0.drewN m).cell? ⟨nn, 0, none⟩ = some (.map (some p.bo)) := fun m => (HS.out _ ((Keep.refl [] w0).drewN m)).1
  have y0 : ∀ m, (w0.drewN m).cell? ⟨X, 0, none⟩ = some (.bool false) := fun m => (HS.out _ ((Keep.refl [] w0).drewN m)).2.1
  have y3 : ∀ m, (w0.drewN m).cell? ⟨X, 3, none⟩ = some (.int .u32 id) := fun m => (HS.out _ ((Keep.refl [] w0).drewN m)).2.2.1
  have y5 : ∀ m, (w0.drewN m).cell? ⟨X, 5, none⟩ = some (.string tp) := fun m => (HS.out _ ((Keep.refl [] w0).drewN m)).2.2.2.1
  have y6 : ∀ m, (w0.drewN m).cell? ⟨X, 6, none⟩ = some (.string pl) := fun m => (HS.out _ ((Keep.refl [] w0).drewN m)).2.2.2.2.1
  have ql : ∀ m, (Instr.lookup 57 (.map (some p.bo)) (.int .u32 id) false).run Tryd.prog (w0.drewN m) = .ok (ptrTo q) (w0.drewN m) := fun m => (HS.out _ ((Keep.refl [] w0).drewN m)).2.2.2.2.2
  have HQ := hide (fun (m : Nat) => (h0.keep ((Keep.refl [] w0).drewN m)).op.at_ id q hl)
  have HB := hide (show Blk w0 q #[.int .u32 xi, .string x1, .string x2, .int .i64 x3, .bool x4, .bool x5] ExT from by
    obtain ⟨y, hy, hb⟩ := h0.op.at_ id q hl
    rw [hM] at hy; cases hy; exact hb)
  have z1 : ∀ m, (w0.drewN m).cell? ⟨q, 1, none⟩ = some (.string x1) := fun m => (HB.out.drewN m).cell 1
  have z2 : ∀ m, (w0.drewN m).cell? ⟨q, 2, none⟩ = some (.string x2) := fun m => (HB.out.drewN m).cell 2
  have z3 : ∀ m, (w0.drewN m).cell? ⟨q, 3, none⟩ = some (.int .i64 x3) := fun m => (HB.out.drewN m).cell 3
  have z4 : ∀ m, (w0.drewN m).cell? ⟨q, 4, none⟩ = some (.bool x4) := fun m => (HB.out.drewN m).cell 4
  have zf : ∀ m, (w0.drewN m).frozen? ⟨q, 3, none⟩ = false := fun m => (HB.out.drewN m).frozen 3 (by simp)
  have HW := hide (show ∀ s : BA, s.size ≤ 100 → ∀ w', Keep [] w w' → Calls Tryd.prog 16 #[ptrTo nn, .string s, .int .u32 id] w' (SdPost W w' p (S.wrong s id)) from fun s hs w' hk => by
    rw [← hnn]
    refine (lWrong hT (h.keep hk) s hs id hi0 hi1 hE).mono ?_
    rintro e w2 ⟨v, rfl, h1, h2⟩
    exact ⟨{ p with ev := v }, rfl, rfl, h1, h2⟩)
  rw [hnn]
  clear h0 hk0 h hX0 hnn hXn
  go_enter Tryd.func15, Tryd.ntmps15
  go_wp2_with fail
  clear hw0
  go_quiet (fail)
  go_wp2_with fail
  refine (HW.out _ (by decide) _ (HK0.out.drewN _)).mono ?_
  intro e w3 hp
  obtain ⟨p', rfl, hn', hS, hG⟩ := hp
  go_wp2_with fail
  go_end0
  exact ⟨p', rfl, hn', hS, (Gone.same (HK0.out.drewN _)).trans hG⟩
theorem lSent_when {W w : World} {p : Pl} {S : Lg} (hT : Tab W) (h : Sd W w p S) (rt : Bool) (id : Int) (hi0 : 0 ≤ id) (hi1 : id ≤ 4294967295) (hE : S.er.length < 100000) (A : Option Addr) (n c : Nat) (tp pl : BA) (q : Nat) (xi x3 : Int) (x1 x2 : BA) (x5 : Bool) (hl : AL.get p.l id = some q) (hM : S.M id = some ⟨xi, x1, x2, x3, true, x5⟩) :
    Calls Tryd.prog 15 #[ptrTo p.n, pubV true rt 2 id A n c tp pl] w (SdPost W w p (S.wrong sWhen id)) := by
  obtain ⟨d, hd⟩ : ∃ d, true = d := ⟨_, rfl⟩
  rw [hd]
  have hX0 := Blk.new w (pubC d rt 2 id A n c tp pl) PbT
  have hk0 := (Keep.refl [] w).alloc (.cells (pubC d rt 2 id A n c tp pl) PbT)
  have hXn : w.heap.size ∉ ([] : List Nat) := by simp
  obtain ⟨X, hXe⟩ : ∃ X, w.heap.size = X := ⟨_, rfl⟩
  obtain ⟨w0, hw0⟩ : ∃ w0, w.alloc (.cells (pubC d rt 2 id A n c tp pl) PbT) = w0 := ⟨_, rfl⟩
  rw [hw0, hXe] at hX0
  rw [hw0] at hk0
  have h0 := h.keep hk0
  have HS := hide (fun (w' : World) (hk : Keep [] w0 w') => show w'.cell? ⟨p.n, 0, none⟩ = some (.map (some p.bo)) ∧ w'.cell? ⟨X, 0, none⟩ = some (.bool d) ∧ w'.cell? ⟨X, 3, none⟩ = some (.int .u32 id) ∧ w'.cell? ⟨X, 5, none⟩ = some (.string tp) ∧ w'.cell? ⟨X, 6, none⟩ = some (.string pl) ∧ (Instr.lookup 57 (.map (some p.bo)) (.int .u32 id) false).run Tryd.prog w' = .ok (match AL.get p.l id with | some q => ptrTo q | none => .pointer none) w' from ⟨(h0.keep hk).box.cell 0, (hX0.keep hk (by simp)).cell 0, (hX0.keep hk (by simp)).cell 3, (hX0.keep hk (by simp)).cell 5, (hX0.keep hk (by simp)).cell 6, lookX (h0.keep hk).op id⟩)
  have xq2 : w0.cell? ⟨X, 2, none⟩ = some (.int .u8 2) := hX0.cell 2
  have HK0 := hide hk0
  have H0 := hide h0
  have H := hide h
  have HX := hide hX0
  obtain ⟨nn, hnn⟩ : ∃ nn, p.n = nn := ⟨_, rfl⟩
  rw [hnn] at HS
  have HN := hide hnn
  rw [hl] at HS
  simp only at HS
  subst hd
  have q0 : ∀ m, (w0.drewN m).cell? ⟨nn, 0, none⟩ = some (.map (some p.bo)) := fun m => (HS.out _ ((Keep.refl [] w0).drewN m)).1
  have y0 : ∀ m, (w0.drewN m).cell? ⟨X, 0, none⟩ = some (.bool true) := fun m => (HS.out _ ((Keep.refl [] w0).drewN m)).2.1
  have y3 : ∀ m, (w0.drewN m).cell? ⟨X, 3, none⟩ = some (.int .u32 id) := fun m => (HS.out _ ((Keep.refl [] w0).drewN m)).2.2.1
  have y5 : ∀ m, (w0.drewN m).cell? ⟨X, 5, none⟩ = some (.string tp) := fun m => (HS.out _ ((Keep.refl [] w0).drewN m)).2.2.2.1
  have y6 : ∀ m, (w0.drewN m).cell? ⟨X, 6, none⟩ = some (.string pl) := fun m => (HS.out _ ((Keep.refl [] w0).drewN m)).2.2.2.2.1
  have ql : ∀ m, (Instr.lookup 57 (.map (some p.bo)) (.int .u32 id) false).run Tryd.prog (w0.drewN m) = .ok (ptrTo q) (w0.drewN m) := fun m => (HS.out _ ((Keep.refl [] w0).drewN m)).2.2.2.2.2
  have HQ := hide (fun (m : Nat) => (h0.keep ((Keep.refl [] w0).drewN m)).op.at_ id q hl)
  have HB := hide (show Blk w0 q #[.int .u32 xi, .string x1, .string x2, .int .i64 x3, .bool true, .bool x5] ExT from by
    obtain ⟨y, hy, hb⟩ := h0.op.at_ id q hl
    rw [hM] at hy; cases hy; exact hb)
  have z1 : ∀ m, (w0.drewN m).cell? ⟨q, 1, none⟩ = some (.string x1) := fun m => (HB.out.drewN m).cell 1
  have z2 : ∀ m, (w0.drewN m).cell? ⟨q, 2, none⟩ = some (.string x2) := fun m => (HB.out.drewN m).cell 2
  have z3 : ∀ m, (w0.drewN m).cell? ⟨q, 3, none⟩ = some (.int .i64 x3) := fun m => (HB.out.drewN m).cell 3
  have z4 : ∀ m, (w0.drewN m).cell? ⟨q, 4, none⟩ = some (.bool true) := fun m => (HB.out.drewN m).cell 4
  have zf : ∀ m, (w0.drewN m).frozen? ⟨q, 3, none⟩ = false := fun m => (HB.out.drewN m).frozen 3 (by simp)
  have HW := hide (show ∀ s : BA, s.size ≤ 100 → ∀ w', Keep [] w w' → Calls Tryd.prog 16 #[ptrTo nn, .string s, .int .u32 id] w' (SdPost W w' p (S.wrong s id)) from fun s hs w' hk => by
    rw [← hnn]
    refine (lWrong hT (h.keep hk) s hs id hi0 hi1 hE).mono ?_
    rintro e w2 ⟨v, rfl, h1, h2⟩
    exact ⟨{ p with ev := v }, rfl, rfl, h1, h2⟩)
  rw [hnn]
  clear h0 hk0 h hX0 hnn hXn
  go_enter Tryd.func15, Tryd.ntmps15
  go_wp2_with fail
  clear hw0
  go_quiet (fail)
  go_wp2_with fail
  refine (HW.out _ (by decide) _ (HK0.out.drewN _)).mono ?_
  intro e w3 hp
  obtain ⟨p', rfl, hn', hS, hG⟩ := hp
  go_wp2_with fail
  go_end0
  exact ⟨p', rfl, hn', hS, (Gone.same (HK0.out.drewN _)).trans hG⟩
theorem lSent_other1 {W w : World} {p : Pl} {S : Lg} (hT : Tab W) (h : Sd W w p S) (rt : Bool) (id : Int) (hi0 : 0 ≤ id) (hi1 : id ≤ 4294967295) (hE : S.er.length < 100000) (A : Option Addr) (n c : Nat) (tp pl : BA) (q : Nat) (xi x3 : Int) (x1 x2 : BA) (x5 : Bool) (hl : AL.get p.l id = some q) (hM : S.M id = some ⟨xi, x1, x2, x3, false, x5⟩) (hne : x1 ≠ tp) :
    Calls Tryd.prog 15 #[ptrTo p.n, pubV true rt 2 id A n c tp pl] w (SdPost W w p (S.wrong sOther id)) := by
  have n1 : (x1 == tp) = false := by rw [beq_bytes]; simpa using hne
  have n2 : (x1.toList == tp.toList) = false := by rw [ByteArray.toList_eq, ByteArray.toList_eq]; simp; intro e; exact hne (by cases x1; cases tp; simp at e; cases e; rfl)
  have n3 : ¬ x1.toList = tp.toList := by simpa using n2
  obtain ⟨d, hd⟩ : ∃ d, true = d := ⟨_, rfl⟩
  rw [hd]
  have hX0 := Blk.new w (pubC d rt 2 id A n c tp pl) PbT
  have hk0 := (Keep.refl [] w).alloc (.cells (pubC d rt 2 id A n c tp pl) PbT)
  have hXn : w.heap.size ∉ ([] : List Nat) := by simp
  obtain ⟨X, hXe⟩ : ∃ X, w.heap.size = X := ⟨_, rfl⟩
  obtain ⟨w0, hw0⟩ : ∃ w0, w.alloc (.cells (pubC d rt 2 id A n c tp pl) PbT) = w0 := ⟨_, rfl⟩
  rw [hw0, hXe] at hX0
  rw [hw0] at hk0
  have h0 := h.keep hk0
  have HS := hide (fun (w' : World) (hk : Keep [] w0 w') => show w'.cell? ⟨p.n, 0, none⟩ = some (.map (some p.bo)) ∧ w'.cell? ⟨X, 0, none⟩ = some (.bool d) ∧ w'.cell? ⟨X, 3, none⟩ = some (.int .u32 id) ∧ w'.cell? ⟨X, 5, none⟩ = some (.string tp) ∧ w'.cell? ⟨X, 6, none⟩ = some (.string pl) ∧ (Instr.lookup 57 (.map (some p.bo)) (.int .u32 id) false).run Tryd.prog w' = .ok (match AL.get p.l id with | some q => ptrTo q | none => .pointer none) w' from ⟨(h0.keep hk).box.cell 0, (hX0.keep hk (by simp)).cell 0, (hX0.keep hk (by simp)).cell 3, (hX0.keep hk (by simp)).cell 5, (hX0.keep hk (by simp)).cell 6, lookX (h0.keep hk).op id⟩)
  have xq2 : w0.cell? ⟨X, 2, none⟩ = some (.int .u8 2) := hX0.cell 2
  have HK0 := hide hk0
  have H0 := hide h0
  have H := hide h
  have HX := hide hX0
  obtain ⟨nn, hnn⟩ : ∃ nn, p.n = nn := ⟨_, rfl⟩
  rw [hnn] at HS
  have HN := hide hnn
  rw [hl] at HS
  simp only at HS
  subst hd
  have q0 : ∀ m, (w0.drewN m).cell? ⟨nn, 0, none⟩ = some (.map (some p.bo)) := fun m => (HS.out _ ((Keep.refl [] w0).drewN m)).1
  have y0 : ∀ m, (w0.drewN m).cell? ⟨X, 0, none⟩ = some (.bool true) := fun m => (HS.out _ ((Keep.refl [] w0).drewN m)).2.1
  have y3 : ∀ m, (w0.drewN m).cell? ⟨X, 3, none⟩ = some (.int .u32 id) := fun m => (HS.out _ ((Keep.refl [] w0).drewN m)).2.2.1
  have y5 : ∀ m, (w0.drewN m).cell? ⟨X, 5, none⟩ = some (.string tp) := fun m => (HS.out _ ((Keep.refl [] w0).drewN m)).2.2.2.1
  have y6 : ∀ m, (w0.drewN m).cell? ⟨X, 6, none⟩ = some (.string pl) := fun m => (HS.out _ ((Keep.refl [] w0).drewN m)).2.2.2.2.1
  have ql : ∀ m, (Instr.lookup 57 (.map (some p.bo)) (.int .u32 id) false).run Tryd.prog (w0.drewN m) = .ok (ptrTo q) (w0.drewN m) := fun m => (HS.out _ ((Keep.refl [] w0).drewN m)).2.2.2.2.2
  have HQ := hide (fun (m : Nat) => (h0.keep ((Keep.refl [] w0).drewN m)).op.at_ id q hl)
  have HB := hide (show Blk w0 q #[.int .u32 xi, .string x1, .string x2, .int .i64 x3, .bool false, .bool x5] ExT from by
    obtain ⟨y, hy, hb⟩ := h0.op.at_ id q hl
    rw [hM] at hy; cases hy; exact hb)
  have z1 : ∀ m, (w0.drewN m).cell? ⟨q, 1, none⟩ = some (.string x1) := fun m => (HB.out.drewN m).cell 1
  have z2 : ∀ m, (w0.drewN m).cell? ⟨q, 2, none⟩ = some (.string x2) := fun m => (HB.out.drewN m).cell 2
  have z3 : ∀ m, (w0.drewN m).cell? ⟨q, 3, none⟩ = some (.int .i64 x3) := fun m => (HB.out.drewN m).cell 3
  have z4 : ∀ m, (w0.drewN m).cell? ⟨q, 4, none⟩ = some (.bool false) := fun m => (HB.out.drewN m).cell 4
  have zf : ∀ m, (w0.drewN m).frozen? ⟨q, 3, none⟩ = false := fun m => (HB.out.drewN m).frozen 3 (by simp)
  have HW := hide (show ∀ s : BA, s.size ≤ 100 → ∀ w', Keep [] w w' → Calls Tryd.prog 16 #[ptrTo nn, .string s, .int .u32 id] w' (SdPost W w' p (S.wrong s id)) from fun s hs w' hk => by
    rw [← hnn]
    refine (lWrong hT (h.keep hk) s hs id hi0 hi1 hE).mono ?_
    rintro e w2 ⟨v, rfl, h1, h2⟩
    exact ⟨{ p with ev := v }, rfl, rfl, h1, h2⟩)
  rw [hnn]
  clear h0 hk0 h hX0 hnn hXn
  go_enter Tryd.func15, Tryd.ntmps15
  go_wp2_with fail
  clear hw0
  go_quiet (fail)
  go_wp2_with fail
  go_quiet (fail)
  go_wp2_with fail
  refine (HW.out _ (by decide) _ (HK0.out.drewN _)).mono ?_
  intro e w3 hp
  obtain ⟨p', rfl, hn', hS, hG⟩ := hp
  go_wp2_with fail
  go_end0
  exact ⟨p', rfl, hn', hS, (Gone.same (HK0.out.drewN _)).trans hG⟩
theorem lSent_other2 {W w : World} {p : Pl} {S : Lg} (hT : Tab W) (h : Sd W w p S) (rt : Bool) (id : Int) (hi0 : 0 ≤ id) (hi1 : id ≤ 4294967295) (hE : S.er.length < 100000) (A : Option Addr) (n c : Nat) (tp pl : BA) (q : Nat) (xi x3 : Int) (x2 : BA) (x5 : Bool) (hl : AL.get p.l id = some q) (hM : S.M id = some ⟨xi, tp, x2, x3, false, x5⟩) (hne : x2 ≠ pl) :
    Calls Tryd.prog 15 #[ptrTo p.n, pubV true rt 2 id A n c tp pl] w (SdPost W w p (S.wrong sOther id)) := by
  have n1 : (x2 == pl) = false := by rw [beq_bytes]; simpa using hne
  have n2 : (x2.toList == pl.toList) = false := by rw [ByteArray.toList_eq, ByteArray.toList_eq]; simp; intro e; exact hne (by cases x2; cases pl; simp at e; cases e; rfl)
  have n3 : ¬ x2.toList = pl.toList := by simpa using n2
  obtain ⟨d, hd⟩ : ∃ d, true = d := ⟨_, rfl⟩
  rw [hd]
  have hX0 := Blk.new w (pubC d rt 2 id A n c tp pl) PbT
  have hk0 := (Keep.refl [] w).alloc (.cells (pubC d rt 2 id A n c tp pl) PbT)
  have hXn : w.heap.size ∉ ([] : List Nat) := by simp
  obtain ⟨X, hXe⟩ : ∃ X, w.heap.size = X := ⟨_, rfl⟩
  obtain ⟨w0, hw0⟩ : ∃ w0, w.alloc (.cells (pubC d rt 2 id A n c tp pl) PbT) = w0 := ⟨_, rfl⟩
  rw [hw0, hXe] at hX0
  rw [hw0] at hk0
  have h0 := h.keep hk0
  have HS := hide (fun (w' : World) (hk : Keep [] w0 w') => show w'.cell? ⟨p.n, 0, none⟩ = some (.map (some p.bo)) ∧ w'.cell? ⟨X, 0, none⟩ = some (.bool d) ∧ w'.cell? ⟨X, 3, none⟩ = some (.int .u32 id) ∧ w'.cell? ⟨X, 5, none⟩ = some (.string tp) ∧ w'.cell? ⟨X, 6, none⟩ = some (.string pl) ∧ (Instr.lookup 57 (.map (some p.bo)) (.int .u32 id) false).run Tryd.prog w' = .ok (match AL.get p.l id with | some q => ptrTo q | none => .pointer none) w' from ⟨(h0.keep hk).box.cell 0, (hX0.keep hk (by simp)).cell 0, (hX0.keep hk (by simp)).cell 3, (hX0.keep hk (by simp)).cell 5, (hX0.keep hk (by simp)).cell 6, lookX (h0.keep hk).op id⟩)
  have xq2 : w0.cell? ⟨X, 2, none⟩ = some (.int .u8 2) := hX0.cell 2
  have HK0 := hide hk0
  have H0 := hide h0
  have H := hide h
  have HX := hide hX0
  obtain ⟨nn, hnn⟩ : ∃ nn, p.n = nn := ⟨_, rfl⟩
  rw [hnn] at HS
  have HN := hide hnn
  rw [hl] at HS
  simp only at HS
  subst hd
  have q0 : ∀ m, (w0.drewN m).cell? ⟨nn, 0, none⟩ = some (.map (some p.bo)) := fun m => (HS.out _ ((Keep.refl [] w0).drewN m)).1
  have y0 : ∀ m, (w0.drewN m).cell? ⟨X, 0, none⟩ = some (.bool true) := fun m => (HS.out _ ((Keep.refl [] w0).drewN m)).2.1
  have y3 : ∀ m, (w0.drewN m).cell? ⟨X, 3, none⟩ = some (.int .u32 id) := fun m => (HS.out _ ((Keep.refl [] w0).drewN m)).2.2.1
  have y5 : ∀ m, (w0.drewN m).cell? ⟨X, 5, none⟩ = some (.string tp) := fun m => (HS.out _ ((Keep.refl [] w0).drewN m)).2.2.2.1
  have y6 : ∀ m, (w0.drewN m).cell? ⟨X, 6, none⟩ = some (.string pl) := fun m => (HS.out _ ((Keep.refl [] w0).drewN m)).2.2.2.2.1
  have ql : ∀ m, (Instr.lookup 57 (.map (some p.bo)) (.int .u32 id) false).run Tryd.prog (w0.drewN m) = .ok (ptrTo q) (w0.drewN m) := fun m => (HS.out _ ((Keep.refl [] w0).drewN m)).2.2.2.2.2
  have HQ := hide (fun (m : Nat) => (h0.keep ((Keep.refl [] w0).drewN m)).op.at_ id q hl)
  have HB := hide (show Blk w0 q #[.int .u32 xi, .string tp, .string x2, .int .i64 x3, .bool false, .bool x5] ExT from by
    obtain ⟨y, hy, hb⟩ := h0.op.at_ id q hl
    rw [hM] at hy; cases hy; exact hb)
  have z1 : ∀ m, (w0.drewN m).cell? ⟨q, 1, none⟩ = some (.string tp) := fun m => (HB.out.drewN m).cell 1
  have z2 : ∀ m, (w0.drewN m).cell? ⟨q, 2, none⟩ = some (.string x2) := fun m => (HB.out.drewN m).cell 2
  have z3 : ∀ m, (w0.drewN m).cell? ⟨q, 3, none⟩ = some (.int .i64 x3) := fun m => (HB.out.drewN m).cell 3
  have z4 : ∀ m, (w0.drewN m).cell? ⟨q, 4, none⟩ = some (.bool false) := fun m => (HB.out.drewN m).cell 4
  have zf : ∀ m, (w0.drewN m).frozen? ⟨q, 3, none⟩ = false := fun m => (HB.out.drewN m).frozen 3 (by simp)
  have HW := hide (show ∀ s : BA, s.size ≤ 100 → ∀ w', Keep [] w w' → Calls Tryd.prog 16 #[ptrTo nn, .string s, .int .u32 id] w' (SdPost W w' p (S.wrong s id)) from fun s hs w' hk => by
    rw [← hnn]
    refine (lWrong hT (h.keep hk) s hs id hi0 hi1 hE).mono ?_
    rintro e w2 ⟨v, rfl, h1, h2⟩
    exact ⟨{ p with ev := v }, rfl, rfl, h1, h2⟩)
  rw [hnn]
  clear h0 hk0 h hX0 hnn hXn
  go_enter Tryd.func15, Tryd.ntmps15
  go_wp2_with fail
  clear hw0
  go_quiet (fail)
  go_wp2_with fail
  go_quiet (fail)
  go_wp2_with fail
  refine (HW.out _ (by decide) _ (HK0.out.drewN _)).mono ?_
  intro e w3 hp
  obtain ⟨p', rfl, hn', hS, hG⟩ := hp
  go_wp2_with fail
  go_end0
  exact ⟨p', rfl, hn', hS, (Gone.same (HK0.out.drewN _)).trans hG⟩
theorem lSent_again {W w : World} {p : Pl} {S : Lg} (hT : Tab W) (h : Sd W w p S) (rt : Bool) (id : Int) (hi0 : 0 ≤ id) (hi1 : id ≤ 4294967295) (hE : S.er.length < 100000) (A : Option Addr) (n c : Nat) (tp pl : BA) (q : Nat) (xi x3 : Int) (x5 : Bool) (hl : AL.get p.l id = some q) (hM : S.M id = some ⟨xi, tp, pl, x3, false, x5⟩) (hx : 0 ≤ x3 ∧ x3 < 1000000) :
    Calls Tryd.prog 15 #[ptrTo p.n, pubV true rt 2 id A n c tp pl] w (SdPost W w p ({ S with M := upM S.M id (some ⟨xi, tp, pl, x3 + 1, false, x5⟩) })) := by
  obtain ⟨d, hd⟩ : ∃ d, true = d := ⟨_, rfl⟩
  rw [hd]
  have hX0 := Blk.new w (pubC d rt 2 id A n c tp pl) PbT
  have hk0 := (Keep.refl [] w).alloc (.cells (pubC d rt 2 id A n c tp pl) PbT)
  have hXn : w.heap.size ∉ ([] : List Nat) := by simp
  obtain ⟨X, hXe⟩ : ∃ X, w.heap.size = X := ⟨_, rfl⟩
  obtain ⟨w0, hw0⟩ : ∃ w0, w.alloc (.cells (pubC d rt 2 id A n c tp pl) PbT) = w0 := ⟨_, rfl⟩
  rw [hw0, hXe] at hX0
  rw [hw0] at hk0
  have h0 := h.keep hk0
  have HS := hide (fun (w' : World) (hk : Keep [] w0 w') => show w'.cell? ⟨p.n, 0, none⟩ = some (.map (some p.bo)) ∧ w'.cell? ⟨X, 0, none⟩ = some (.bool d) ∧ w'.cell? ⟨X, 3, none⟩ = some (.int .u32 id) ∧ w'.cell? ⟨X, 5, none⟩ = some (.string tp) ∧ w'.cell? ⟨X, 6, none⟩ = some (.string pl) ∧ (Instr.lookup 57 (.map (some p.bo)) (.int .u32 id) false).run Tryd.prog w' = .ok (match AL.get p.l id with | some q => ptrTo q | none => .pointer none) w' from ⟨(h0.keep hk).box.cell 0, (hX0.keep hk (by simp)).cell 0, (hX0.keep hk (by simp)).cell 3, (hX0.keep hk (by simp)).cell 5, (hX0.keep hk (by simp)).cell 6, lookX (h0.keep hk).op id⟩)
  have xq2 : w0.cell? ⟨X, 2, none⟩ = some (.int .u8 2) := hX0.cell 2
  have HK0 := hide hk0
  have H0 := hide h0
  have H := hide h
  have HX := hide hX0
  obtain ⟨nn, hnn⟩ : ∃ nn, p.n = nn := ⟨_, rfl⟩
  rw [hnn] at HS
  have HN := hide hnn
  rw [hl] at HS
  simp only at HS
  subst hd
  have q0 : ∀ m, (w0.drewN m).cell? ⟨nn, 0, none⟩ = some (.map (some p.bo)) := fun m => (HS.out _ ((Keep.refl [] w0).drewN m)).1
  have y0 : ∀ m, (w0.drewN m).cell? ⟨X, 0, none⟩ = some (.bool true) := fun m => (HS.out _ ((Keep.refl [] w0).drewN m)).2.1
  have y3 : ∀ m, (w0.drewN m).cell? ⟨X, 3, none⟩ = some (.int .u32 id) := fun m => (HS.out _ ((Keep.refl [] w0).drewN m)).2.2.1
  have y5 : ∀ m, (w0.drewN m).cell? ⟨X, 5, none⟩ = some (.string tp) := fun m => (HS.out _ ((Keep.refl [] w0).drewN m)).2.2.2.1
  have y6 : ∀ m, (w0.drewN m).cell? ⟨X, 6, none⟩ = some (.string pl) := fun m => (HS.out _ ((Keep.refl [] w0).drewN m)).2.2.2.2.1
  have ql : ∀ m, (Instr.lookup 57 (.map (some p.bo)) (.int .u32 id) false).run Tryd.prog (w0.drewN m) = .ok (ptrTo q) (w0.drewN m) := fun m => (HS.out _ ((Keep.refl [] w0).drewN m)).2.2.2.2.2
  have HQ := hide (fun (m : Nat) => (h0.keep ((Keep.refl [] w0).drewN m)).op.at_ id q hl)
  have HB := hide (show Blk w0 q #[.int .u32 xi, .string tp, .string pl, .int .i64 x3, .bool false, .bool x5] ExT from by
    obtain ⟨y, hy, hb⟩ := h0.op.at_ id q hl
    rw [hM] at hy; cases hy; exact hb)
  have z1 : ∀ m, (w0.drewN m).cell? ⟨q, 1, none⟩ = some (.string tp) := fun m => (HB.out.drewN m).cell 1
  have z2 : ∀ m, (w0.drewN m).cell? ⟨q, 2, none⟩ = some (.string pl) := fun m => (HB.out.drewN m).cell 2
  have z3 : ∀ m, (w0.drewN m).cell? ⟨q, 3, none⟩ = some (.int .i64 x3) := fun m => (HB.out.drewN m).cell 3
  have z4 : ∀ m, (w0.drewN m).cell? ⟨q, 4, none⟩ = some (.bool false) := fun m => (HB.out.drewN m).cell 4
  have zf : ∀ m, (w0.drewN m).frozen? ⟨q, 3, none⟩ = false := fun m => (HB.out.drewN m).frozen 3 (by simp)
  have HH := hide (fun (w' : World) (hk : Keep [] w w') => h.keep hk)
  have HQL := hide hl
  have hwr : IntKind.i64.wrap (x3 + 1) = x3 + 1 := IntWalk.i64_in _ (by omega)
  rw [hnn]
  clear h0 hk0 h hX0 hnn hXn
  go_enter Tryd.func15, Tryd.ntmps15
  go_wp2_with fail
  clear hw0
  go_quiet (fail)
  go_wp2_with fail
  go_quiet (fail)
  go_wp2_with fail
  go_end0
  have hfin : ∀ m, Sd W ((w0.drewN m).setCell ⟨q, 3, none⟩ (.int .i64 (x3 + 1))) p { S with M := upM S.M id (some ⟨xi, tp, pl, x3 + 1, false, x5⟩) } ∧ Gone p p w ((w0.drewN m).setCell ⟨q, 3, none⟩ (.int .i64 (x3 + 1))) := fun m => by
    have hb : Blk ((w0.drewN m).setCell ⟨q, 3, none⟩ (.int .i64 (x3 + 1))) q (exC ⟨xi, tp, pl, x3 + 1, false, x5⟩) ExT := by
      have := (HB.out.drewN m).set 3 (.int .i64 (x3 + 1))
      simpa using this
    have hf := (HH.out _ (HK0.out.drewN m)).upx HQL.out ((Keep.refl [q] (w0.drewN m)).setCell (p := ⟨q, 3, none⟩) (fun _ => by simp) (.int .i64 (x3 + 1))) hb
    exact ⟨hf.1, (Gone.same (HK0.out.drewN m)).trans hf.2⟩
  exact ⟨p, rfl, rfl, hfin _⟩
end Go.Proofs.YtjhhnidfmoejdaaDoor
