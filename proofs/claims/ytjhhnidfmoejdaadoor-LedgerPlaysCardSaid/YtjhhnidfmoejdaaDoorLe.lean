import Derived.Test.YtjhhnidfmoejdaaDoorLf
namespace Go.Proofs.YtjhhnidfmoejdaaDoor
open Go.RowKit Go.Proofs.YtjhhnidfmoejdaaDoor.PLedgerPlays Go.Proofs.YtjhhnidfmoejdaaDoorW.PrintWords Go.Proofs.YtjhhnidfmoejdaaDoorW.PrintLast
set_option maxRecDepth 10000
set_option linter.unusedVariables false
set_option maxHeartbeats 2000000
def Lg.came (S : Lg) (q id : Int) : Lg :=
  if q ≠ 2 then S else { S with tk := AL.set S.tk id ((AL.get S.tk id).getD 0 + 1), nw := if (AL.get S.tk id).getD 0 = 0 then S.nw + 1 else S.nw }
theorem zInt (w : World) : (zeroValue 3).run Tryd.prog w = .ok (.int .i64 0) w := by kernel_rfl
theorem lookT {w : World} {b : Nat} {l : List (Int × Int)} (h : MapAt w b (Value.int .u32) (Value.int .i64) l) (k : Int) : (Instr.lookup 58 (.map (some b)) (.int .u32 k) false).run Tryd.prog w = .ok (.int .i64 ((AL.get l k).getD 0)) w := by
  have := run_lookup_map (KeyLaw.int Tryd.underlying22) Tryd.underlying58 h (zInt w) k false
  rw [this]
  simp [optV_int]
theorem heardPub_not {W w : World} {p : Pl} {S : Lg} (h : Sd W w p S) (d rt : Bool) (q id : Int) (hq : q ≠ 2) (A : Option Addr) (n c : Nat) (tp pl : BA) :
    Calls Tryd.prog 8 #[ptrTo p.n, .iface PkPb (pubV d rt q id A n c tp pl)] w (SdPost W w p S) := by
  have HKP := hide (fun (w' : World) (hk : Keep [] w w') => h.keep hk)
  have a1 := fun w => asYes Tryd.underlying31 (pubV d rt q id A n c tp pl) 62 w
  have b1 : (q == 2) = false := by simpa using hq
  clear h
  go_enter Tryd.func8, Tryd.ntmps8
  go_wp2_with fail
  go_end0
  exact ⟨p, rfl, rfl, HKP.out _ ((Keep.refl [] w).alloc _), Gone.same ((Keep.refl [] w).alloc _)⟩
theorem heardPub_first {W w : World} {p : Pl} {S : Lg} (h : Sd W w p S) (d rt : Bool) (id v : Int) (hv : (AL.get S.tk id).getD 0 = v) (hvb : 0 ≤ v ∧ v < 1000000) (hnb : 0 ≤ S.nw ∧ S.nw < 1000000) (hv0 : v = 0) (A : Option Addr) (n c : Nat) (tp pl : BA) :
    Calls Tryd.prog 8 #[ptrTo p.n, .iface PkPb (pubV d rt 2 id A n c tp pl)] w (SdPost W w p ({ S with tk := AL.set S.tk id (v + 1), nw := S.nw + 1 })) := by
  have b1 : (v + 1 == 1) = true := by simp; omega
  have b2 : decide (v + 1 = 1) = true := by simp; omega
  clear hv0
  have a1 := fun w => asYes Tryd.underlying31 (pubV d rt 2 id A n c tp pl) 62 w
  have hk0 := (Keep.refl [] w).alloc (.cells (pubC d rt 2 id A n c tp pl) PkPb)
  have hX0 := Blk.new w (pubC d rt 2 id A n c tp pl) PkPb
  obtain ⟨X, hXe⟩ : ∃ X, w.heap.size = X := ⟨_, rfl⟩
  obtain ⟨w0, hw0⟩ : ∃ w0, w.alloc (.cells (pubC d rt 2 id A n c tp pl) PkPb) = w0 := ⟨_, rfl⟩
  rw [hw0, hXe] at hX0
  rw [hw0] at hk0
  have h0 := h.keep hk0
  have c2 : w0.cell? ⟨p.n, 2, none⟩ = some (.map (some p.bt)) := h0.box.cell 2
  have x2 : w0.cell? ⟨X, 2, none⟩ = some (.int .u8 2) := hX0.cell 2
  have x3 : w0.cell? ⟨X, 3, none⟩ = some (.int .u32 id) := hX0.cell 3
  have lk := lookT h0.tk id
  rw [hv] at lk
  have hw1 : IntKind.i64.wrap (v + 1) = v + 1 := IntWalk.i64_in _ (by omega)
  have hw2 : IntKind.i64.wrap (S.nw + 1) = S.nw + 1 := IntWalk.i64_in _ (by omega)
  have H0 := hide h0
  have HG := hide (Gone.same (p := p) hk0)
  clear h hk0 hX0 h0 hv hvb hnb
  go_enter Tryd.func8, Tryd.ntmps8
  go_wp2_with (refine wpList_mapUpdate_map rfl _ _ _ 58 rfl 22 3 (KeyLaw.int Tryd.underlying22) Tryd.underlying58 p.bt S.tk rfl H0.out.tk id (v + 1) rfl rfl ?_; intro w1 hM1 hK1 hz1; have h1 := H0.out.tkp hK1 hM1; have d2 : w1.cell? ⟨p.n, 2, none⟩ = some (.map (some p.bt)) := h1.1.box.cell 2; have d3 : w1.cell? ⟨p.n, 3, none⟩ = some (.int .i64 S.nw) := h1.1.box.cell 3; have f3 := h1.1.box.frozen 3 (by simp); have lk1 := lookT hM1 id; simp only [AL.get_set, if_true, Option.getD_some] at lk1; have H1 := hide h1; clear h1 hM1 hK1 hz1)
  go_end0
  have h2 := H1.out.1.nwp (S.nw + 1)
  exact ⟨p, rfl, rfl, h2.1, HG.out.trans (H1.out.2.trans h2.2)⟩
theorem heardPub_more {W w : World} {p : Pl} {S : Lg} (h : Sd W w p S) (d rt : Bool) (id v : Int) (hv : (AL.get S.tk id).getD 0 = v) (hvb : 0 ≤ v ∧ v < 1000000) (hnb : 0 ≤ S.nw ∧ S.nw < 1000000) (hv0 : v ≠ 0) (A : Option Addr) (n c : Nat) (tp pl : BA) :
    Calls Tryd.prog 8 #[ptrTo p.n, .iface PkPb (pubV d rt 2 id A n c tp pl)] w (SdPost W w p ({ S with tk := AL.set S.tk id (v + 1) })) := by
  have b1 : (v + 1 == 1) = false := by simp; omega
  have b2 : decide (v + 1 = 1) = false := by simp; omega
  have a1 := fun w => asYes Tryd.underlying31 (pubV d rt 2 id A n c tp pl) 62 w
  have hk0 := (Keep.refl [] w).alloc (.cells (pubC d rt 2 id A n c tp pl) PkPb)
  have hX0 := Blk.new w (pubC d rt 2 id A n c tp pl) PkPb
  obtain ⟨X, hXe⟩ : ∃ X, w.heap.size = X := ⟨_, rfl⟩
  obtain ⟨w0, hw0⟩ : ∃ w0, w.alloc (.cells (pubC d rt 2 id A n c tp pl) PkPb) = w0 := ⟨_, rfl⟩
  rw [hw0, hXe] at hX0
  rw [hw0] at hk0
  have h0 := h.keep hk0
  have c2 : w0.cell? ⟨p.n, 2, none⟩ = some (.map (some p.bt)) := h0.box.cell 2
  have x2 : w0.cell? ⟨X, 2, none⟩ = some (.int .u8 2) := hX0.cell 2
  have x3 : w0.cell? ⟨X, 3, none⟩ = some (.int .u32 id) := hX0.cell 3
  have lk := lookT h0.tk id
  rw [hv] at lk
  have hw1 : IntKind.i64.wrap (v + 1) = v + 1 := IntWalk.i64_in _ (by omega)
  have hw2 : IntKind.i64.wrap (S.nw + 1) = S.nw + 1 := IntWalk.i64_in _ (by omega)
  have H0 := hide h0
  have HG := hide (Gone.same (p := p) hk0)
  clear h hk0 hX0 h0 hv hvb hnb
  go_enter Tryd.func8, Tryd.ntmps8
  go_wp2_with (refine wpList_mapUpdate_map rfl _ _ _ 58 rfl 22 3 (KeyLaw.int Tryd.underlying22) Tryd.underlying58 p.bt S.tk rfl H0.out.tk id (v + 1) rfl rfl ?_; intro w1 hM1 hK1 hz1; have h1 := H0.out.tkp hK1 hM1; have d2 : w1.cell? ⟨p.n, 2, none⟩ = some (.map (some p.bt)) := h1.1.box.cell 2; have d3 : w1.cell? ⟨p.n, 3, none⟩ = some (.int .i64 S.nw) := h1.1.box.cell 3; have f3 := h1.1.box.frozen 3 (by simp); have lk1 := lookT hM1 id; simp only [AL.get_set, if_true, Option.getD_some] at lk1; have H1 := hide h1; clear h1 hM1 hK1 hz1)
  go_end0
  exact ⟨p, rfl, rfl, H1.out.1, HG.out.trans H1.out.2⟩
theorem heardPub {W w : World} {p : Pl} {S : Lg} (h : Sd W w p S) (d rt : Bool) (q id : Int) (hvb : 0 ≤ (AL.get S.tk id).getD 0 ∧ (AL.get S.tk id).getD 0 < 1000000) (hnb : 0 ≤ S.nw ∧ S.nw < 1000000) (A : Option Addr) (n c : Nat) (tp pl : BA) :
    Calls Tryd.prog 8 #[ptrTo p.n, .iface PkPb (pubV d rt q id A n c tp pl)] w (SdPost W w p (S.came q id)) := by
  unfold Lg.came
  by_cases hq : q = 2
  · subst hq
    rw [if_neg (by simp)]
    by_cases hv : (AL.get S.tk id).getD 0 = 0
    · rw [if_pos hv, hv]
      exact heardPub_first h d rt id 0 hv (by omega) hnb rfl A n c tp pl
    · rw [if_neg hv]
      exact heardPub_more h d rt id _ rfl hvb hnb hv A n c tp pl
  · rw [if_pos hq]
    exact heardPub_not h d rt q id hq A n c tp pl
abbrev PkPi : Nat := 53
abbrev PkBy : Nat := 55
theorem saidPing {W w : World} {p : Pl} {S : Lg} (h : Sd W w p S) (v : Value) :
    Calls Tryd.prog 7 #[ptrTo p.n, .iface PkPi v] w (SdPost W w p S) := by
  have HS := hide h
  have a1 := fun w => asNo Tryd.underlying31 zPb (by decide : PkPi ≠ PkPb) v 62 w
  have a2 := fun w => asNo Tryd.underlying36 zAk (by decide : PkPi ≠ PkAk) v 62 w
  have a3 := fun w => asNo Tryd.underlying71 zCn (by decide : PkPi ≠ PkCn) v 62 w
  clear h
  go_enter Tryd.func7, Tryd.ntmps7
  go_wp2_with fail
  go_end0
  exact ⟨p, rfl, rfl, HS.out, Gone.same (Keep.refl _ _)⟩
theorem heardBye {W w : World} {p : Pl} {S : Lg} (h : Sd W w p S) (v : Value) :
    Calls Tryd.prog 8 #[ptrTo p.n, .iface PkBy v] w (SdPost W w p S) := by
  have HS := hide h
  have a1 := fun w => asNo Tryd.underlying31 zPb (by decide : PkBy ≠ PkPb) v 62 w
  have a2 := fun w => asNo Tryd.underlying36 zAk (by decide : PkBy ≠ PkAk) v 62 w
  clear h
  go_enter Tryd.func8, Tryd.ntmps8
  go_wp2_with fail
  go_end0
  exact ⟨p, rfl, rfl, HS.out, Gone.same (Keep.refl _ _)⟩
end Go.Proofs.YtjhhnidfmoejdaaDoor
