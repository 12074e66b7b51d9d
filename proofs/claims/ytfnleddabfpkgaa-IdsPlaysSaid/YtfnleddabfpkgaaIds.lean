/- Package ids: what each function does to the memory. -/
import Derived.Test.YtfnleddabfpkgaaRows
import Derived.Test.YtfnleddabfpkgaaMem
import Derived.Deep.QuietTactic
import Derived.BigQuiet
import Derived.StillTailTactics
namespace Go.Proofs.Ytfnleddabfpkgaa
open Go.RowKit
set_option maxRecDepth 10000
set_option linter.unusedVariables false
set_option maxHeartbeats 1000000

theorem idsU32 : KeyLaw Try.prog 22 (Value.int .u32) := KeyLaw.int Try.underlying22
theorem idsZero (w : World) : (zeroValue 3).run Try.prog w = .ok (.int .i64 0) w := by kernel_rfl

def PoolAt (w : World) (p mb : Nat) (used : List (Int × Int)) (last most : Int) : Prop :=
  Blk w p #[.map (some mb), .int .u32 last, .int .u32 most] 80 ∧ MapAt w mb (Value.int .u32) (Value.int .i64) used

namespace Ids
def has (used : List (Int × Int)) (x : Int) : Bool := decide (0 < (AL.get used x).getD 0)
def step (most x : Int) : Int := if most < x + 1 then 1 else x + 1
/-- From x on, the first that isn't in use is y, behind n that are. -/
inductive Seek (used : List (Int × Int)) (most : Int) : Int → Int → Nat → Prop
  | here (x : Int) : has used (step most x) = false → Seek used most x (step most x) 0
  | on (x y : Int) (n : Nat) : has used (step most x) = true → Seek used most (step most x) y n → Seek used most x y (n + 1)

theorem Seek.unique {used : List (Int × Int)} {most x y y' : Int} {n n' : Nat} (h : Seek used most x y n) (h' : Seek used most x y' n') : y = y' ∧ n = n' := by
  induction h generalizing n' with
  | here x hx => cases h' with
    | here => exact ⟨rfl, rfl⟩
    | on _ _ _ h1 => rw [hx] at h1; cases h1
  | on x y n hx _ ih => cases h' with
    | here _ h1 => rw [hx] at h1; cases h1
    | on _ _ _ _ h2 => obtain ⟨rfl, rfl⟩ := ih h2; exact ⟨rfl, rfl⟩
end Ids

theorem idsLook {w : World} {mb : Nat} {used : List (Int × Int)} (hM : MapAt w mb (Value.int .u32) (Value.int .i64) used) (x : Int) :
    (Instr.lookup 38 (.map (some mb)) (.int .u32 x) false).run Try.prog w = .ok (.int .i64 ((AL.get used x).getD 0)) w := by
  have := run_lookup_map idsU32 Try.underlying38 hM (idsZero w) x false
  simpa [optV_int] using this

theorem idsHas_any (p mb : Nat) (used : List (Int × Int)) (last most id : Int) (w : World) (hS : PoolAt w p mb used last most) :
    Calls Try.prog 28 #[.pointer (some ⟨p, 0, none⟩), .int .u32 id] w fun e w' => e = .returned (.bool (Ids.has used id)) ∧ w = w' := by
  obtain ⟨hB, hM⟩ := hS
  have c0 : w.cell? ⟨p, 0, none⟩ = some (.map (some mb)) := hB.cell 0
  have look := idsLook hM id
  go_enter Try.func28, Try.ntmps28
  go_wp2
  go_ret
  exact ⟨rfl, rfl⟩

theorem idsHas_op (p mb : Nat) (used : List (Int × Int)) (last most id : Int) (b : Bool) (w : World) (hS : PoolAt w p mb used last most) (hb : Ids.has used id = b) :
    Calls Try.prog 28 #[.pointer (some ⟨p, 0, none⟩), .int .u32 id] w fun e w' => e = .returned (.bool b) ∧ PoolAt w' p mb used last most ∧ Keep [] w w' :=
  (idsHas_any p mb used last most id w hS).mono fun e w' ⟨he, hw⟩ => by subst hw; subst hb; exact ⟨he, hS, Keep.refl _ _⟩

theorem idsLen_any (p mb : Nat) (used : List (Int × Int)) (last most : Int) (w : World) (hS : PoolAt w p mb used last most) :
    Calls Try.prog 26 #[.pointer (some ⟨p, 0, none⟩)] w fun e w' => e = .returned (.int .i64 used.length) ∧ w = w' := by
  obtain ⟨hB, hM⟩ := hS
  have c0 : w.cell? ⟨p, 0, none⟩ = some (.map (some mb)) := hB.cell 0
  have hlen := run_len_map Try.underlying38 hM
  go_enter Try.func26, Try.ntmps26
  go_wp2
  go_ret
  exact ⟨rfl, rfl⟩

theorem idsNew_any (m : Int) (h0 : 0 ≤ m) (h1 : m ≤ 4294967295) (w : World) :
    Calls Try.prog 23 #[.int .u32 m] w (Px fun (x : Nat × Nat) e w' => e = .returned (.pointer (some ⟨x.1, 0, none⟩)) ∧ PoolAt w' x.1 x.2 [] 0 (max 1 (min m 65535)) ∧ w.heap.size ≤ x.1 ∧ w.heap.size ≤ x.2 ∧ Keep [] w w') := by
  have hmm := @run_makeMap Try.prog
  have fin : ∀ v : Int, v = max 1 (min m 65535) → Px (fun (x : Nat × Nat) e w' => e = .returned (.pointer (some ⟨x.1, 0, none⟩)) ∧ PoolAt w' x.1 x.2 [] 0 (max 1 (min m 65535)) ∧ w.heap.size ≤ x.1 ∧ w.heap.size ≤ x.2 ∧ Keep [] w w') (.returned (.pointer (some ⟨w.heap.size + 1, 0, none⟩))) ((w.alloc (.map #[] 0)).alloc (.cells #[.map (some w.heap.size), .int .u32 0, .int .u32 v] 80)) := by
    rintro v rfl
    exact ⟨(w.heap.size + 1, w.heap.size), rfl, ⟨Blk.new' _ _ (by simp), (MapAt.new w _ _).alloc _⟩, by simp, by simp, ((Keep.refl _ _).alloc _).alloc _⟩
  have HF := hide fin
  clear fin
  by_cases a : m < 1
  · have a' : m < 65535 := by omega
    go_enter Try.func23, Try.ntmps23
    go_wp2
    go_ret
    exact HF.out _ (by omega)
  · by_cases b : m ≤ 65535
    · go_enter Try.func23, Try.ntmps23
      go_wp2
      all_goals
        go_ret
        exact HF.out _ (by omega)
    · have b' : 65535 < m := by omega
      go_enter Try.func23, Try.ntmps23
      go_wp2
      go_ret
      exact HF.out _ (by omega)

def Ids.take (used : List (Int × Int)) (most id : Int) : Int × List (Int × Int) :=
  if id < 1 ∨ most < id then (5, used) else if Ids.has used id = true then (8, used) else (0, AL.set used id 1)

theorem idsTake_any (p mb : Nat) (used : List (Int × Int)) (last most id : Int) (r : Int × List (Int × Int)) (w : World) (hS : PoolAt w p mb used last most) (hr : Ids.take used most id = r) :
    Calls Try.prog 27 #[.pointer (some ⟨p, 0, none⟩), .int .u32 id] w fun e w' => e = .returned (.int .i64 r.1) ∧ PoolAt w' p mb r.2 last most ∧ Keep [mb] w w' := by
  have hS0 := hS
  obtain ⟨hB, hM⟩ := hS
  have c0 : w.cell? ⟨p, 0, none⟩ = some (.map (some mb)) := hB.cell 0
  have c2 : w.cell? ⟨p, 2, none⟩ = some (.int .u32 most) := hB.cell 2
  have hne := hM.ne_blk hB
  have HH := idsHas_any p mb used last most id w hS0
  unfold Ids.take at hr
  by_cases hid : id < 1 ∨ most < id
  · rw [if_pos hid] at hr
    subst hr
    rcases hid with h | h
    · go_enter Try.func27, Try.ntmps27
      go_wp2
      go_ret
      exact ⟨rfl, hS0, Keep.refl _ _⟩
    · by_cases h' : id < 1
      · go_enter Try.func27, Try.ntmps27
        go_wp2
        go_ret
        exact ⟨rfl, hS0, Keep.refl _ _⟩
      · go_enter Try.func27, Try.ntmps27
        go_wp2
        go_ret
        exact ⟨rfl, hS0, Keep.refl _ _⟩
  · rw [if_neg hid] at hr
    have h1' : ¬ id < 1 := by omega
    have h2' : ¬ most < id := by omega
    clear hid
    by_cases hp : Ids.has used id = true
    · rw [if_pos hp] at hr
      subst hr
      rw [hp] at HH
      have H := hide HH; clear HH
      go_enter Try.func27, Try.ntmps27
      go_wp2_with fail
      refine H.out.mono ?_
      rintro e w1 ⟨rfl, rfl⟩
      go_wp2_with fail
      go_ret
      exact ⟨rfl, hS0, Keep.refl _ _⟩
    · rw [if_neg hp] at hr
      subst hr
      rw [Bool.eq_false_iff.2 hp] at HH
      have H := hide HH; clear HH
      go_enter Try.func27, Try.ntmps27
      go_wp2_with fail
      refine H.out.mono ?_
      rintro e w1 ⟨rfl, rfl⟩
      go_wp2_with (at_mapUpdate; refine wpList_mapUpdate_map rfl _ _ _ 38 rfl 22 3 idsU32 Try.underlying38 mb used rfl hM id 1 rfl rfl ?_; intro w1 hM1 hK1 hz1)
      go_ret
      exact ⟨rfl, ⟨hB.keep hK1 (by simpa using hne), hM1⟩, hK1⟩

def Ids.free (used : List (Int × Int)) (id : Int) : Int × List (Int × Int) := if Ids.has used id = true then (0, AL.del used id) else (7, used)

theorem idsFree_any (p mb : Nat) (used : List (Int × Int)) (last most id : Int) (r : Int × List (Int × Int)) (w : World) (hS : PoolAt w p mb used last most) (hr : Ids.free used id = r) :
    Calls Try.prog 25 #[.pointer (some ⟨p, 0, none⟩), .int .u32 id] w fun e w' => e = .returned (.int .i64 r.1) ∧ PoolAt w' p mb r.2 last most ∧ Keep [mb] w w' := by
  have hS0 := hS
  obtain ⟨hB, hM⟩ := hS
  have c0 : w.cell? ⟨p, 0, none⟩ = some (.map (some mb)) := hB.cell 0
  have hne := hM.ne_blk hB
  have HH := idsHas_any p mb used last most id w hS0
  unfold Ids.free at hr
  by_cases hp : Ids.has used id = true
  · rw [if_pos hp] at hr
    subst hr
    rw [hp] at HH
    have H := hide HH; clear HH
    go_enter Try.func25, Try.ntmps25
    go_wp2_with fail
    refine H.out.mono ?_
    rintro e w1 ⟨rfl, rfl⟩
    go_wp2_with (at_delete; refine wpList_delete_map rfl _ _ 38 22 rfl 3 idsU32 Try.underlying38 mb used rfl hM id rfl ?_; intro w1 hM1 hK1 hz1)
    go_ret
    exact ⟨rfl, ⟨hB.keep hK1 (by simpa using hne), hM1⟩, hK1⟩
  · rw [if_neg hp] at hr
    subst hr
    rw [Bool.eq_false_iff.2 hp] at HH
    have H := hide HH; clear HH
    go_enter Try.func25, Try.ntmps25
    go_wp2_with fail
    refine H.out.mono ?_
    rintro e w1 ⟨rfl, rfl⟩
    go_wp2_with fail
    go_ret
    exact ⟨rfl, hS0, Keep.refl _ _⟩

theorem idsNextFull_any (p mb : Nat) (used : List (Int × Int)) (last most : Int) (w : World) (hS : PoolAt w p mb used last most) (hm0 : 0 ≤ most) (hm1 : most ≤ 65535) (hf : most ≤ used.length) :
    Calls Try.prog 24 #[.pointer (some ⟨p, 0, none⟩)] w fun e w' => e = .returned (.tuple #[.int .u32 0, .int .i64 6]) ∧ PoolAt w' p mb used last most ∧ Keep [] w w' := by
  have hS0 := hS
  obtain ⟨hB, hM⟩ := hS
  have c0 : w.cell? ⟨p, 0, none⟩ = some (.map (some mb)) := hB.cell 0
  have c2 : w.cell? ⟨p, 2, none⟩ = some (.int .u32 most) := hB.cell 2
  have hlen := fun n => run_len_map (w := w.drewN n) Try.underlying38 (show MapAt (w.drewN n) mb (Value.int .u32) (Value.int .i64) used from hM)
  go_enter Try.func24, Try.ntmps24
  go_wp2
  go_step3
  go_wp2
  go_quiet (fail)
  go_wp2
  rw [Exit.noGoto_ret]
  go_ret2
  exact ⟨rfl, hS0, (Keep.refl _ _).drewN _⟩

noncomputable def Ids.mu (used : List (Int × Int)) (most r : Int) (p : Nat) (w : World) : Nat :=
  Classical.epsilon fun n => ∃ x, w.cell? ⟨p, 1, none⟩ = some (.int .u32 x) ∧ Ids.Seek used most x r n

theorem Ids.mu_eq {used : List (Int × Int)} {most r x : Int} {p n : Nat} {w : World} (hc : w.cell? ⟨p, 1, none⟩ = some (.int .u32 x)) (h : Ids.Seek used most x r n) : Ids.mu used most r p w = n := by
  have := Classical.epsilon_spec (p := fun n => ∃ x, w.cell? ⟨p, 1, none⟩ = some (.int .u32 x) ∧ Ids.Seek used most x r n) ⟨n, x, hc, h⟩
  obtain ⟨y, hy, hs⟩ := this
  rw [hc] at hy
  simp at hy
  subst hy
  exact (hs.unique h).2

def Ids.J (w : World) (p mb : Nat) (used : List (Int × Int)) (most r : Int) (a' : Act) (w' : World) : Prop :=
  ∃ (x : Int) (k : Nat) (u4 u5 u6 u7 u8 u9 u10 u11 u12 u13 u14 u15 u16 u17 u18 u19 u20 u21 u22 u23 u24 u25 u26 u27 u28 u29 u30 u31 u32 u33 u34 u35 u36 u37 u38 u39 u40 u41 u42 u43 u44 u45 u46 u47 u48 u49 u50 u51 : Value), PoolAt w' p mb used x most ∧ Keep [p] w w' ∧ 0 ≤ x ∧ x ≤ most ∧ Hid (Ids.Seek used most x r k) ∧ a' = { tmps := #[.pointer (some ⟨p, 0, none⟩), undef, .int .u32 0, .int .i64 0, u4, u5, u6, u7, u8, u9, u10, u11, u12, u13, u14, u15, u16, u17, u18, u19, u20, u21, u22, u23, u24, u25, u26, u27, u28, u29, u30, u31, u32, u33, u34, u35, u36, u37, u38, u39, u40, u41, u42, u43, u44, u45, u46, u47, u48, u49, u50, u51], defers := [] }

theorem idsNext_any (p mb : Nat) (used : List (Int × Int)) (last most r : Int) (n : Nat) (w : World) (hS : PoolAt w p mb used last most) (hm0 : 1 ≤ most) (hm1 : most ≤ 65535) (hl0 : 0 ≤ last) (hl1 : last ≤ most) (hf : used.length < most) (hr : Ids.Seek used most last r n) :
    Calls Try.prog 24 #[.pointer (some ⟨p, 0, none⟩)] w fun e w' => e = .returned (.tuple #[.int .u32 r, .int .i64 0]) ∧ PoolAt w' p mb (AL.set used r 1) r most ∧ Keep [p, mb] w w' := by
  have hS0 := hS
  obtain ⟨hB, hM⟩ := hS
  have c0 : w.cell? ⟨p, 0, none⟩ = some (.map (some mb)) := hB.cell 0
  have c2 : w.cell? ⟨p, 2, none⟩ = some (.int .u32 most) := hB.cell 2
  have hlen := fun n => run_len_map (w := w.drewN n) Try.underlying38 (show MapAt (w.drewN n) mb (Value.int .u32) (Value.int .i64) used from hM)
  have hd : ¬ most ≤ used.length := by omega
  have f1 : ∀ W x, PoolAt W p mb used x most → W.frozen? ⟨p, 1, none⟩ = false := fun W x h => h.1.frozen 1 (by simp)
  have hne := hM.ne_blk hB
  have HR := hide hr
  clear hr
  go_enter Try.func24, Try.ntmps24
  go_wp2
  refine wp_scope_jumps 0 (fun a' w' => Ids.J w p mb used most r a' w') (fun _ w' => Ids.mu used most r p w') rfl ?_ ?_
  · go_wp2
    go_quiet (fail)
    obtain ⟨nq0, rfl⟩ : ∃ m, m = nq := ⟨_, rfl⟩
    have HP : Hid (PoolAt (w.drewN nq0) p mb used last most) := hide hS0
    have hK : Keep [p] w (w.drewN nq0) := (Keep.refl _ _).drewN _
    have c1 : w.cell? ⟨p, 1, none⟩ = some (.int .u32 last) := hS0.1.cell 1
    have g1 := f1 w last hS0
    obtain ⟨x, hx⟩ : ∃ x, x = last := ⟨_, rfl⟩
    subst hx
    obtain ⟨k, hk⟩ : ∃ k, k = n := ⟨_, rfl⟩
    subst hk
    have HS := HR
    have hx0 := hl0
    have hx1 := hl1
    go_wp2
    go_step3
    by_cases hw : most < x + 1
    · have HST := hide (show Ids.step most x = 1 by unfold Ids.step; rw [if_pos hw])
      by_cases hh : Ids.has used (1) = true
      · obtain ⟨k', rfl, HS'⟩ : ∃ k', k = k' + 1 ∧ Hid (Ids.Seek used most (1) r k') := by
          have := HS.out
          cases this with
          | here _ h1 => rw [HST.out, hh] at h1; cases h1
          | on _ _ k' h1 h2 => rw [HST.out] at h2; exact ⟨k', rfl, hide h2⟩
        go_wp2
        go_quiet (fail)
        go_wp2_with fail
        refine (idsHas_op p mb used (1) most (1) true _ ⟨(((HP.out.1.set 1 _).drewN _).set 1 _), ((HP.out.2.setCell _ _).drewN _).setCell _ _⟩ hh).mono ?_
        rintro e w1 ⟨rfl, hP1, hK1⟩
        go_wp2_with fail
        go_step3
        have hKw : Keep [p] w w1 := hK.then (((((Keep.refl [p] (w.drewN nq0)).setCell (by simp) _).drewN _).setCell (by simp) _).trans hK1 (fun _ h _ => h) (by simp))
        have c1' := hP1.1.cell 1
        go_wp2
        exact ⟨rfl, 1, k', _, _, _, _, _, _, _, _, _, _, _, _, _, _, _, _, _, _, _, _, _, _, _, _, _, _, _, _, _, _, _, _, _, _, _, _, _, _, _, _, _, _, _, _, _, _, _, _, hP1, hKw, by omega, by omega, HS', rfl⟩
      · have hh' : Ids.has used (1) = false := Bool.eq_false_iff.2 hh
        obtain rfl : r = 1 := by
          have := HS.out
          cases this with
          | here => exact HST.out
          | on _ _ k' h1 h2 => rw [HST.out, hh'] at h1; cases h1
        go_wp2
        go_quiet (fail)
        go_wp2_with fail
        refine (idsHas_op p mb used (1) most (1) false _ ⟨(((HP.out.1.set 1 _).drewN _).set 1 _), ((HP.out.2.setCell _ _).drewN _).setCell _ _⟩ hh').mono ?_
        rintro e w1 ⟨rfl, hP1, hK1⟩
        have hKw : Keep [p] w w1 := hK.then (((((Keep.refl [p] (w.drewN nq0)).setCell (by simp) _).drewN _).setCell (by simp) _).trans hK1 (fun _ h _ => h) (by simp))
        clear hK1 c0 c1 c2
        have c0 : w1.cell? ⟨p, 0, none⟩ = some (.map (some mb)) := hP1.1.cell 0
        have c1 : w1.cell? ⟨p, 1, none⟩ = some (.int .u32 (1)) := hP1.1.cell 1
        go_wp2_with fail
        go_still_tail 8, (by kernel_rfl)
        have hP2 : PoolAt w1.drew p mb used (1) most := hP1
        have hK2 : Keep [p] w w1.drew := hKw.drew
        go_wp2_with (at_mapUpdate; refine wpList_mapUpdate_map rfl _ _ _ 38 rfl 22 3 idsU32 Try.underlying38 mb used rfl hP2.2 _ 1 rfl rfl ?_; intro w2 hM3 hK3 hz3; have c4 : w2.cell? ⟨p, 1, none⟩ = some (.int .u32 _) := (hP2.1.keep hK3 (by simpa using hne)).cell 1)
        simp only [Exit.jump]
        go_ret2
        exact ⟨rfl, ⟨hP2.1.keep hK3 (by simpa using hne), hM3⟩, hK2.trans hK3 (by simp) (by simp)⟩
    · have HST := hide (show Ids.step most x = x + 1 by unfold Ids.step; rw [if_neg hw])
      by_cases hh : Ids.has used (x + 1) = true
      · obtain ⟨k', rfl, HS'⟩ : ∃ k', k = k' + 1 ∧ Hid (Ids.Seek used most (x + 1) r k') := by
          have := HS.out
          cases this with
          | here _ h1 => rw [HST.out, hh] at h1; cases h1
          | on _ _ k' h1 h2 => rw [HST.out] at h2; exact ⟨k', rfl, hide h2⟩
        go_wp2
        go_quiet (fail)
        go_wp2_with fail
        refine (idsHas_op p mb used (x + 1) most (x + 1) true _ ⟨((HP.out.1.set 1 _).drewN _), (HP.out.2.setCell _ _).drewN _⟩ hh).mono ?_
        rintro e w1 ⟨rfl, hP1, hK1⟩
        go_wp2_with fail
        go_step3
        have hKw : Keep [p] w w1 := hK.then ((((Keep.refl [p] (w.drewN nq0)).setCell (by simp) _).drewN _).trans hK1 (fun _ h _ => h) (by simp))
        have c1' := hP1.1.cell 1
        go_wp2
        exact ⟨rfl, x + 1, k', _, _, _, _, _, _, _, _, _, _, _, _, _, _, _, _, _, _, _, _, _, _, _, _, _, _, _, _, _, _, _, _, _, _, _, _, _, _, _, _, _, _, _, _, _, _, _, _, hP1, hKw, by omega, by omega, HS', rfl⟩
      · have hh' : Ids.has used (x + 1) = false := Bool.eq_false_iff.2 hh
        obtain rfl : r = x + 1 := by
          have := HS.out
          cases this with
          | here => exact HST.out
          | on _ _ k' h1 h2 => rw [HST.out, hh'] at h1; cases h1
        go_wp2
        go_quiet (fail)
        go_wp2_with fail
        refine (idsHas_op p mb used (x + 1) most (x + 1) false _ ⟨((HP.out.1.set 1 _).drewN _), (HP.out.2.setCell _ _).drewN _⟩ hh').mono ?_
        rintro e w1 ⟨rfl, hP1, hK1⟩
        have hKw : Keep [p] w w1 := hK.then ((((Keep.refl [p] (w.drewN nq0)).setCell (by simp) _).drewN _).trans hK1 (fun _ h _ => h) (by simp))
        clear hK1 c0 c1 c2
        have c0 : w1.cell? ⟨p, 0, none⟩ = some (.map (some mb)) := hP1.1.cell 0
        have c1 : w1.cell? ⟨p, 1, none⟩ = some (.int .u32 (x + 1)) := hP1.1.cell 1
        go_wp2_with fail
        go_still_tail 8, (by kernel_rfl)
        have hP2 : PoolAt w1.drew p mb used (x + 1) most := hP1
        have hK2 : Keep [p] w w1.drew := hKw.drew
        go_wp2_with (at_mapUpdate; refine wpList_mapUpdate_map rfl _ _ _ 38 rfl 22 3 idsU32 Try.underlying38 mb used rfl hP2.2 _ 1 rfl rfl ?_; intro w2 hM3 hK3 hz3; have c4 : w2.cell? ⟨p, 1, none⟩ = some (.int .u32 _) := (hP2.1.keep hK3 (by simpa using hne)).cell 1)
        simp only [Exit.jump]
        go_ret2
        exact ⟨rfl, ⟨hP2.1.keep hK3 (by simpa using hne), hM3⟩, hK2.trans hK3 (by simp) (by simp)⟩
  · rintro a' W ⟨x, k, u4, u5, u6, u7, u8, u9, u10, u11, u12, u13, u14, u15, u16, u17, u18, u19, u20, u21, u22, u23, u24, u25, u26, u27, u28, u29, u30, u31, u32, u33, u34, u35, u36, u37, u38, u39, u40, u41, u42, u43, u44, u45, u46, u47, u48, u49, u50, u51, hP, hK, hx0, hx1, HS, rfl⟩
    have c0 : W.cell? ⟨p, 0, none⟩ = some (.map (some mb)) := hP.1.cell 0
    have c1 : W.cell? ⟨p, 1, none⟩ = some (.int .u32 x) := hP.1.cell 1
    have c2 : W.cell? ⟨p, 2, none⟩ = some (.int .u32 most) := hP.1.cell 2
    have g1 := f1 W x hP
    have HP := hide hP; clear hP
    have HM := hide (Ids.mu_eq c1 HS.out)
    by_cases hw : most < x + 1
    · have HST := hide (show Ids.step most x = 1 by unfold Ids.step; rw [if_pos hw])
      by_cases hh : Ids.has used (1) = true
      · obtain ⟨k', rfl, HS'⟩ : ∃ k', k = k' + 1 ∧ Hid (Ids.Seek used most (1) r k') := by
          have := HS.out
          cases this with
          | here _ h1 => rw [HST.out, hh] at h1; cases h1
          | on _ _ k' h1 h2 => rw [HST.out] at h2; exact ⟨k', rfl, hide h2⟩
        go_wp2
        go_quiet (fail)
        go_wp2_with fail
        refine (idsHas_op p mb used (1) most (1) true _ ⟨(((HP.out.1.set 1 _).drewN _).set 1 _), ((HP.out.2.setCell _ _).drewN _).setCell _ _⟩ hh).mono ?_
        rintro e w1 ⟨rfl, hP1, hK1⟩
        go_wp2_with fail
        go_step3
        have hKw : Keep [p] w w1 := hK.then (((((Keep.refl [p] W).setCell (by simp) _).drewN _).setCell (by simp) _).trans hK1 (fun _ h _ => h) (by simp))
        have c1' := hP1.1.cell 1
        go_wp2
        refine ⟨rfl, ⟨1, k', _, _, _, _, _, _, _, _, _, _, _, _, _, _, _, _, _, _, _, _, _, _, _, _, _, _, _, _, _, _, _, _, _, _, _, _, _, _, _, _, _, _, _, _, _, _, _, _, hP1, hKw, by omega, by omega, HS', rfl⟩, ?_⟩
        show Ids.mu used most r p w1 < Ids.mu used most r p W
        rw [Ids.mu_eq c1' HS'.out, HM.out]; omega
      · have hh' : Ids.has used (1) = false := Bool.eq_false_iff.2 hh
        obtain rfl : r = 1 := by
          have := HS.out
          cases this with
          | here => exact HST.out
          | on _ _ k' h1 h2 => rw [HST.out, hh'] at h1; cases h1
        go_wp2
        go_quiet (fail)
        go_wp2_with fail
        refine (idsHas_op p mb used (1) most (1) false _ ⟨(((HP.out.1.set 1 _).drewN _).set 1 _), ((HP.out.2.setCell _ _).drewN _).setCell _ _⟩ hh').mono ?_
        rintro e w1 ⟨rfl, hP1, hK1⟩
        have hKw : Keep [p] w w1 := hK.then (((((Keep.refl [p] W).setCell (by simp) _).drewN _).setCell (by simp) _).trans hK1 (fun _ h _ => h) (by simp))
        clear hK1 c0 c1 c2
        have c0 : w1.cell? ⟨p, 0, none⟩ = some (.map (some mb)) := hP1.1.cell 0
        have c1 : w1.cell? ⟨p, 1, none⟩ = some (.int .u32 (1)) := hP1.1.cell 1
        go_wp2_with fail
        go_still_tail 8, (by kernel_rfl)
        have hP2 : PoolAt w1.drew p mb used (1) most := hP1
        have hK2 : Keep [p] w w1.drew := hKw.drew
        go_wp2_with (at_mapUpdate; refine wpList_mapUpdate_map rfl _ _ _ 38 rfl 22 3 idsU32 Try.underlying38 mb used rfl hP2.2 _ 1 rfl rfl ?_; intro w2 hM3 hK3 hz3; have c4 : w2.cell? ⟨p, 1, none⟩ = some (.int .u32 _) := (hP2.1.keep hK3 (by simpa using hne)).cell 1)
        simp only [Exit.jump]
        go_ret2
        exact ⟨rfl, ⟨hP2.1.keep hK3 (by simpa using hne), hM3⟩, hK2.trans hK3 (by simp) (by simp)⟩
    · have HST := hide (show Ids.step most x = x + 1 by unfold Ids.step; rw [if_neg hw])
      by_cases hh : Ids.has used (x + 1) = true
      · obtain ⟨k', rfl, HS'⟩ : ∃ k', k = k' + 1 ∧ Hid (Ids.Seek used most (x + 1) r k') := by
          have := HS.out
          cases this with
          | here _ h1 => rw [HST.out, hh] at h1; cases h1
          | on _ _ k' h1 h2 => rw [HST.out] at h2; exact ⟨k', rfl, hide h2⟩
        go_wp2
        go_quiet (fail)
        go_wp2_with fail
        refine (idsHas_op p mb used (x + 1) most (x + 1) true _ ⟨((HP.out.1.set 1 _).drewN _), (HP.out.2.setCell _ _).drewN _⟩ hh).mono ?_
        rintro e w1 ⟨rfl, hP1, hK1⟩
        go_wp2_with fail
        go_step3
        have hKw : Keep [p] w w1 := hK.then ((((Keep.refl [p] W).setCell (by simp) _).drewN _).trans hK1 (fun _ h _ => h) (by simp))
        have c1' := hP1.1.cell 1
        go_wp2
        refine ⟨rfl, ⟨x + 1, k', _, _, _, _, _, _, _, _, _, _, _, _, _, _, _, _, _, _, _, _, _, _, _, _, _, _, _, _, _, _, _, _, _, _, _, _, _, _, _, _, _, _, _, _, _, _, _, _, hP1, hKw, by omega, by omega, HS', rfl⟩, ?_⟩
        show Ids.mu used most r p w1 < Ids.mu used most r p W
        rw [Ids.mu_eq c1' HS'.out, HM.out]; omega
      · have hh' : Ids.has used (x + 1) = false := Bool.eq_false_iff.2 hh
        obtain rfl : r = x + 1 := by
          have := HS.out
          cases this with
          | here => exact HST.out
          | on _ _ k' h1 h2 => rw [HST.out, hh'] at h1; cases h1
        go_wp2
        go_quiet (fail)
        go_wp2_with fail
        refine (idsHas_op p mb used (x + 1) most (x + 1) false _ ⟨((HP.out.1.set 1 _).drewN _), (HP.out.2.setCell _ _).drewN _⟩ hh').mono ?_
        rintro e w1 ⟨rfl, hP1, hK1⟩
        have hKw : Keep [p] w w1 := hK.then ((((Keep.refl [p] W).setCell (by simp) _).drewN _).trans hK1 (fun _ h _ => h) (by simp))
        clear hK1 c0 c1 c2
        have c0 : w1.cell? ⟨p, 0, none⟩ = some (.map (some mb)) := hP1.1.cell 0
        have c1 : w1.cell? ⟨p, 1, none⟩ = some (.int .u32 (x + 1)) := hP1.1.cell 1
        go_wp2_with fail
        go_still_tail 8, (by kernel_rfl)
        have hP2 : PoolAt w1.drew p mb used (x + 1) most := hP1
        have hK2 : Keep [p] w w1.drew := hKw.drew
        go_wp2_with (at_mapUpdate; refine wpList_mapUpdate_map rfl _ _ _ 38 rfl 22 3 idsU32 Try.underlying38 mb used rfl hP2.2 _ 1 rfl rfl ?_; intro w2 hM3 hK3 hz3; have c4 : w2.cell? ⟨p, 1, none⟩ = some (.int .u32 _) := (hP2.1.keep hK3 (by simpa using hne)).cell 1)
        simp only [Exit.jump]
        go_ret2
        exact ⟨rfl, ⟨hP2.1.keep hK3 (by simpa using hne), hM3⟩, hK2.trans hK3 (by simp) (by simp)⟩
end Go.Proofs.Ytfnleddabfpkgaa
