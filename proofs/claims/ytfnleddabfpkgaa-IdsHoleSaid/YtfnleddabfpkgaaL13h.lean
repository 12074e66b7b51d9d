/- IdsHole. -/
import Derived.Test.YtfnleddabfpkgaaL13a
namespace Go.Proofs.Ytfnleddabfpkgaa
open Go.RowKit
set_option maxRecDepth 10000
set_option linter.unusedVariables false
set_option maxHeartbeats 1000000

namespace Ids
theorem Seek.all {used : List (Int × Int)} {most y : Int} (h1 : 1 ≤ y) (hy : y ≤ most) (hf : has used y = false) (h : ∀ z, 1 ≤ z → z ≤ most → z ≠ y → has used z = true) (x : Int) (hx0 : 0 ≤ x) (hx1 : x ≤ most) : ∃ n, Seek used most x y n := by
  by_cases hlt : x < y
  · obtain ⟨n, hn⟩ : ∃ n : Nat, x + 1 + n = y := ⟨(y - x - 1).toNat, by omega⟩
    exact ⟨n, Seek.run hy hf n x hn (fun z a b => h z (by omega) (by omega) (by omega))⟩
  · obtain ⟨n0, hn0⟩ := Seek.wrap h1 hy hf (fun z a b => h z a (by omega) (by omega))
    have key : ∀ (d : Nat) (x : Int), y ≤ x → x ≤ most → most - x = d → ∃ n, Seek used most x y n := by
      intro d
      induction d with
      | zero =>
        intro x _ _ e
        have e' : x = most := by omega
        rw [e']; exact ⟨n0, hn0⟩
      | succ d ih =>
        intro x a b e
        obtain ⟨n, hn⟩ := ih (x + 1) (by omega) (by omega) (by omega)
        exact ⟨n + 1, Seek.on' (y := x + 1) (by unfold step; rw [if_neg (by omega)]) (h _ (by omega) (by omega) (by omega)) hn⟩
    exact key (most - x).toNat x (by omega) hx1 (by omega)

/-- Just those from 1 to k but the hole are there. -/
def Holed (l : List (Int × Int)) (k hole : Int) : Prop := (∀ x, AL.get l x = if 1 ≤ x ∧ x ≤ k ∧ x ≠ hole then some 1 else none) ∧ (l.length : Int) = if hole ≤ k then k - 1 else k

theorem Holed.nil (hole : Int) (h : 1 ≤ hole) : Holed [] 0 hole := ⟨fun x => by rw [if_neg (by omega)]; rfl, by rw [if_neg (by omega)]; rfl⟩

theorem Holed.next {l : List (Int × Int)} {k hole : Int} (h : Holed l k hole) (hk : 0 ≤ k) (hne : k + 1 ≠ hole) : Holed (AL.set l (k + 1) 1) (k + 1) hole := by
  refine ⟨fun x => ?_, ?_⟩
  · rw [AL.get_set, h.1]
    by_cases e : x = k + 1
    · rw [if_pos e, if_pos (by omega)]
    · rw [if_neg e]; by_cases a : 1 ≤ x ∧ x ≤ k ∧ x ≠ hole
      · rw [if_pos a, if_pos (by omega)]
      · rw [if_neg a, if_neg (by omega)]
  · have h1 : (AL.get l (k + 1)).isSome = false := by rw [h.1, if_neg (by omega)]; rfl
    rw [AL.length_set, h1]; have := h.2; split at this <;> split <;> simp at * <;> omega

theorem Holed.skip {l : List (Int × Int)} {k hole : Int} (h : Holed l k hole) (hk : 0 ≤ k) (he : k + 1 = hole) : Holed l (k + 1) hole := by
  refine ⟨fun x => ?_, ?_⟩
  · rw [h.1]
    by_cases a : 1 ≤ x ∧ x ≤ k ∧ x ≠ hole
    · rw [if_pos a, if_pos (by omega)]
    · rw [if_neg a, if_neg (by omega)]
  · have := h.2; rw [if_neg (by omega)] at this; rw [if_pos (by omega)]; omega

theorem Holed.has {l : List (Int × Int)} {k hole : Int} (h : Holed l k hole) (x : Int) : has l x = decide (1 ≤ x ∧ x ≤ k ∧ x ≠ hole) := by
  unfold Ids.has
  rw [h.1]
  by_cases a : 1 ≤ x ∧ x ≤ k ∧ x ≠ hole <;> simp [a]
end Ids

def hole1 (w : World) (p mb : Nat) (most : Int) (i : Value) (wr : World) : Prop :=
  ∃ (k : Nat) (last : Int), i = .int .i64 k ∧ (k : Int) ≤ 20 ∧ 0 ≤ last ∧ last ≤ most ∧ PoolAt wr p mb [] last most ∧ Keep [] w wr

def hole2 (w : World) (p mb : Nat) (most last hole : Int) (i : Value) (wr : World) : Prop :=
  ∃ (k : Nat) (used : List (Int × Int)), i = .int .u32 (k + 1) ∧ (k : Int) ≤ most ∧ PoolAt wr p mb used last most ∧ Ids.Holed used k hole ∧ Keep [] w wr

theorem hole_walk (a0 : Int) (a1 : Int) (a2 : Int) (w : World) (w0 : (Lit.int .u32 a0).wf = true) (w1 : (Lit.int .u32 a1).wf = true) (w2 : (Lit.int .i64 a2).wf = true) :
    Calls Try.prog 8 #[.int .u32 a0, .int .u32 a1, .int .i64 a2] w fun e w' => e = .returned (.bool true) ∧ Below w.heap.size w w' := by
  obtain ⟨x0, x1⟩ := bounds_u32 w0
  obtain ⟨y0, y1⟩ := bounds_u32 w1
  obtain ⟨z0, z1⟩ := bounds_i64 w2
  by_cases hs : a0 < 1 ∨ 200 < a0
  · have hs' : a0 < 1 ∨ (¬ a0 < 1 ∧ 200 < a0) := by omega
    clear hs
    rcases hs' with h0 | ⟨h0, h1⟩
    all_goals
      go_enter Try.func8, Try.ntmps8
      go_wp2_with fail
      refine (awake13 _).mono ?_
      rintro e w2 ⟨rfl, hK2⟩
      go_wp2_with fail
      refine (awake13 _).mono ?_
      rintro e w3 ⟨rfl, hK3⟩
      go_wp2_with fail
      go_ret
      exact ⟨rfl, (hK2.then hK3).below⟩
  have h0 : ¬ a0 < 1 := by omega
  have h1 : ¬ 200 < a0 := by omega
  clear hs
  obtain ⟨hole, hhole⟩ : ∃ hole, 1 + a1 % a0 = hole := ⟨_, rfl⟩
  have i1 : 1 ≤ hole := by have := Int.emod_nonneg a1 (show a0 ≠ 0 by omega); omega
  have i2 : hole ≤ a0 := by have := Int.emod_lt_of_pos a1 (show 0 < a0 by omega); omega
  have hlim : a2 < 0 ∨ (¬ a2 < 0 ∧ ¬ 20 < a2) ∨ (¬ a2 < 0 ∧ 20 < a2) := by omega
  clear z0 z1
  rcases hlim with c1 | ⟨c1, c2⟩ | ⟨c1, c2⟩
  all_goals
    go_enter Try.func8, Try.ntmps8
    go_wp2_with fail
    refine (awake13 _).mono ?_
    rintro e w2 ⟨rfl, hK2⟩
    go_wp2_with fail
    refine (idsNew_any a0 (by omega) (by omega) _).mono ?_
    rintro e w3 ⟨⟨p, mb⟩, rfl, hS, hp, hmb, hK3⟩
    rw [show max 1 (min a0 65535) = a0 by omega] at hS
    have hKw : Keep [] w w3 := hK2.then hK3
    have hsz := hK2.size
    have NX := hide (show ∀ a b : World, Keep [p, mb] a b → Keep [] w a → Keep [] w b from fun a b h k => k.trans h (by simp) (by simp; simp at hp hmb; omega))
    simp only at hp hmb hS
    go_wp2_with fail
    go_loopw [8] (fun i wr => hole1 w p mb a0 i wr) (fun i _ => (20 - intOf i).toNat)
    case atStart => exact ⟨0, 0, rfl, by omega, by omega, by omega, hS, hKw⟩
    case round =>
      obtain ⟨k, last, rfl, hk, hl0, hl1, hS1, hK1⟩ := hrel
      have hst0 : 1 ≤ Ids.step a0 last := by unfold Ids.step; split <;> omega
      have hst1 : Ids.step a0 last ≤ a0 := by unfold Ids.step; split <;> omega
      by_cases hlt : (k : Int) < min (max a2 0) 20
      · have l1 : ¬ a2 < 0 := by omega
        have l2 : (k : Int) < 20 := by omega
        have l3 : (k : Int) < a2 := by omega
        clear hlt
        first
        | (exfalso; omega)
        | (go_wp2_with fail
           refine (idsNext_any p mb [] last a0 (Ids.step a0 last) 0 wr hS1 (by omega) (by omega) (by omega) (by omega) (by simp; omega) (Ids.Seek.here' rfl rfl)).mono ?_
           rintro e w4 ⟨rfl, hS4, hK4⟩
           have HF := hide (show Ids.free (AL.set [] (Ids.step a0 last) 1) (Ids.step a0 last) = (0, []) by unfold Ids.free Ids.has; simp [AL.set, AL.get, AL.del])
           go_wp2_with fail
           refine (idsFree_any p mb _ _ a0 _ _ w4 hS4 HF.out).mono ?_
           rintro e w5 ⟨rfl, hS5, hK5⟩
           go_wp2_with fail
           exact ⟨⟨k + 1, _, rfl, by omega, by omega, by omega, hS5, NX.out _ _ (hK5.mono (by simp)) (NX.out _ _ hK4 hK1)⟩, by simp [intOf]; omega⟩)
      · first
        | have l2 : ¬ (k : Int) < a2 := by omega
        | have l2 : ¬ (k : Int) < 20 := by omega
        clear hlt hst0 hst1
        go_wp2_with fail
        go_loopw [11] (fun i wr => hole2 w p mb a0 last hole i wr) (fun i _ => (a0 + 1 - intOf i).toNat)
        case atStart => exact ⟨0, [], rfl, by omega, hS1, Ids.Holed.nil hole i1, hK1⟩
        case round =>
          obtain ⟨k2, used, rfl, hk2, hS2, hU, hK2'⟩ := hrel
          by_cases hlt2 : (k2 : Int) + 1 ≤ a0
          · by_cases hh : (k2 : Int) + 1 = hole
            · have hb : ((k2 : Int) + 1 != hole) = false := by simpa using hh
              have HU := hide (hU.skip (by omega) hh)
              have HH := hide hh
              clear hh hU
              go_wp2_with fail
              exact ⟨⟨k2 + 1, used, rfl, by omega, hS2, HU.out, hK2'⟩, by simp [intOf]; omega⟩
            · have hb : ((k2 : Int) + 1 != hole) = true := by simpa using hh
              have htk : Ids.take used a0 (k2 + 1) = (0, AL.set used (k2 + 1) 1) := by
                unfold Ids.take; rw [if_neg (by omega), if_neg]; rw [hU.has, decide_eq_true_eq]; omega
              have HU := hide (And.intro (hU.next (by omega) hh) htk)
              clear hh hU htk
              go_wp2_with fail
              refine (idsTake_any p mb used last a0 (k2 + 1) _ wr hS2 HU.out.2).mono ?_
              rintro e w4 ⟨rfl, hS4, hK4⟩
              go_wp2_with fail
              exact ⟨⟨k2 + 1, _, rfl, by omega, hS4, HU.out.1, NX.out _ _ (hK4.mono (by simp)) hK2'⟩, by simp [intOf]; omega⟩
          · obtain rfl : a0 = k2 := by omega
            have hlen := hU.2
            rw [if_pos i2] at hlen
            have hf : Ids.has used hole = false := by rw [hU.has]; exact decide_eq_false (by omega)
            obtain ⟨n, hn⟩ := Ids.Seek.all (used := used) (most := k2) i1 i2 hf (fun z a b c => by rw [hU.has]; exact decide_eq_true (by omega)) last hl0 hl1
            have hls : ((AL.set used hole 1).length : Int) = k2 := by
              have : ¬ (AL.get used hole).isSome = true := by rw [hU.1, if_neg (by omega)]; simp
              rw [AL.length_set, if_neg this]; omega
            have HH := hide (And.intro hn hls)
            have HL := hide hlen
            clear hlen hf hn hls hU
            go_wp2_with fail
            refine (idsNext_any p mb used last k2 hole n wr hS2 (by omega) (by omega) (by omega) (by omega) (by have := HL.out; omega) HH.out.1).mono ?_
            rintro e w4 ⟨rfl, hS4, hK4⟩
            go_wp2_with fail
            refine (idsNextFull_any p mb _ hole k2 w4 hS4 (by omega) (by omega) (by have := HH.out.2; omega)).mono ?_
            rintro e w5 ⟨rfl, hS5, hK5⟩
            go_wp2_with fail
            go_ret
            exact ⟨rfl, (NX.out _ _ (hK5.mono (by simp)) (NX.out _ _ hK4 hK2')).below⟩
end Go.Proofs.Ytfnleddabfpkgaa
