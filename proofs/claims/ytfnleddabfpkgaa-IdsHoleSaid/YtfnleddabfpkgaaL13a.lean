/- IdsAll. -/
import Derived.Test.YtfnleddabfpkgaaL13
import Derived.Test.YtfnleddabfpkgaaIn
namespace Go.Proofs.Ytfnleddabfpkgaa
open Go.RowKit
set_option maxRecDepth 10000
set_option linter.unusedVariables false
set_option maxHeartbeats 1000000

namespace Ids
/-- Just those from 1 to k are there, each once. -/
def Upto (l : List (Int × Int)) (k : Int) : Prop := (∀ x, AL.get l x = if 1 ≤ x ∧ x ≤ k then some 1 else none) ∧ (l.length : Int) = k

theorem Upto.nil : Upto [] 0 := ⟨fun x => by rw [if_neg (by omega)]; rfl, rfl⟩

theorem Upto.next {l : List (Int × Int)} {k : Int} (h : Upto l k) (hk : 0 ≤ k) : Upto (AL.set l (k + 1) 1) (k + 1) := by
  refine ⟨fun x => ?_, ?_⟩
  · rw [AL.get_set, h.1]
    by_cases e : x = k + 1
    · rw [if_pos e, if_pos (by omega)]
    · rw [if_neg e]; by_cases a : 1 ≤ x ∧ x ≤ k
      · rw [if_pos a, if_pos (by omega)]
      · rw [if_neg a, if_neg (by omega)]
  · have h1 : (AL.get l (k + 1)).isSome = false := by rw [h.1, if_neg (by omega)]; rfl
    rw [AL.length_set, h1]; have := h.2; simp; omega

theorem Upto.has {l : List (Int × Int)} {k : Int} (h : Upto l k) (x : Int) : has l x = decide (1 ≤ x ∧ x ≤ k) := by
  unfold Ids.has
  rw [h.1]
  by_cases a : 1 ≤ x ∧ x ≤ k
  · simp [a]
  · simp [a]
end Ids

def allRel (w : World) (p mb sb : Nat) (most : Int) (i : Value) (wr : World) : Prop :=
  ∃ (k : Nat) (used seen : List (Int × Int)), i = .int .u32 k ∧ (k : Int) ≤ most ∧ PoolAt wr p mb used k most ∧ MapAt wr sb (Value.int .u32) (Value.int .i64) seen ∧ Ids.Upto used k ∧ Ids.Upto seen k ∧ Keep [] w wr

theorem all_walk (a0 : Int) (a1 : Int) (w : World) (w0 : (Lit.int .u32 a0).wf = true) (w1 : (Lit.int .u32 a1).wf = true) :
    Calls Try.prog 5 #[.int .u32 a0, .int .u32 a1] w fun e w' => e = .returned (.bool true) ∧ Below w.heap.size w w' := by
  obtain ⟨x0, x1⟩ := bounds_u32 w0
  obtain ⟨y0, y1⟩ := bounds_u32 w1
  by_cases hs : a0 < 1 ∨ 300 < a0
  · have hs' : a0 < 1 ∨ (¬ a0 < 1 ∧ 300 < a0) := by omega
    clear hs
    rcases hs' with h0 | ⟨h0, h1⟩
    all_goals
      go_enter Try.func5, Try.ntmps5
      go_wp2_with fail
      refine (awake13 _).mono ?_
      rintro e w2 ⟨rfl, hK2⟩
      go_wp2_with fail
      refine (awake13 _).mono ?_
      rintro e w3 ⟨rfl, hK3⟩
      go_wp2_with fail
      go_ret
      exact ⟨rfl, (hK2.then hK3).below⟩
  have h0 : ¬ a0 < 1 := by omega
  have h1 : ¬ 300 < a0 := by omega
  clear hs
  have hmm := @run_makeMap Try.prog
  go_enter Try.func5, Try.ntmps5
  go_wp2_with fail
  refine (awake13 _).mono ?_
  rintro e w2 ⟨rfl, hK2⟩
  go_wp2_with fail
  refine (idsNew_any a0 (by omega) (by omega) _).mono ?_
  rintro e w3 ⟨⟨p, mb⟩, rfl, hS, hp, hmb, hK3⟩
  rw [show max 1 (min a0 65535) = a0 by omega] at hS
  have hKw : Keep [] w w3 := hK2.then hK3
  have hp1 := hS.1.lt
  have hp2 := hS.2.lt
  have hpm := hS.2.ne_blk hS.1
  have hsz := hK2.size
  have nx : ∀ a b : World, Keep [p, mb, w3.heap.size] a b → Keep [] w a → Keep [] w b := fun a b h k => k.trans h (by simp) (by have := hK3.size; simp; omega)
  have NX := hide nx
  clear nx
  simp only at hp hmb hS
  go_wp2_with fail
  go_loopw [7] (fun i wr => allRel w p mb w3.heap.size a0 i wr) (fun i _ => (a0 - intOf i).toNat)
  case atStart =>
    exact ⟨0, [], [], rfl, by omega, ⟨hS.1.alloc _, hS.2.alloc _⟩, MapAt.new w3 _ _, Ids.Upto.nil, Ids.Upto.nil, hKw.alloc _⟩
  case round =>
    obtain ⟨k, used, seen, rfl, hk, hS1, hM1, hU, hV, hK1⟩ := hrel
    have hlU := hU.2
    by_cases hlt : (k : Int) < a0
    · have hget : AL.get seen (k + 1) = none := by rw [hV.1, if_neg (by omega)]
      have G := hide hget
      clear hget
      have hV2 := hV.next (by omega)
      have hU2 := hU.next (by omega)
      have hseek := Ids.Seek.run (used := used) (most := a0) (y := k + 1) (by omega) (by rw [hU.has]; exact decide_eq_false (by omega)) 0 k (by omega) (fun z a b => by omega)
      have HH := hide (And.intro hV2 (And.intro hU2 hseek))
      clear hV2 hU2 hseek
      have HU := hide hU
      have HV := hide hV
      clear hU hV
      go_wp2_with fail
      refine (idsNext_any p mb used k a0 (k + 1) 0 wr hS1 (by omega) (by omega) (by omega) (by omega) (by omega) HH.out.2.2).mono ?_
      rintro e w4 ⟨rfl, hS4, hK4⟩
      have hM4 := hM1.keep hK4 (by simp; omega)
      have hl1 := idsLook hM4 (k + 1)
      rw [G.out] at hl1
      simp only [Option.getD_none] at hl1
      go_wp2_with (at_mapUpdate; refine wpList_mapUpdate_map rfl _ _ _ 38 rfl 22 3 idsU32 Try.underlying38 w3.heap.size seen rfl hM4 (k + 1) 1 rfl rfl ?_; intro w5 hM5 hK5 hz5; have hl2 := idsLook hM5 (k + 1); rw [AL.get_set, if_pos rfl] at hl2; simp only [Option.getD_some] at hl2)
      exact ⟨⟨k + 1, _, _, rfl, by omega, ⟨hS4.1.keep hK5 (by simp; omega), hS4.2.keep hK5 (by simp; omega)⟩, hM5, HH.out.2.1, HH.out.1, NX.out _ _ (hK5.mono (by simp)) (NX.out _ _ (hK4.mono (by simp)) hK1)⟩, by simp [intOf]; omega⟩
    · obtain ⟨id, hid⟩ : ∃ id, 1 + a1 % a0 = id := ⟨_, rfl⟩
      have i1 : 1 ≤ id := by have := Int.emod_nonneg a1 (show a0 ≠ 0 by omega); omega
      have i2 : id ≤ a0 := by have := Int.emod_lt_of_pos a1 (show 0 < a0 by omega); omega
      obtain rfl : a0 = k := by omega
      have hh : Ids.has used id = true := by rw [hU.has]; exact decide_eq_true (by omega)
      have hfr : Ids.free used id = (0, AL.del used id) := by unfold Ids.free; rw [if_pos hh]
      have hnd : (AL.keys used).Nodup := hS1.2.nodup
      have hsome : (AL.get used id).isSome = true := by rw [hU.1, if_pos (by omega)]; rfl
      have hld : ((AL.del used id).length : Int) = k - 1 := by rw [AL.length_del, if_pos hsome]; omega
      have hgd : ∀ z, Ids.has (AL.del used id) z = if z = id then false else Ids.has used z := by
        intro z; unfold Ids.has; rw [AL.get_del hnd]; split <;> simp
      obtain ⟨n, hn⟩ := Ids.Seek.wrap (used := AL.del used id) (most := k) i1 i2 (by rw [hgd, if_pos rfl]) (fun z a b => by rw [hgd, if_neg (by omega), hU.has]; exact decide_eq_true (by omega))
      have hls : (AL.set (AL.del used id) id 1).length = used.length := by
        have : ¬ (AL.get (AL.del used id) id).isSome = true := by rw [AL.get_del hnd, if_pos rfl]; simp
        rw [AL.length_set, if_neg this]; omega
      have HH := hide (And.intro hfr (And.intro hn hls))
      clear hfr hn hls hgd hh hnd hsome
      have HL := hide hld
      clear hld
      have hlU' := hide hlU
      clear hlU hU hV
      have hone : ((k : Int) < 1) = False := by simp; omega
      go_wp2_with fail
      refine (idsNextFull_any p mb used k k wr hS1 (by omega) (by omega) (by have := hlU'.out; omega)).mono ?_
      rintro e w4 ⟨rfl, hS4, hK4⟩
      go_wp2_with fail
      refine (idsFree_any p mb used k k id _ w4 hS4 HH.out.1).mono ?_
      rintro e w5 ⟨rfl, hS5, hK5⟩
      go_wp2_with fail
      refine (idsNext_any p mb (AL.del used id) k k id n w5 hS5 (by omega) (by omega) (by omega) (by omega) (by have := HL.out; omega) HH.out.2.1).mono ?_
      rintro e w6 ⟨rfl, hS6, hK6⟩
      go_wp2_with fail
      refine (idsLen_any p mb _ id k w6 hS6).mono ?_
      rintro e w7 ⟨rfl, rfl⟩
      rw [HH.out.2.2, hlU'.out]
      go_wp2_with fail
      go_ret
      exact ⟨rfl, (NX.out _ _ (hK6.mono (by simp)) (NX.out _ _ (hK5.mono (by simp)) (NX.out _ _ (hK4.mono (by simp)) hK1))).below⟩
end Go.Proofs.Ytfnleddabfpkgaa
