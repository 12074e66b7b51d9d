/- TimerMoves: the walk. -/
import Derived.Test.YtbgondiibnjcgaaA18
import Derived.Test.YtbgondiibnjcgaaIns
import Derived.Test.YtbgondiibnjcgaaCut
import Derived.Outline
import Derived.Deep.DeepFit
import Derived.Deep.CutBlock
import Derived.Deep.DeepCutAuto
import Derived.Deep.CutRange
namespace Go.Proofs.Ytbgondiibnjcgaa
open Go.RowKit Go.Proofs.Ytbgondiibnjcgaa.PTimerPlays Go.Proofs.YtbgondiibnjcgaaW.PrintWords Go.Proofs.YtbgondiibnjcgaaW.PrintLast
set_option maxRecDepth 10000
set_option linter.unusedVariables false
set_option maxHeartbeats 2000000

def SeenAt (wr : World) (bs : Nat) (r : List En) (k : Nat) : Prop := ∃ ls : List En, MapAt wr bs Value.string (Value.int .i64) ls ∧ ls.length = r.length ∧ (∀ x, (AL.get ls x).isSome = true ↔ ∃ p ∈ r, p.1 = x) ∧ ∀ x v, AL.get ls x = some v → 0 ≤ v ∧ v ≤ k

def movesRel (w : World) (n b bs : Nat) (at2 : Int) (len : Nat) (i : Value) (wr : World) : Prop := ∃ (k : Nat) (r : List En), i = .int .i64 k ∧ k ≤ len ∧ k ≤ 15 ∧ Mt w wr n b r (2 * k) ∧ (∀ p ∈ r, p.2 = at2) ∧ SeenAt wr bs r k ∧ Below w.heap.size w wr

theorem SeenAt.step {w' : World} {bs : Nat} {r : List En} {k : Nat} {ls : List En} {key : BA} {a : Int} (hn : (r.map (·.1)).Nodup) (hl : ls.length = r.length) (hi : ∀ x, (AL.get ls x).isSome = true ↔ ∃ p ∈ r, p.1 = x) (hv : ∀ x v, AL.get ls x = some v → 0 ≤ v ∧ v ≤ k)
    (hM : MapAt w' bs Value.string (Value.int .i64) (AL.set ls key ((AL.get ls key).getD 0 + 1))) : SeenAt w' bs (insE (rmE r key) (key, a)) (k + 1) := by
  refine ⟨_, hM, ?_, ?_, ?_⟩
  · rw [ins_length hn, AL.length_set, hl]
    have e : (AL.get ls key).isSome = (AL.get r key).isSome := by rw [Bool.eq_iff_iff, hi, get_some_iff]
    rw [e]
  · intro x
    rw [AL.get_set]
    by_cases hx : x = key
    · subst hx
      simp only [if_true, Option.isSome_some, true_iff]
      exact ⟨_, ins_mem.2 (.inl rfl), rfl⟩
    · rw [if_neg hx, hi]
      constructor
      · rintro ⟨p, hp, e⟩
        exact ⟨p, ins_mem.2 (.inr ⟨hp, by rw [e]; exact hx⟩), e⟩
      · rintro ⟨p, hp, e⟩
        rcases ins_mem.1 hp with rfl | ⟨hp, _⟩
        · exact absurd e.symm hx
        · exact ⟨p, hp, e⟩
  · intro x v h
    rw [AL.get_set] at h
    split at h
    · injection h with h
      subst h
      cases hg : AL.get ls key with
      | none => simp; omega
      | some u => have := hv key u hg; simp; omega
    · have := hv x v h; omega

theorem moves_walk (a0 : Option Addr) (len0 cap0 : Nat) (z0 : Sh.T (.slice .str)) (a1 : Int) (a2 : Int) (w : World) (r0 : Sh.Rd w (.slice .str) z0 [.slice a0 len0 cap0]) (w1 : (Lit.int .i64 a1).wf = true) (w2 : (Lit.int .i64 a2).wf = true) :
    Calls Try.prog 5 #[.slice a0 len0 cap0, .int .i64 a1, .int .i64 a2] w fun e w' => e = .returned (.bool true) ∧ Below w.heap.size w w' := by
  have hl0 : len0 ≤ maxLen := by obtain ⟨_, h1, h2⟩ := Sh.slice_len r0; omega
  unfold maxLen at hl0
  have hmm := @run_makeMap Try.prog
  by_cases hab : a1 = a2
  · have hab' : (a1 == a2) = true := by simpa using hab
    clear hab
    go_enter Try.func5, Try.ntmps5
    go_wp2_with fail
    refine (awake18 _).mono ?_
    rintro e wa ⟨rfl, hka⟩
    go_wp2_with fail
    refine (awake18 _).mono ?_
    rintro e wb ⟨rfl, hkb⟩
    go_wp2_with fail
    go_ret
    exact ⟨rfl, (hka.then hkb).below⟩
  · have hab' : (a1 == a2) = false := by simpa using hab
    go_enter Try.func5, Try.ntmps5
    go_wp2_with fail
    refine (awake18 _).mono ?_
    rintro e wa ⟨rfl, hka⟩
    have hza := hka.size
    go_wp2_with fail
    refine (tNew (W := w) (w := wa) hza).mono ?_
    rintro e w3 ⟨rfl, hM3, hk3⟩
    have hz3 := hk3.size
    have hn3 := hM3.nlt
    have hS3 := MapAt.new w3 Value.string (Value.int .i64) (κ := BA) (ν := Int)
    have hM4 := hM3.keep ((Keep.refl [] w3).alloc (.map #[] 0))
    have hB4 := ((hka.then hk3).alloc (.map #[] 0)).below
    clear hM3
    go_wp2_with fail
    go_loopw [9] (fun i wr => movesRel w (wa.heap.size + 1) wa.heap.size w3.heap.size a2 len0 i wr) (fun i _ => 15 - (intOf i).toNat)
    case atStart => exact ⟨0, [], rfl, by omega, by omega, hM4, by simp, ⟨[], hS3, rfl, by simp [AL.get], by simp [AL.get]⟩, hB4⟩
    case round =>
      obtain ⟨k, r, rfl, hk1, hk2, hM, hA2, hS, hBw⟩ := hrel
      obtain ⟨c, hc⟩ : ∃ c : Bool, c = decide (k < len0 ∧ k < 15) := ⟨_, rfl⟩
      have HC := hide hc
      clear hc
      go_upto_region 6 with fail
      go_cut [30] from 23 to 49 (fun s wx => s = .bool c ∧ wx = wr)
      case first =>
        by_cases h1 : k < len0
        · by_cases h2 : k < 15
          · obtain rfl : c = true := by rw [HC.out]; simp [h1, h2]
            go_wp2_with fail
            go_meet
            exact ⟨by first | rfl | (simp; omega), rfl⟩
          · obtain rfl : c = false := by rw [HC.out]; simp [h2]
            go_wp2_with fail
            go_meet
            exact ⟨by first | rfl | (simp; omega), rfl⟩
        · obtain rfl : c = false := by rw [HC.out]; simp [h1]
          go_wp2_with fail
          go_meet
          exact ⟨rfl, rfl⟩
      case rest =>
      obtain ⟨rfl, rfl⟩ := hcut
      cases c
      · clear HC
        obtain ⟨ls, hMs, hll, _, _⟩ := hS
        have HL := hide (tLen hM)
        have hlen := fun ty => run_len_map (w := wc) Try.underlying27 hMs ty
        have hmb := hM.base
        rw [hll] at hlen
        go_wp2_with fail
        refine HL.out.mono ?_
        rintro e w4 ⟨rfl, rfl⟩
        have nr : ((r.length : Int) != (r.length : Int)) = false := by simp
        have hS2 := hide hMs
        have HA2 := hide hA2
        have hKr := hM.len
        clear hMs hA2
        rcases Int.lt_or_lt_of_ne hab with hlt | hlt
        · have hmin : min a1 a2 = a1 := by omega
          have hmax : max a1 a2 = a2 := by omega
          have f1 : r.filter (fun p => decide (p.2 ≤ a1)) = [] := List.filter_eq_nil_iff.2 fun p hp => by have := HA2.out p hp; simp; omega
          have f2 : r.filter (fun p => decide (a1 < p.2)) = r := List.filter_eq_self.2 fun p hp => by have := HA2.out p hp; simp; omega
          have f3 : r.filter (fun p => decide (p.2 ≤ a2)) = r := List.filter_eq_self.2 fun p hp => by have := HA2.out p hp; simp; omega
          have HF := hide (And.intro f1 (And.intro f2 f3))
          have HM := hide (And.intro hmin hmax)
          clear f1 f2 f3 hmin hmax
          go_wp2_with fail
          rw [HM.out.1]
          refine (tDue hM (by omega) a1).mono ?_
          rintro e w6 ⟨v6, rfl, hO6, hM6, hk6⟩
          rw [HF.out.1] at hO6
          rw [HF.out.2.1] at hM6
          obtain ⟨A6, c6, rfl⟩ := hO6.slice
          have hkm6 := hM.km hk6
          have hS6 := hS2.out.keep hk6 (by simp; omega)
          clear hO6 hlen
          go_wp2_with fail
          rw [HM.out.2]
          refine (tDue hM6 (by omega) a2).mono ?_
          rintro e w7 ⟨v7, rfl, hO7, hM7, hk7⟩
          rw [HF.out.2.2] at hO7
          obtain ⟨A7, c7, rfl⟩ := hO7.slice
          have hkm7 := hM6.km hk7
          have hS7 := hS6.keep hk7 (by simp; omega)
          have hlen := fun ty => run_len_map (w := w7) Try.underlying27 hS7 ty
          rw [hll] at hlen
          have hbb := hkm7.below (hkm6.below hBw)
          clear hO7
          have er : ((r.length : Int) == (r.length : Int)) = true := by simp
          go_wp2_with fail
          go_ret
          exact ⟨rfl, hbb⟩
        · have hmin : min a1 a2 = a2 := by omega
          have hmax : max a1 a2 = a1 := by omega
          have f1 : r.filter (fun p => decide (p.2 ≤ a2)) = r := List.filter_eq_self.2 fun p hp => by have := HA2.out p hp; simp; omega
          have f2 : r.filter (fun p => decide (a2 < p.2)) = [] := List.filter_eq_nil_iff.2 fun p hp => by have := HA2.out p hp; simp; omega
          have HF := hide (And.intro f1 f2)
          have HM := hide (And.intro hmin hmax)
          clear f1 f2 hmin hmax
          go_wp2_with fail
          rw [HM.out.1]
          refine (tDue hM (by omega) a2).mono ?_
          rintro e w6 ⟨v6, rfl, hO6, hM6, hk6⟩
          rw [HF.out.1] at hO6
          rw [HF.out.2] at hM6
          obtain ⟨A6, c6, rfl⟩ := hO6.slice
          have hkm6 := hM.km hk6
          have hS6 := hS2.out.keep hk6 (by simp; omega)
          clear hO6 hlen
          go_wp2_with fail
          rw [HM.out.2]
          refine (tDue hM6 (by omega) a1).mono ?_
          rintro e w7 ⟨v7, rfl, hO7, hM7, hk7⟩
          rw [List.filter_nil] at hO7
          obtain ⟨A7, c7, rfl⟩ := hO7.slice
          have hkm7 := hM6.km hk7
          have hS7 := hS6.keep hk7 (by simp; omega)
          have hlen := fun ty => run_len_map (w := w7) Try.underlying27 hS7 ty
          rw [hll] at hlen
          have hbb := hkm7.below (hkm6.below hBw)
          clear hO7
          have er : ((r.length : Int) == (r.length : Int)) = true := by simp
          go_wp2_with fail
          go_ret
          exact ⟨rfl, hbb⟩
      · have hlt : k < len0 ∧ k < 15 := by have := HC.out; simpa using this
        obtain ⟨hlt, h15⟩ := hlt
        clear HC
        obtain ⟨b, off, rfl, hb, hc⟩ := slice_str r0 (by omega)
        obtain ⟨s, c0⟩ := hc k hlt
        clear hc
        have d0 : wc.cell? ⟨b, off + k, none⟩ = some (.string s) := (hBw.cell (p := ⟨b, off + k, none⟩) hb).trans c0
        have hlt' : (k : Int) < (len0 : Int) := by omega
        obtain ⟨ls, hMs, hll, hi, hv⟩ := hS
        have HI := hide hi
        have HV := hide hv
        have HA2 := hide hA2
        clear c0 hi hv hA2
        go_wp2_with fail
        refine (cut01_any s 8 _).mono ?_
        rintro e w5 ⟨rfl, rfl⟩
        have hks := cutS_size s 8
        generalize cutS s 8 = key at *
        have look := lookS1 w5 w3.heap.size ls hMs key
        have hvk : 0 ≤ (AL.get ls key).getD 0 ∧ (AL.get ls key).getD 0 ≤ k := by
          cases hg : AL.get ls key with
          | none => simp
          | some u => simpa using HV.out key u hg
        obtain ⟨q, hq⟩ : ∃ q, (AL.get ls key).getD 0 = q := ⟨_, rfl⟩
        rw [hq] at look hvk
        have HQ := hide hq
        clear hq
        obtain ⟨hq0, hq1⟩ := hvk
        have hmb := hM.base
        have hnd := hM.nodup
        have HM := hide hM
        have HBw := hide hBw
        clear hM hBw
        go_wp2_with (at_mapUpdate; refine wpList_mapUpdate_map rfl _ _ _ MapT rfl 9 3 lawStr Try.underlying27 w3.heap.size ls rfl hMs key (q + 1) rfl rfl ?_; intro w6 hM6 hK6 hz6)
        have hM7 := HM.out.off hK6 (fun x hx _ => by simp at hx; omega)
        refine (tSet hM7 key a1 (by omega)).mono ?_
        rintro e w7 ⟨rfl, hM8, hk8⟩
        go_wp2_with fail
        refine (tSet hM8 key a2 (by omega)).mono ?_
        rintro e w8 ⟨rfl, hM9, hk9⟩
        have hmS := (hM6.keep hk8 (by simp; omega)).keep hk9 (by simp; omega)
        have hkk : KeepM w w6 w7 := hM7.km hk8
        have hkk2 : KeepM w w7 w8 := hM8.km hk9
        have hB6 : Below w.heap.size w w6 := Keep.below_of HBw.out hK6 (by simp; omega)
        have hBf := hkk2.below (hkk.below hB6)
        have hSf := (SeenAt.step (a := a2) hnd hll HI.out HV.out (by rw [HQ.out]; exact hmS))
        have hrr := ins_twice r key a1 a2
        go_wp2_with fail
        go_roundw
        case rel =>
          refine ⟨k + 1, _, by simp, by omega, by omega, hM9.mono (by omega), ?_, ?_, hBf⟩
          · intro p hp
            rcases ins_mem.1 hp with rfl | ⟨hp, hne⟩
            · rfl
            · rcases ins_mem.1 hp with rfl | ⟨hp, _⟩
              · exact absurd rfl hne
              · exact HA2.out p hp
          · rw [hrr]; exact hSf
        case measure => simp [intOf]; omega
end Go.Proofs.Ytbgondiibnjcgaa
