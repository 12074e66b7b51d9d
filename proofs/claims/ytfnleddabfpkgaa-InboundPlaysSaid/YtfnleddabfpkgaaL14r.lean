/- InboundRelease. -/
import Derived.Test.YtfnleddabfpkgaaInbL
import Derived.Test.YtfnleddabfpkgaaL14
import Derived.Test.YtfnleddabfpkgaaIn
import Derived.Deep.DeepCutAuto
import Derived.Deep.CutRange
namespace Go.Proofs.Ytfnleddabfpkgaa
open Go.RowKit
set_option maxRecDepth 10000
set_option linter.unusedVariables false
set_option maxHeartbeats 2000000

namespace Inb
def Ids (has : List (Int × Int)) : Prop := ∀ x, (AL.get has x).isSome = true → 1 ≤ x ∧ x ≤ 65535

theorem begin_ids {has : List (Int × Int)} {most id n : Int} (hG : Good has n) (hn : 0 ≤ n) (hI : Ids has) (h1 : 1 ≤ id) (h2 : id ≤ 65535) : Good (begin has most id).2.2 (n + 1) ∧ Ids (begin has most id).2.2 ∧ (begin has most id).2.2.length ≤ has.length + 1 := by
  have ids : ∀ v, Ids (AL.set has id v) := fun v x hx => by
    rw [AL.get_set] at hx
    split at hx
    · omega
    · exact hI x hx
  unfold begin
  rw [if_neg (by omega)]
  split
  · refine ⟨hG.set (by omega) (by have := hG.le hn id; omega), ids _, ?_⟩
    simp only [AL.length_set]; split <;> omega
  · split
    · exact ⟨hG.mono (by omega), hI, by simp⟩
    · refine ⟨hG.set (by omega) (by omega), ids _, ?_⟩
      simp only [AL.length_set]; split <;> omega
end Inb

def relRel1 (w : World) (p mb len : Nat) (i : Value) (wr : World) : Prop :=
  ∃ (k : Nat) (has : List (Int × Int)), i = .int .i64 k ∧ k ≤ len ∧ k ≤ 40 ∧ SetAt wr p mb has 100 ∧ Keep [mb] w wr ∧ Inb.Good has k ∧ Inb.Ids has ∧ has.length ≤ k

/-- The first k of L are released. -/
def Rel (has h2 : List (Int × Int)) (L : List Int) (k : Nat) : Prop := (∀ x, AL.get h2 x = if x ∈ L.take k then none else AL.get has x) ∧ h2.length + k = L.length

theorem AL.del_none {l : List (Int × Int)} {k : Int} (h : AL.get l k = none) : AL.del l k = l := by
  induction l with
  | nil => rfl
  | cons p t ih =>
    obtain ⟨a, v⟩ := p
    simp only [AL.get] at h
    split at h
    · cases h
    · rename_i hk; simp only [AL.del, if_neg hk, ih h]

theorem pw_notin {L : List Int} (h : L.Pairwise (· < ·)) {k : Nat} (hk : k < L.length) : L[k] ∉ L.take k := by
  intro hm
  obtain ⟨i, hi, e⟩ := List.getElem_of_mem hm
  simp at hi e
  have := List.pairwise_iff_getElem.1 h i k (by omega) hk (by omega)
  omega

theorem mem_take_succ {L : List Int} {k : Nat} (hk : k < L.length) (x : Int) : x ∈ L.take (k + 1) ↔ x ∈ L.take k ∨ x = L[k] := by
  rw [List.take_add_one, List.getElem?_eq_getElem hk, List.mem_append]; simp only [Option.toList_some, List.mem_singleton]

theorem Rel.step {has h2 : List (Int × Int)} {L : List Int} {k : Nat} (h : Rel has h2 L k) (hk : k < L.length) (hK : KeysOf L has) (hnd : (AL.keys h2).Nodup) :
    (AL.get h2 L[k]).isSome = true ∧ AL.get (AL.del h2 L[k]) L[k] = none ∧ Rel has (AL.del h2 L[k]) L (k + 1) := by
  have e1 : AL.get h2 L[k] = AL.get has L[k] := by rw [h.1, if_neg (pw_notin hK.1 hk)]
  have e2 : (AL.get has L[k]).isSome = true := AL.get_isSome.2 ((hK.2.1 _).1 (List.getElem_mem hk))
  refine ⟨by rw [e1]; exact e2, by rw [AL.get_del hnd, if_pos rfl], fun x => ?_, ?_⟩
  · rw [AL.get_del hnd, h.1]
    by_cases hx : x = L[k]
    · rw [if_pos hx, if_pos ((mem_take_succ hk x).2 (.inr hx))]
    · rw [if_neg hx]
      by_cases hx2 : x ∈ L.take k
      · rw [if_pos hx2, if_pos ((mem_take_succ hk x).2 (.inl hx2))]
      · rw [if_neg hx2, if_neg (fun h => ((mem_take_succ hk x).1 h).elim hx2 hx)]
  · rw [AL.length_del, e1, e2]
    have := h.2
    simp only [if_true]
    omega

theorem Rel.step' {has h2 : List (Int × Int)} {L : List Int} {k : Nat} (h : Rel has h2 L k) (hk : k < L.length) (hK : KeysOf L has) (hnd : (AL.keys h2).Nodup) (q : Int) (hq : L[k] = q) :
    (AL.get h2 q).isSome = true ∧ AL.get (AL.del h2 q) q = none ∧ Rel has (AL.del h2 q) L (k + 1) := by subst hq; exact h.step hk hK hnd

theorem pw_lt {L : List Int} (h : L.Pairwise (· < ·)) {i j : Nat} (hi : i < L.length) (hj : j < L.length) (hij : i < j) (x y : Int) (hx : L[i] = x) (hy : L[j] = y) : x < y := by
  subst hx; subst hy; exact List.pairwise_iff_getElem.1 h i j hi hj hij

theorem inbEnd_r (p mb : Nat) (has : List (Int × Int)) (most : Int) (id : Int) (r : Bool) (w : World) (hS : SetAt w p mb has most) (hr : (AL.get has id).isSome = r) :
    Calls Try.prog 19 #[.pointer (some ⟨p, 0, none⟩), .int .u32 id] w fun e w' => e = .returned (.bool r) ∧ SetAt w' p mb (AL.del has id) most ∧ Keep [mb] w w' := by
  subst hr; exact inbEnd_any p mb has most id w hS

def relRel2 (w : World) (p mb : Nat) (has : List (Int × Int)) (L : List Int) (i : Value) (wr : World) : Prop :=
  ∃ (k : Nat) (h2 : List (Int × Int)), i = .int .i64 k ∧ k ≤ L.length ∧ SetAt wr p mb h2 100 ∧ Keep [mb] w wr ∧ Rel has h2 L k

def relRel3 (w : World) (p mb : Nat) (L : List Int) (i : Value) (wr : World) : Prop :=
  ∃ (k : Nat) (h2 : List (Int × Int)), i = .int .i64 k ∧ k ≤ L.length ∧ SetAt wr p mb h2 100 ∧ Keep [mb] w wr ∧ Inb.Good h2 1 ∧ (∀ x, (AL.get h2 x).isSome = true → x ∈ L.take k) ∧ h2.length ≤ k

theorem release_walk (a0 : Option Addr) (len0 cap0 : Nat) (z0 : List Int) (w : World) (r0 : Sh.Rd w (.slice (.int .u32)) z0 [.slice a0 len0 cap0]) :
    Calls Try.prog 13 #[.slice a0 len0 cap0] w fun e w' => e = .returned (.bool true) ∧ Below w.heap.size w w' := by
  have hl0 : len0 ≤ maxLen := by obtain ⟨_, h1, h2⟩ := Sh.slice_len r0; omega
  unfold maxLen at hl0
  go_enter Try.func13, Try.ntmps13
  go_wp2_with fail
  refine (awake14 _).mono ?_
  rintro e w2 ⟨rfl, hK2⟩
  go_wp2_with fail
  refine (inbNew_any 100 _).mono ?_
  rintro e w3 ⟨⟨p, mb⟩, rfl, hS, hp, hmb, hK3⟩
  have hKw : Keep [] w w3 := hK2.then hK3
  have hmbw : w.heap.size ≤ mb := by have := hK2.size; simp only at hmb; omega
  have HW := hide (show ∀ b : World, Keep [mb] w3 b → Keep [] w b from fun b k => hKw.trans k (by simp) (by simp; omega))
  clear hKw hK2 hK3
  go_wp2_with fail
  go_loopw [4] (fun i wr => relRel1 w3 p mb len0 i wr) (fun i _ => 40 - (intOf i).toNat)
  case atStart => exact ⟨0, [], rfl, by omega, by omega, hS, Keep.refl _ _, fun x v h => by simp [AL.get] at h, fun x h => by simp [AL.get] at h, by simp⟩
  case round =>
    clear hS
    obtain ⟨k, has, rfl, hk1, hk2, hS1, hK1, hG, hI, hL⟩ := hrel
    have HG := hide hG
    have HI := hide hI
    clear hG hI
    obtain ⟨c, hc⟩ : ∃ c : Bool, c = decide (k < len0 ∧ k < 40) := ⟨_, rfl⟩
    have HC := hide hc
    clear hc
    go_upto_region 5 with fail
    go_cut [22] from 15 to 32 (fun s wx => s = .bool c ∧ wx = wr)
    case first =>
      by_cases h1 : k < len0
      · by_cases h2 : k < 40
        · obtain rfl : c = true := by rw [HC.out]; simp [h1, h2]
          go_wp2_with fail
          go_meet
          exact ⟨by first | rfl | (simp; omega), rfl⟩
        · obtain rfl : c = false := by rw [HC.out]; simp [h2]
          go_wp2_with fail
          go_meet
          exact ⟨by first | rfl | (simp; omega), rfl⟩
      · obtain rfl : c = false := by rw [HC.out]; simp [h1]
        go_wp2_with fail
        go_meet
        exact ⟨rfl, rfl⟩
    case rest =>
    obtain ⟨rfl, rfl⟩ := hcut
    cases c
    · clear HC
      go_wp2_with fail
      refine (inbList_any p mb has 100 _ hS1 (by omega)).mono ?_
      rintro e w4 ⟨⟨v, L⟩, rfl, hrow, hKO, hK4⟩
      obtain ⟨A, cap, hv, hread⟩ := RowAt.read hrow
      simp only at hv hread hKO hrow
      subst hv
      have HKO := hide hKO
      have hLn : L.length = has.length := hKO.2.2
      have hKL := hK1.trans (S := [mb]) hK4 (by simp) (by simp)
      have hS4 := hS1.keep hK4 (by simp) (by simp)
      clear hKO hrow hS1 hK1 hK4
      have hL40 : L.length ≤ 40 := by omega
      have HRD := hide hread
      have HS4 := hide hS4
      clear hread hS4
      go_wp2_with fail
      go_loopw [37] (fun i wr => relRel2 w4 p mb has L i wr) (fun i _ => L.length - (intOf i).toNat)
      case atStart => exact ⟨0, has, rfl, by omega, HS4.out, Keep.refl _ _, by simp [Rel, hLn]⟩
      case round =>
        obtain ⟨k, h2, rfl, hk, hS5, hK5, hR5⟩ := hrel
        have HR5 := hide hR5
        clear hR5
        by_cases hlt : k < L.length
        · obtain ⟨g, rfl, hg, hcell⟩ := HRD.out (by omega)
          have hgm : g ≠ mb := by
            rintro rfl
            have h1 := hcell 0 (by omega)
            obtain ⟨es, cl, hm, _⟩ := HS4.out.2
            simp [World.cell?, hm] at h1
          have hlt' : (k : Int) < (L.length : Int) := by omega
          have HLT := hide hlt
          obtain ⟨q, hq⟩ : ∃ q, L[k] = q := ⟨_, rfl⟩
          have ck : wr.cell? ⟨g, k, none⟩ = some (.int .u32 q) := by rw [← hq]; exact (hK5.cell (p := ⟨g, k, none⟩) hg (by simpa using hgm)).trans (hcell k hlt)
          have HST := hide (HR5.out.step' hlt HKO.out hS5.2.nodup q hq)
          have E1 := fun w hS => hide (inbEnd_r p mb h2 100 q true w hS HST.out.1)
          have E2 := fun w hS => hide (inbEnd_r p mb (AL.del h2 q) 100 q false w hS (by rw [HST.out.2.1]; rfl))
          have HE := hide (AL.del_none HST.out.2.1)
          by_cases hk0 : 0 < k
          · obtain ⟨m, hm⟩ : ∃ m, k = m + 1 := ⟨k - 1, by omega⟩
            have hmL : m < L.length := by omega
            obtain ⟨q0, hq0⟩ : ∃ q0, L[m] = q0 := ⟨_, rfl⟩
            have cm : wr.cell? ⟨g, m, none⟩ = some (.int .u32 q0) := by rw [← hq0]; exact (hK5.cell (p := ⟨g, m, none⟩) hg (by simpa using hgm)).trans (hcell m hmL)
            have hmq := pw_lt HKO.out.1 hmL hlt (by omega) q0 q hq0 hq
            have hge : decide (q ≤ q0) = false := decide_eq_false (by omega)
            subst hm
            have ek : ((m + 1 : Nat) : Int) = (m : Int) + 1 := by omega
            rw [ek] at hlt' ⊢
            have hml : (m : Int) < (L.length : Int) := by omega
            clear hq hq0 hcell ek hlt
            go_wp2_with fail
            refine (E1 _ hS5).out.mono ?_
            rintro e w6 ⟨rfl, hS6, hK6⟩
            go_wp2_with fail
            refine (E2 _ hS6).out.mono ?_
            rintro e w7 ⟨rfl, hS7, hK7⟩
            rw [HE.out] at hS7
            go_wp2_with fail
            exact ⟨⟨m + 1 + 1, _, rfl, by have := HLT.out; omega, hS7, (hK5.then hK6).then hK7, HST.out.2.2⟩, by have := HLT.out; simp [intOf] <;> omega⟩
          · obtain rfl : k = 0 := by omega
            clear hq hcell hlt
            go_wp2_with fail
            refine (E1 _ hS5).out.mono ?_
            rintro e w6 ⟨rfl, hS6, hK6⟩
            go_wp2_with fail
            refine (E2 _ hS6).out.mono ?_
            rintro e w7 ⟨rfl, hS7, hK7⟩
            rw [HE.out] at hS7
            go_wp2_with fail
            exact ⟨⟨1, _, rfl, by have := HLT.out; omega, hS7, (hK5.then hK6).then hK7, HST.out.2.2⟩, by have := HLT.out; simp [intOf] <;> omega⟩
        · have hl0 : h2 = [] := List.eq_nil_of_length_eq_zero (by have := HR5.out.2; omega)
          subst hl0
          clear HR5
          go_wp2_with fail
          refine (inbLen_any p mb [] 100 wr hS5).mono ?_
          rintro e w6 ⟨rfl, rfl⟩
          go_wp2_with fail
          go_loopw [70] (fun i wr => relRel3 w4 p mb L i wr) (fun i _ => L.length - (intOf i).toNat)
          case atStart => exact ⟨0, [], rfl, by omega, hS5, hK5, fun x v h => by simp [AL.get] at h, fun x h => by simp [AL.get] at h, by simp⟩
          case round =>
            clear hS5 hK5 hlt hk
            obtain ⟨k, h3, rfl, hk, hS5, hK5, hG5, hI5, hl5⟩ := hrel
            have HG5 := hide hG5
            have HI5 := hide hI5
            clear hG5 hI5
            by_cases hlt : k < L.length
            · obtain ⟨g, rfl, hg, hcell⟩ := HRD.out (by omega)
              have hgm : g ≠ mb := by
                rintro rfl
                have h1 := hcell 0 (by omega)
                obtain ⟨es, cl, hm, _⟩ := HS4.out.2
                simp [World.cell?, hm] at h1
              have hlt' : (k : Int) < (L.length : Int) := by omega
              have HLT := hide hlt
              obtain ⟨q, hq⟩ : ∃ q, L[k] = q := ⟨_, rfl⟩
              have ck : wr.cell? ⟨g, k, none⟩ = some (.int .u32 q) := by rw [← hq]; exact (hK5.cell (p := ⟨g, k, none⟩) hg (by simpa using hgm)).trans (hcell k hlt)
              have hqm : q ∈ L := by rw [← hq]; exact List.getElem_mem hlt
              have hqi := HI.out q (AL.get_isSome.2 ((HKO.out.2.1 q).1 hqm))
              have hnone : AL.get h3 q = none := by
                cases e : AL.get h3 q with
                | none => rfl
                | some v => exact absurd (HI5.out q (by rw [e]; rfl)) (by rw [← hq]; exact pw_notin HKO.out.1 hlt)
              have HB := hide (Inb.begin_new (has := h3) (most := 100) hqi.1 hqi.2 (by rw [hnone]; simp) (by omega))
              have hq0 := hqi.1
              have hq1 := hqi.2
              have hv : (AL.get h3 q).getD 0 < 1000000000 := by rw [hnone]; simp
              have HV := hide hv
              have HSUB := hide (show ∀ x, (AL.get (AL.set h3 q 1) x).isSome = true → x ∈ L.take (k + 1) from fun x hx => by
                rw [AL.get_set] at hx
                by_cases e : x = q
                · exact (mem_take_succ hlt x).2 (.inr (e.trans hq.symm))
                · rw [if_neg e] at hx; exact (mem_take_succ hlt x).2 (.inl (HI5.out x hx)))
              have HGS := hide (show Inb.Good (AL.set h3 q 1) 1 from fun x v e => by
                rw [AL.get_set] at e
                split at e
                · simp at e; omega
                · exact HG5.out x v e)
              have HLN := hide (show (AL.set h3 q 1).length ≤ k + 1 by rw [AL.length_set, hnone]; simp; omega)
              clear hq hcell hnone hv hqi hlt
              go_wp2_with fail
              refine (inbBegin_any p mb h3 100 q _ _ hS5 HB.out (by omega) (by omega) HV.out).mono ?_
              rintro e w6 ⟨rfl, hS6, hK6⟩
              go_wp2_with fail
              exact ⟨⟨k + 1, _, rfl, by have := HLT.out; omega, hS6, hK5.then hK6, HGS.out, HSUB.out, HLN.out⟩, by have := HLT.out; simp [intOf] <;> omega⟩
            · go_wp2_with fail
              refine (inbClear_any p mb h3 100 wr hS5).mono ?_
              rintro e w6 ⟨rfl, hS6, hK6⟩
              go_wp2_with fail
              refine (inbLen_any p mb [] 100 w6 hS6).mono ?_
              rintro e w7 ⟨rfl, rfl⟩
              go_wp2_with fail
              refine (inbList_any p mb [] 100 _ hS6 (by simp)).mono ?_
              rintro e w8 ⟨⟨v9, L9⟩, rfl, hrow9, hKO9, hK9⟩
              obtain ⟨A9, cap9, hv9, _⟩ := RowAt.read hrow9
              have hl9 : L9.length = 0 := hKO9.2.2
              simp only at hv9
              rw [hl9] at hv9
              subst hv9
              clear hrow9 hKO9 hl9
              go_wp2_with fail
              go_ret
              exact ⟨rfl, (HW.out _ (hKL.then ((hK5.then hK6).trans hK9 (by simp) (by simp)))).below⟩
    · have hlt : k < len0 ∧ k < 40 := by have := HC.out; simpa using this
      obtain ⟨hlt, h40⟩ := hlt
      clear HC
      obtain ⟨b, off, rfl, hb, hc⟩ := Sh.slice_int r0 (by omega)
      obtain ⟨hcell, hwf⟩ := hc k hlt
      clear hc
      have hcw : wc.cell? ⟨b, off + k, none⟩ = some (.int .u32 (List.getD z0 k 0)) := ((HW.out _ hK1).cell (p := ⟨b, off + k, none⟩) hb (by simp)).trans hcell
      obtain ⟨hz0, hz1⟩ := bounds_u32 hwf
      clear hcell
      generalize List.getD z0 k 0 = o at hcw hwf hz0 hz1
      obtain ⟨id, hid⟩ : ∃ id, 1 + o % 65535 = id := ⟨_, rfl⟩
      have i1 : 1 ≤ id := by omega
      have i2 : id ≤ 65535 := by omega
      have hv := HG.out.le (by omega) id
      go_wp2_with fail
      refine (inbBegin_any p mb has 100 id _ wc hS1 rfl (by omega) (by omega) (by omega)).mono ?_
      rintro e w5 ⟨rfl, hS5, hK5⟩
      have HO := hide (Inb.begin_ids (most := 100) HG.out (by omega) HI.out i1 i2)
      obtain ⟨has1, hh⟩ : ∃ has1, (Inb.begin has 100 id).2.2 = has1 := ⟨_, rfl⟩
      rw [hh] at hS5 HO
      clear hh hid
      go_wp2_with fail
      exact ⟨⟨k + 1, has1, rfl, by omega, by omega, hS5, hK1.then hK5, by have := HO.out.1; simpa using this, HO.out.2.1, by have := HO.out.2.2; omega⟩, by simp [intOf] <;> omega⟩
end Go.Proofs.Ytfnleddabfpkgaa
