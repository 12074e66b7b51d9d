/- IdsPlays. -/
import Derived.Test.YtfnleddabfpkgaaR13
import Derived.Test.YtfnleddabfpkgaaKd
import Derived.Test.YtfnleddabfpkgaaSrt8
import Derived.Test.YtfnleddabfpkgaaInbL
import Derived.Test.YtfnleddabfpkgaaIn
import Derived.Outline
import Derived.Deep.DeepFit
import Derived.Deep.CutBlock
import Derived.Deep.DeepCutAuto
import Derived.Deep.CutRange
namespace Go.Proofs.Ytfnleddabfpkgaa
open Go.RowKit Go.Proofs.Ytfnleddabfpkgaa.PIdsPlays Go.Proofs.YtfnleddabfpkgaaW.PrintWords
set_option maxRecDepth 10000
set_option linter.unusedVariables false
set_option maxHeartbeats 2000000

abbrev IntT : Nat := 3
abbrev PoolT : Nat := 69
abbrev kI : Kd Int := Kd.int .i64

theorem PoolAt.keep {S : List Nat} {w w' : World} {p mb : Nat} {used : List (Int × Int)} {last most : Int} (h : PoolAt w p mb used last most) (hk : Keep S w w') (h1 : p ∉ S) (h2 : mb ∉ S) : PoolAt w' p mb used last most := ⟨h.1.keep hk h1, h.2.keep hk h2⟩

theorem idsList_any (p mb : Nat) (used : List (Int × Int)) (last most : Int) (w : World) (hS : PoolAt w p mb used last most) (hN : used.length < 1000000000) :
    Calls Try.prog 52 #[.pointer (some ⟨p, 0, none⟩)] w (Px fun (x : Value × List Int) e w' => e = .returned x.1 ∧ RowAt w' x.1 x.2 ∧ KeysOf x.2 used ∧ Keep [] w w') := by
  have c0 : w.cell? ⟨p, 0, none⟩ = some (.map (some mb)) := hS.1.cell 0
  have HS := hide hS
  clear hS
  go_enter Try.func52, Try.ntmps52
  go_wp2_with fail
  refine (keys_any _ _).mono ?_
  rintro e w1 ⟨rfl, rfl⟩
  go_wp2_with fail
  refine (sortedKeys_any (Value.int .i64) _ w.heap.size mb used (HS.out.2.alloc _) (by simp) ((Blk.new w _ _).cell 0) hN (sorts_any _ hN)).mono ?_
  rintro e w2 ⟨⟨v, L⟩, rfl, hrow, hK, hkp⟩
  have HR := hide hrow
  have HK := hide hK
  clear hrow hK
  go_wp2
  go_ret
  exact ⟨(v, L), rfl, HR.out, HK.out, ((Keep.refl [] w).alloc _).then hkp⟩

def isRel (w9 : World) (n : Nat) (i : Value) (wr : World) : Prop := ∃ j : Nat, i = .int .i64 j ∧ j ≤ n ∧ Keep [] w9 wr

theorem own_int {base : Nat} {w : World} {v : Value} {l : List Int} (h : Own kI IntT base w v l) {j : Nat} (hj : j < l.length) (x : Int) (hx : l[j] = x) :
    ∃ g cap, v = .slice (some ⟨g, 0, none⟩) l.length cap ∧ g < w.heap.size ∧ w.cell? ⟨g, j, none⟩ = some (.int .i64 x) := by
  subst hx
  obtain ⟨g, cap, hv, _, hg⟩ := h.form (by omega)
  obtain ⟨A, c, hv', _, hC⟩ := h.reads
  rw [hv] at hv'
  cases hv'
  obtain ⟨ad, c1, e, hc1, hK, hcell⟩ := Kd.C_get hC 0 (j : Int) (by omega) (by omega)
  cases e
  have hK' : c1 = [.int .i64 (l.getD (j : Int).toNat 0)] := hK
  subst hK'
  have := hcell 0 _ rfl
  rw [show (j : Int).toNat = j by omega, add_plain, show kI.sz = 1 from rfl] at this
  refine ⟨g, _, hv, hg, ?_⟩
  simpa [List.getD, hj] using this

theorem is_any (p mb : Nat) (used : List (Int × Int)) (l : List Int) (v : Value) (base : Nat) (last most : Int) (w : World) (hS : PoolAt w p mb used last most) (hO : Own kI IntT base w v l) (hSm : R13.Same used l most) (hl : l.length < 1000) (hm : most ≤ 65535) :
    Calls Try.prog 43 #[.pointer (some ⟨p, 0, none⟩), .agg #[v, .int .i64 last, .int .i64 most]] w fun e w' => e = .returned (.int .i64 0) ∧ Keep [] w w' := by
  obtain ⟨A6, c6, rfl⟩ := hO.slice
  have hul := hSm.len
  have hN : used.length < 1000000000 := by omega
  have HUL := hide hul
  have HSm := hide hSm
  clear hul hSm
  have hK0 := (Keep.refl [] w).alloc (.cells #[.slice A6 l.length c6, .int .i64 last, .int .i64 most] PoolT)
  have hS0 := hS.keep hK0 (by simp) (by simp)
  have hO0 := hO.keep hK0 (by simp)
  have hXB := Blk.new w #[.slice A6 l.length c6, .int .i64 last, .int .i64 most] PoolT
  go_enter Try.func43, Try.ntmps43
  go_wp2_with fail
  go_fit (idsList_any p mb used last most _ hS0 hN)
  rintro e w5 ⟨⟨v9, L9⟩, rfl, hrow, hKO, hK5⟩
  obtain ⟨A9, cap9, hv9, hread⟩ := RowAt.read hrow
  have hLe : L9 = l := HSm.out.keys hKO
  have HLe := hide hLe
  simp only at hv9 hread
  rw [hLe] at hv9
  subst hv9
  have HRD := hide hread
  clear hread hrow hKO hLe
  have hS5 := hS0.keep hK5 (by simp) (by simp)
  have hO5 := hO0.keep hK5 (by simp)
  have hX5 := hXB.keep hK5 (by simp)
  have x0 : w5.cell? ⟨w.heap.size, 0, none⟩ = some (.slice A6 l.length c6) := hX5.cell 0
  have hul := HUL.out
  go_wp2_with fail
  refine (idsLen_any p mb used last most _ hS5).mono ?_
  rintro e w6 ⟨rfl, rfl⟩
  rw [hul]
  clear hul
  go_wp2_with fail
  go_loopw [26] (fun i wr => isRel w5 l.length i wr) (fun i _ => l.length - (intOf i).toNat)
  case atStart => exact ⟨0, rfl, by omega, Keep.refl _ _⟩
  case round =>
    obtain ⟨j, rfl, hj, hK6⟩ := hrel
    have hS6 := hS5.keep hK6 (by simp) (by simp)
    have hO6 := hO5.keep hK6 (by simp)
    by_cases hlt : j < l.length
    · obtain ⟨q, hq⟩ : ∃ q, l[j] = q := ⟨_, rfl⟩
      obtain ⟨g, cap, hv, hg, d0⟩ := own_int hO6 hlt q hq
      have hA6 : A6 = some ⟨g, 0, none⟩ := by injection hv
      subst hA6
      clear hv
      have hj9 : j < L9.length := by rw [HLe.out]; exact hlt
      obtain ⟨g9, rfl, hg9, hc9⟩ := HRD.out (by omega)
      have hq9 : L9[j] = q := by rw [← hq]; simp [HLe.out]
      have d9 : wr.cell? ⟨g9, j, none⟩ = some (.int .u32 q) := by rw [← hq9]; exact (hK6.cell (p := ⟨g9, j, none⟩) hg9 (by simp)).trans (hc9 j hj9)
      have hqm : q ∈ l := by rw [← hq]; exact List.getElem_mem hlt
      have hqi := HSm.out.ids q hqm
      have HT := hide (fun W hS => idsHas_op p mb used last most q true W hS (by rw [HSm.out.has]; exact decide_eq_true hqm))
      have q0 := hqi.1
      have q1 := hqi.2
      have hq2 : (q != q) = false := by simp
      have hlt' : (j : Int) < (l.length : Int) := by omega
      have HLT := hide hlt
      clear hq hq9 hqi hqm hlt hc9 hj9
      go_wp2_with fail
      refine (HT.out _ hS6).mono ?_
      rintro e w7 ⟨rfl, hS7, hK7⟩
      go_wp2_with fail
      exact ⟨⟨j + 1, rfl, by have := HLT.out; omega, hK6.then hK7⟩, by have := HLT.out; simp [intOf] <;> omega⟩
    · go_wp2_with fail
      go_ret
      exact ⟨rfl, (hK0.then hK5).then hK6⟩

def poolRel (w : World) (p mb xb len : Nat) (most : Int) (i : Value) (wr : World) : Prop :=
  ∃ (k : Nat) (used : List (Int × Int)) (last : Int) (l : List Int) (v : Value), i = .int .i64 k ∧ k ≤ len ∧ k ≤ 50 ∧ PoolAt wr p mb used last most ∧ Blk wr xb #[v, .int .i64 last, .int .i64 most] PoolT ∧ Below w.heap.size w wr ∧ Own kI IntT w.heap.size wr v l ∧ R13.Same used l most ∧ l.length ≤ k ∧ 0 ≤ last ∧ last ≤ most

def poolCut (w : World) (p mb xb n : Nat) (most : Int) (wr : World) : Prop :=
  ∃ (used : List (Int × Int)) (last : Int) (l : List Int) (v : Value), PoolAt wr p mb used last most ∧ Blk wr xb #[v, .int .i64 last, .int .i64 most] PoolT ∧ Below w.heap.size w wr ∧ Own kI IntT w.heap.size wr v l ∧ R13.Same used l most ∧ l.length ≤ n ∧ 0 ≤ last ∧ last ≤ most

theorem fin13 {w w6 : World} {p mb xb n : Nat} {used : List (Int × Int)} {last M last0 : Int} {l : List Int} {v v2 : Value} (hS6 : PoolAt w6 p mb used last M) (hX6 : Blk w6 xb #[v, .int .i64 last0, .int .i64 M] PoolT) (hB6 : Below w.heap.size w w6) (hO6 : Own kI IntT w.heap.size w6 v2 l)
    (hSm : R13.Same used l M) (hl : l.length ≤ n) (h0 : 0 ≤ last) (h1 : last ≤ M) (hxb : w.heap.size ≤ xb) (hpx : p ≠ xb) (hmx : mb ≠ xb) :
    poolCut w p mb xb n M ((((w6.alloc (.cells #[v2, .int .i64 last, .int .i64 M] PoolT)).setCell ⟨xb, 0, none⟩ v2).setCell ⟨xb, 1, none⟩ (.int .i64 last)).setCell ⟨xb, 2, none⟩ (.int .i64 M)) := by
  have hK : Keep [xb] w6 ((((w6.alloc (.cells #[v2, .int .i64 last, .int .i64 M] PoolT)).setCell ⟨xb, 0, none⟩ v2).setCell ⟨xb, 1, none⟩ (.int .i64 last)).setCell ⟨xb, 2, none⟩ (.int .i64 M)) :=
    ((((Keep.refl [xb] w6).alloc _).setCell (by simp) _).setCell (by simp) _).setCell (by simp) _
  refine ⟨used, last, l, v2, hS6.keep hK (by simpa using hpx) (by simpa using hmx), ?_, Keep.below_of hB6 hK (by simpa using hxb), hO6.keep hK (by simp; exact not_of_blk hX6 (by decide)), hSm, hl, h0, h1⟩
  have := (((hX6.alloc (.cells #[v2, .int .i64 last, .int .i64 M] PoolT)).set 0 v2).set 1 (.int .i64 last)).set 2 (.int .i64 M)
  simpa using this

theorem idsPlays_walk (a0 : Int) (a1 : Option Addr) (len1 cap1 : Nat) (z1 : List (Int × Int × Unit)) (w : World) (w0 : (Lit.int .u32 a0).wf = true) (r1 : Sh.Rd w (.slice (.struct (.cons (.int .i64) (.cons (.int .u32) .nil)))) z1 [.slice a1 len1 cap1]) :
    Calls Try.prog 15 #[.int .u32 a0, .slice a1 len1 cap1] w fun e w' => e = .returned (.bool true) ∧ Below w.heap.size w w' := by
  have hl1 : len1 ≤ maxLen := by obtain ⟨_, h1, h2⟩ := Sh.slice_len r1; omega
  unfold maxLen at hl1
  obtain ⟨ha0, ha1⟩ := bounds_u32 w0
  go_enter Try.func15, Try.ntmps15
  go_wp2_with fail
  refine (idsNew_any a0 ha0 (by omega) _).mono ?_
  rintro e w3 ⟨⟨p, mb⟩, rfl, hS, hp, hmb, hK3⟩
  simp only at hS hp hmb
  obtain ⟨M, hM⟩ : ∃ M, max 1 (min a0 65535) = M := ⟨_, rfl⟩
  rw [hM] at hS
  have m1 : 1 ≤ M := by omega
  have m2 : M ≤ 65535 := by omega
  go_wp2_with fail
  refine (awake13 _).mono ?_
  rintro e w4 ⟨rfl, hK4⟩
  go_wp2_with fail
  have HM := hide hM
  clear hM
  have hK04 := hK3.then (((Keep.refl [] w3).alloc (.cells #[.slice none 0 0, .int .i64 0, .int .i64 M] PoolT)).then hK4)
  have hS4 := hS.keep (((Keep.refl [] w3).alloc (.cells #[.slice none 0 0, .int .i64 0, .int .i64 M] PoolT)).then hK4) (by simp) (by simp)
  have hX4 := (Blk.new w3 #[.slice none 0 0, .int .i64 0, .int .i64 M] PoolT).keep hK4 (by simp)
  have hxb : w.heap.size ≤ w3.heap.size := hK3.size
  obtain ⟨xb, hxb'⟩ : ∃ xb, w3.heap.size = xb := ⟨_, rfl⟩
  rw [hxb'] at hX4 hxb ⊢
  clear hxb' hS hK3 hK4
  go_loopw [7] (fun i wr => poolRel w p mb xb len1 M i wr) (fun i _ => 50 - (intOf i).toNat)
  case atStart => exact ⟨0, [], 0, [], _, rfl, by omega, by omega, hS4, hX4, hK04.below, Own.nil _ _ _ _, ⟨List.Pairwise.nil, fun x => by simp [AL.get], rfl, by simp⟩, by simp, by omega, by omega⟩
  case round =>
    clear hS4 hX4 hK04
    obtain ⟨k, used, last, l, v, rfl, hk1, hk2, hS1, hX1, hB1, hO1, hSm, hLk, hl0, hlm⟩ := hrel
    have HSm := hide hSm
    clear hSm
    obtain ⟨Av, cv, rfl⟩ := hO1.slice
    obtain ⟨v, hv⟩ : ∃ v, Value.slice Av l.length cv = v := ⟨_, rfl⟩
    have HV := hide hv
    rw [hv] at hX1 hO1
    clear hv
    obtain ⟨c, hc⟩ : ∃ c : Bool, c = decide (k < len1 ∧ k < 50) := ⟨_, rfl⟩
    have HC := hide hc
    clear hc
    go_upto_region 6 with fail
    go_cut [39] from 32 to 119 (fun s wx => s = .bool c ∧ wx = wr)
    case first =>
      by_cases h1 : k < len1
      · by_cases h2 : k < 50
        · obtain rfl : c = true := by rw [HC.out]; simp [h1, h2]
          go_wp2_with fail
          go_meet
          exact ⟨by first | rfl | (simp; omega), rfl⟩
        · obtain rfl : c = false := by rw [HC.out]; simp [h2]
          go_wp2_with fail
          go_meet
          exact ⟨by first | rfl | (simp; omega), rfl⟩
      · obtain rfl : c = false := by rw [HC.out]; simp [h1]
        go_wp2_with fail
        go_meet
        exact ⟨rfl, rfl⟩
    case rest =>
    obtain ⟨rfl, rfl⟩ := hcut
    cases c
    · go_wp2_with fail
      go_ret
      exact ⟨rfl, hB1⟩
    · have hlt : k < len1 ∧ k < 50 := by have := HC.out; simpa using this
      obtain ⟨hlt, h50⟩ := hlt
      clear HC
      obtain ⟨b, off, rfl, hb, hc⟩ := Sh.slice_pair r1 (by omega)
      obtain ⟨kd, id, ck, ci, wk, wi⟩ := hc k hlt
      clear hc
      obtain ⟨hi0, hi1⟩ := bounds_u32 wi
      have hkb := bounds_i64 wk
      have ckw : wc.cell? ⟨b, off + k * 2, none⟩ = some (.int .i64 kd) := (hB1.cell (p := ⟨b, off + k * 2, none⟩) hb).trans ck
      have ciw : wc.cell? ⟨b, off + k * 2 + 1, none⟩ = some (.int .u32 id) := (hB1.cell (p := ⟨b, off + k * 2 + 1, none⟩) hb).trans ci
      clear ck ci
      have hsz := hB1.size
      go_upto_block 2 with fail
      have hKa := (Keep.refl [] wc).alloc (.cells #[.int .i64 kd, .int .u32 id] 70)
      have hSa := hS1.keep hKa (by simp) (by simp)
      have hXa := hX1.keep hKa (by simp)
      have hOa := hO1.keep hKa (by simp)
      have hBa := Keep.below_of hB1 hKa (by simp)
      obtain ⟨wa, hwa⟩ : ∃ wa, wc.alloc (.cells #[.int .i64 kd, .int .u32 id] 70) = wa := ⟨_, rfl⟩
      have hAct : Blk wa wc.heap.size #[.int .i64 kd, .int .u32 id] 70 := by rw [← hwa]; exact Blk.new _ _ _
      rw [hwa] at hSa hXa hOa hBa ⊢
      have hal := hAct.lt
      obtain ⟨ab, hab⟩ : ∃ ab, wc.heap.size = ab := ⟨_, rfl⟩
      rw [hab] at hAct hal ⊢
      have hxl := hX1.lt
      have hpl := hS1.1.lt
      have hml := hS1.2.lt
      have hne1 : ab ≠ xb := by omega
      have hne2 : ab ≠ mb := by omega
      have hne3 : ab ≠ p := by omega
      have hpx : p ≠ xb := by
        rintro rfl
        obtain ⟨_, _, h1, _⟩ := hS1.1
        obtain ⟨_, _, h2, _⟩ := hX1
        rw [h1] at h2; cases h2
      have hmx : mb ≠ xb := fun e => hS1.2.ne_blk hX1 e.symm
      have hpm := hS1.2.ne_blk hS1.1
      clear hwa hab hS1 hX1 hO1 hB1 ckw ciw hKa hb wk wi
      go_cut [9, 10, 11, 12, 13, 14, 15, 16, 17, 18] from 32 to 119 (fun s9 s10 s11 s12 s13 s14 s15 s16 s17 s18 wx => poolCut w p mb xb (k + 1) M wx)
      case first =>
        by_cases k1 : kd = 1
        · subst k1
          have hul := HSm.out.len
          by_cases hf : M ≤ (used.length : Int)
          · have hin : ∀ z, 1 ≤ z → z ≤ M → z ∈ l := R13.all_in HSm.out.rise HSm.out.ids (by omega)
            have HF := hide (R13.full_f l last M hin (by omega) m1 m2 hl0 hlm (by omega) (l.length + 2 * M.toNat + 3) (by omega))
            clear hin
            go_wp2_with fail
            refine (idsNextFull_any p mb used last M wa hSa (by omega) m2 hf).mono ?_
            rintro e w5 ⟨rfl, hS5, hK5⟩
            have hX5 := hXa.keep hK5 (by simp)
            have hO5 := hOa.keep hK5 (by simp)
            have hB5 := Keep.below_of hBa hK5 (by simp)
            have x0 : w5.cell? ⟨xb, 0, none⟩ = some v := hX5.cell 0
            have x1 : w5.cell? ⟨xb, 1, none⟩ = some (.int .i64 last) := hX5.cell 1
            have x2 : w5.cell? ⟨xb, 2, none⟩ = some (.int .i64 M) := hX5.cell 2
            clear hul
            go_wp2_with fail
            go_fit (switchboardref13_Next.calls (l.length + 2 * M.toNat + 3) (OfTypes (IntT :: kI.E) w5) v l last M l last M 0 w w5 hB5 hO5.typed HF.out)
            rintro e w6 ⟨v0, rfl, hR6, hB6, hK6⟩
            have hO6 := Own.of hR6
            obtain ⟨A0, c0, rfl⟩ := hO6.slice
            have hX6 := hX5.kept hK6 (not_of_blk hX5 (by decide))
            have hX7 := hX6.alloc (.cells #[.slice A0 l.length c0, .int .i64 last, .int .i64 M] PoolT)
            have y0 := hX7.cell 0
            have y1 := hX7.cell 1
            have y2 := hX7.cell 2
            have f0 := hX7.frozen 0 (by simp)
            have f1 := hX7.frozen 1 (by simp)
            have f2 := hX7.frozen 2 (by simp)
            go_wp2_with fail
            go_meet
            exact fin13 (last0 := last) ⟨hS5.1.kept hK6 (not_of_blk hS5.1 (by decide)), hS5.2.kept hK6 (not_of_map hS5.2 _)⟩ hX6 hB6 hO6 HSm.out (by omega) hl0 hlm hxb hpx hmx
          · obtain ⟨y, m, hm, hsk⟩ := R13.seek_some (used := used) (most := M) (x := last) (l := l) HSm.out.has m1 hl0 hlm (by omega)
            have hyr := R13.seek_range hsk m1 hl0 hlm
            have hyl : y ∉ l := by have := hyr.2.2; rw [HSm.out.has] at this; simpa using this
            have HF := hide (R13.next_f hsk l HSm.out.has (by omega) m1 m2 hl0 hlm hm (by omega) (l.length + 2 * m + 3) (by omega))
            have HSK := hide hsk
            have HS2 := hide (HSm.out.put y hyl hyr.1 hyr.2.1)
            have HLn := hide (R13.put_len l y)
            obtain ⟨l2, hl2⟩ : ∃ l2, R13.put l y = l2 := ⟨_, rfl⟩
            rw [hl2] at HF HS2 HLn
            have y1' := hyr.1
            have y2' := hyr.2.1
            have n1 : (y != y) = false := by simp
            clear hsk hyr hyl hl2
            have hf' : (used.length : Int) < M := by omega
            clear hf hul
            go_wp2_with fail
            refine (idsNext_any p mb used last M y m wa hSa m1 m2 hl0 hlm hf' HSK.out).mono ?_
            rintro e w5 ⟨rfl, hS5, hK5⟩
            have hX5 := hXa.keep hK5 (by simp; omega)
            have hO5 := hOa.keep hK5 (by simp; exact ⟨not_of_blk hSa.1 (by decide), not_of_map hSa.2 _⟩)
            have hB5 := Keep.below_of hBa hK5 (by simp; omega)
            have x0 : w5.cell? ⟨xb, 0, none⟩ = some v := hX5.cell 0
            have x1 : w5.cell? ⟨xb, 1, none⟩ = some (.int .i64 last) := hX5.cell 1
            have x2 : w5.cell? ⟨xb, 2, none⟩ = some (.int .i64 M) := hX5.cell 2
            go_wp2_with fail
            go_fit (switchboardref13_Next.calls (l.length + 2 * m + 3) (OfTypes (IntT :: kI.E) w5) v l last M l2 y M y w w5 hB5 hO5.typed HF.out)
            rintro e w6 ⟨v0, rfl, hR6, hB6, hK6⟩
            have hO6 := Own.of hR6
            obtain ⟨A0, c0, rfl⟩ := hO6.slice
            have hX6 := hX5.kept hK6 (not_of_blk hX5 (by decide))
            have hS6 : PoolAt w6 p mb (AL.set used y 1) y M := ⟨hS5.1.kept hK6 (not_of_blk hS5.1 (by decide)), hS5.2.kept hK6 (not_of_map hS5.2 _)⟩
            have hX7 := hX6.alloc (.cells #[.slice A0 l2.length c0, .int .i64 y, .int .i64 M] PoolT)
            have y0 := hX7.cell 0
            have y1 := hX7.cell 1
            have y2 := hX7.cell 2
            have f0 := hX7.frozen 0 (by simp)
            have f1 := hX7.frozen 1 (by simp)
            have f2 := hX7.frozen 2 (by simp)
            go_wp2_with fail
            go_meet
            exact fin13 hS6 hX6 hB6 hO6 HS2.out (by have := HLn.out; omega) (by omega) (by omega) hxb hpx hmx
        · have k1' : (kd == 1) = false := by simpa using k1
          clear k1
          by_cases k2 : kd = 2
          · subst k2
            obtain ⟨e2, u2, l2, hq1, hq2, hq3, hq4⟩ := HSm.out.take id last (by omega)
            have HQ1 := hide hq1
            have HQ2 := hide hq2
            have HQ3 := hide hq3
            have n1 : (e2 != e2) = false := by simp
            have i0 : wa.cell? ⟨ab, 1, none⟩ = some (.int .u32 id) := hAct.cell 1
            clear hq1 hq2 hq3
            go_wp2_with fail
            refine (idsTake_any p mb used last M id _ wa hSa HQ1.out).mono ?_
            rintro e w5 ⟨rfl, hS5, hK5⟩
            have hX5 := hXa.keep hK5 (by simp; omega)
            have hO5 := hOa.keep hK5 (by simp; exact not_of_map hSa.2 _)
            have hB5 := Keep.below_of hBa hK5 (by simp; omega)
            have x0 : w5.cell? ⟨xb, 0, none⟩ = some v := hX5.cell 0
            have x1 : w5.cell? ⟨xb, 1, none⟩ = some (.int .i64 last) := hX5.cell 1
            have x2 : w5.cell? ⟨xb, 2, none⟩ = some (.int .i64 M) := hX5.cell 2
            have hA5 := hAct.keep hK5 (by simpa using hne2)
            have i1 : w5.cell? ⟨ab, 1, none⟩ = some (.int .u32 id) := hA5.cell 1
            go_wp2_with fail
            go_fit (switchboardref13_Take.calls (l.length + 2) (OfTypes (IntT :: kI.E) w5) v l last M id l2 last M e2 w w5 hB5 hO5.typed HQ2.out)
            rintro e w6 ⟨v0, rfl, hR6, hB6, hK6⟩
            have hO6 := Own.of hR6
            obtain ⟨A0, c0, rfl⟩ := hO6.slice
            have hX6 := hX5.kept hK6 (not_of_blk hX5 (by decide))
            have hS6 : PoolAt w6 p mb u2 last M := ⟨hS5.1.kept hK6 (not_of_blk hS5.1 (by decide)), hS5.2.kept hK6 (not_of_map hS5.2 _)⟩
            have hX7 := hX6.alloc (.cells #[.slice A0 l2.length c0, .int .i64 last, .int .i64 M] PoolT)
            have y0 := hX7.cell 0
            have y1 := hX7.cell 1
            have y2 := hX7.cell 2
            have f0 := hX7.frozen 0 (by simp)
            have f1 := hX7.frozen 1 (by simp)
            have f2 := hX7.frozen 2 (by simp)
            go_wp2_with fail
            go_meet
            exact fin13 hS6 hX6 hB6 hO6 HQ3.out (by omega) hl0 hlm hxb hpx hmx
          · have k2' : (kd == 2) = false := by simpa using k2
            clear k2
            by_cases k3 : kd = 3
            · subst k3
              obtain ⟨e2, u2, l2, hq1, hq2, hq3, hq4⟩ := HSm.out.free' hSa.2.nodup id last (by omega)
              have HQ1 := hide hq1
              have HQ2 := hide hq2
              have HQ3 := hide hq3
              have n1 : (e2 != e2) = false := by simp
              have i0 : wa.cell? ⟨ab, 1, none⟩ = some (.int .u32 id) := hAct.cell 1
              clear hq1 hq2 hq3
              go_wp2_with fail
              refine (idsFree_any p mb used last M id _ wa hSa HQ1.out).mono ?_
              rintro e w5 ⟨rfl, hS5, hK5⟩
              have hX5 := hXa.keep hK5 (by simp; omega)
              have hO5 := hOa.keep hK5 (by simp; exact not_of_map hSa.2 _)
              have hB5 := Keep.below_of hBa hK5 (by simp; omega)
              have x0 : w5.cell? ⟨xb, 0, none⟩ = some v := hX5.cell 0
              have x1 : w5.cell? ⟨xb, 1, none⟩ = some (.int .i64 last) := hX5.cell 1
              have x2 : w5.cell? ⟨xb, 2, none⟩ = some (.int .i64 M) := hX5.cell 2
              have hA5 := hAct.keep hK5 (by simpa using hne2)
              have i1 : w5.cell? ⟨ab, 1, none⟩ = some (.int .u32 id) := hA5.cell 1
              go_wp2_with fail
              go_fit (switchboardref13_Free.calls (l.length + 2) (OfTypes (IntT :: kI.E) w5) v l last M id l2 last M e2 w w5 hB5 hO5.typed HQ2.out)
              rintro e w6 ⟨v0, rfl, hR6, hB6, hK6⟩
              have hO6 := Own.of hR6
              obtain ⟨A0, c0, rfl⟩ := hO6.slice
              have hX6 := hX5.kept hK6 (not_of_blk hX5 (by decide))
              have hS6 : PoolAt w6 p mb u2 last M := ⟨hS5.1.kept hK6 (not_of_blk hS5.1 (by decide)), hS5.2.kept hK6 (not_of_map hS5.2 _)⟩
              have hX7 := hX6.alloc (.cells #[.slice A0 l2.length c0, .int .i64 last, .int .i64 M] PoolT)
              have y0 := hX7.cell 0
              have y1 := hX7.cell 1
              have y2 := hX7.cell 2
              have f0 := hX7.frozen 0 (by simp)
              have f1 := hX7.frozen 1 (by simp)
              have f2 := hX7.frozen 2 (by simp)
              go_wp2_with fail
              go_meet
              exact fin13 hS6 hX6 hB6 hO6 HQ3.out (by omega) hl0 hlm hxb hpx hmx
            · have k3' : (kd == 3) = false := by simpa using k3
              clear k3
              go_wp2_with fail
              go_meet
              exact ⟨used, last, l, v, hSa, hXa, hBa, hOa, HSm.out, by omega, hl0, hlm⟩
      case rest =>
        clear hSa hXa hBa hOa hAct HSm hl0 hlm hLk hxl hpl hml hal hsz
        obtain ⟨used, last, l, v, hS1, hX1, hB1, hO1, hSm, hLk, hl0, hlm⟩ := hcut
        have x0 : wc.cell? ⟨xb, 0, none⟩ = some v := hX1.cell 0
        have x1 : wc.cell? ⟨xb, 1, none⟩ = some (.int .i64 last) := hX1.cell 1
        have x2 : wc.cell? ⟨xb, 2, none⟩ = some (.int .i64 M) := hX1.cell 2
        have HSm := hide hSm
        clear hSm
        go_wp2_with fail
        refine (is_any p mb used l v w.heap.size last M _ hS1 hO1 HSm.out (by omega) m2).mono ?_
        rintro e w9 ⟨rfl, hK9⟩
        go_wp2_with fail
        exact ⟨⟨k + 1, used, last, l, v, rfl, by omega, by omega, hS1.keep hK9 (by simp) (by simp), hX1.keep hK9 (by simp), Keep.below_of hB1 hK9 (by simp), hO1.keep hK9 (by simp), HSm.out, hLk, hl0, hlm⟩, by simp [intOf] <;> omega⟩
end Go.Proofs.Ytfnleddabfpkgaa
