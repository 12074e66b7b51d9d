/- TimerOnce: the walk. -/
import Derived.Test.YtbgondiibnjcgaaAct18
import Derived.Test.YtbgondiibnjcgaaRngP
import Derived.Test.YtbgondiibnjcgaaIns
import Derived.Test.YtbgondiibnjcgaaBand
import Derived.Outline
import Derived.Deep.DeepFit
import Derived.Deep.CutBlock
import Derived.Deep.DeepCutAuto
import Derived.Deep.CutRange
namespace Go.Proofs.Ytbgondiibnjcgaa
open Go.RowKit Go.Proofs.Ytbgondiibnjcgaa.PTimerPlays Go.Proofs.YtbgondiibnjcgaaW.PrintWords Go.Proofs.YtbgondiibnjcgaaW.PrintLast
set_option maxRecDepth 10000
set_option linter.unusedVariables false
set_option maxHeartbeats 4000000

def AtIn (r : List En) : Prop := ∀ p ∈ r, 0 ≤ p.2 ∧ p.2 ≤ 255

/-- The timers and the map bw hold the same. -/
structure On (W w : World) (n b bw : Nat) (r : List En) (K : Nat) : Prop where
  mt : Mt W w n b r K
  ex : ∃ lw, MapAt w bw Value.string (Value.int .i64) lw ∧ EntsOf r lw
  hin : AtIn r
  below : Below W.heap.size W w
  apart : W.heap.size ≤ bw ∧ bw ≠ b ∧ bw ≠ n

def onceRel1 (W : World) (n b bw len : Nat) (i : Value) (wr : World) : Prop := ∃ (k : Nat) (r : List En), i = .int .i64 k ∧ k ≤ len ∧ k ≤ 30 ∧ On W wr n b bw r k

def onceRel2 (W : World) (n b bw len : Nat) (now i : Value) (wr : World) : Prop := ∃ (j : Nat) (nw : Int) (r : List En), i = .int .i64 j ∧ now = .int .i64 nw ∧ j ≤ len + 1 ∧ j ≤ 30 ∧ 0 ≤ nw ∧ nw ≤ 1000 ∧ (nw ≤ 31 * j ∨ j = len + 1) ∧ On W wr n b bw r 30 ∧ (0 < j → ∀ p ∈ r, nw < p.2)

def nowRel (j len : Nat) (nw : Int) (s : Value) : Prop := ∃ n2 : Int, s = .int .i64 n2 ∧ nw ≤ n2 ∧ n2 ≤ 1000 ∧ (n2 ≤ 31 * (j + 1) ∨ j + 1 = len + 1)

def onceRel3 (w6 : World) (bw : Nat) (lw ds : List En) (i : Value) (wr : World) : Prop := ∃ q : Nat, i = .int .i64 q ∧ q ≤ ds.length ∧ MapAt wr bw Value.string (Value.int .i64) (delAll lw (ds.take q)) ∧ Keep [bw] w6 wr

def onceRel4 (wR : World) (bw rr : Nat) (lw : List En) (wr : World) : Prop := ∃ ss, RangeAt wr bw rr Value.string (Value.int .i64) lw ss ∧ Keep [rr] wR wr

theorem due_mem {r ds : List En} {n2 : Int} (h : r.filter (fun p => decide (p.2 ≤ n2)) = ds) {q : Nat} (hq : q < ds.length) : ds[q] ∈ r ∧ ds[q].2 ≤ n2 := by
  have : ds[q] ∈ r.filter (fun p => decide (p.2 ≤ n2)) := by rw [h]; exact List.getElem_mem hq
  have h2 := List.mem_filter.1 this
  exact ⟨h2.1, by simpa using h2.2⟩

theorem del_get {r lw ds : List En} {n2 : Int} (hE : EntsOf r lw) (hn : (lw.map (·.1)).Nodup) (h : r.filter (fun p => decide (p.2 ≤ n2)) = ds) {q : Nat} (hq : q < ds.length) : AL.get (delAll lw (ds.take q)) ds[q].1 = some ds[q].2 := by
  obtain ⟨h1, h2⟩ := delAll_filter (ds.take q) lw hn
  refine get_mem h2 ?_
  rw [h1, List.mem_filter]
  refine ⟨hE.1.mem_iff.1 (due_mem h hq).1, notIn_iff.2 fun d hd e => ?_⟩
  have hr : (r.map (·.1)).Nodup := (hE.1.map (·.1)).nodup_iff.2 hn
  have hds : (ds.map (·.1)).Nodup := by rw [← h]; exact hr.sublist (List.filter_sublist.map _)
  obtain ⟨i, hi, rfl⟩ := List.getElem_of_mem hd
  have hi' : i < q := by simp at hi; omega
  rw [List.getElem_take] at e
  have := (List.pairwise_iff_getElem.1 hds) i q (by simp; omega) (by simpa using hq) hi'
  simp only [List.getElem_map] at this
  exact this e

theorem once_walk (a0 : Option Addr) (len0 cap0 : Nat) (z0 : Sh.T (.slice ShAct)) (a1 : Option Addr) (len1 cap1 : Nat) (z1 : Sh.T (.slice (.int .i64))) (w : World) (r0 : Sh.Rd w (.slice ShAct) z0 [.slice a0 len0 cap0]) (r1 : Sh.Rd w (.slice (.int .i64)) z1 [.slice a1 len1 cap1]) :
    Calls Try.prog 3 #[.slice a0 len0 cap0, .slice a1 len1 cap1] w fun e w' => e = .returned (.bool true) ∧ Below w.heap.size w w' := by
  have hl0 : len0 ≤ maxLen := by obtain ⟨_, h1, h2⟩ := Sh.slice_len r0; omega
  have hl1 : len1 ≤ maxLen := by obtain ⟨_, h1, h2⟩ := Sh.slice_len r1; omega
  unfold maxLen at hl0 hl1
  have hmm := @run_makeMap Try.prog
  go_enter Try.func3, Try.ntmps3
  go_wp2_with fail
  refine (awake18 _).mono ?_
  rintro e wa ⟨rfl, hka⟩
  have hza := hka.size
  go_wp2_with fail
  refine (tNew (W := w) (w := wa) hza).mono ?_
  rintro e w3 ⟨rfl, hM3, hk3⟩
  have hz3 := hk3.size
  have hn3 := hM3.nlt
  have hO4 : On w (w3.alloc (.map #[] 0)) (wa.heap.size + 1) wa.heap.size w3.heap.size [] 0 :=
    ⟨hM3.keep ((Keep.refl [] w3).alloc (.map #[] 0)), ⟨[], MapAt.new w3 Value.string (Value.int .i64) (κ := BA) (ν := Int), .refl _, List.Pairwise.nil⟩, fun p hp => by simp at hp, ((hka.then hk3).alloc (.map #[] 0)).below, by omega, by omega, by omega⟩
  clear hM3
  go_wp2_with fail
  go_loopw [7] (fun i wr => onceRel1 w (wa.heap.size + 1) wa.heap.size w3.heap.size len0 i wr) (fun i _ => 30 - (intOf i).toNat)
  case atStart => exact ⟨0, [], rfl, by omega, by omega, hO4⟩
  case round =>
    obtain ⟨k, r, rfl, hk1, hk2, hOn⟩ := hrel
    obtain ⟨c, hc⟩ : ∃ c : Bool, c = decide (k < len0 ∧ k < 30) := ⟨_, rfl⟩
    have HC := hide hc
    clear hc hO4
    go_upto_region 6 with fail
    go_cut [30] from 23 to 51 (fun s wx => s = .bool c ∧ wx = wr)
    case first =>
      by_cases h1 : k < len0
      · by_cases h2 : k < 30
        · obtain rfl : c = true := by rw [HC.out]; simp [h1, h2]
          go_wp2_with fail
          go_meet
          exact ⟨by first | rfl | (simp; omega), rfl⟩
        · obtain rfl : c = false := by rw [HC.out]; simp [h2]
          go_wp2_with fail
          go_meet
          exact ⟨by first | rfl | (simp; omega), rfl⟩
      · obtain rfl : c = false := by rw [HC.out]; simp [h1]
        go_wp2_with fail
        go_meet
        exact ⟨rfl, rfl⟩
    case rest =>
    obtain ⟨rfl, rfl⟩ := hcut
    cases c
    · clear HC
      go_wp2_with fail
      go_loopw [10, 11] (fun nw i wr => onceRel2 w (wa.heap.size + 1) wa.heap.size w3.heap.size len1 nw i wr) (fun _ i _ => 30 - (intOf i).toNat)
      case atStart => exact ⟨0, 0, r, rfl, rfl, by omega, by omega, by omega, by omega, .inl (by omega), ⟨hOn.mt.mono (by omega), hOn.ex, hOn.hin, hOn.below, hOn.apart⟩, by omega⟩
      case round =>
        obtain ⟨j, nw, r2, rfl, rfl, hj1, hj2, hnw0, hnw1, hnw2, hO2, hlate⟩ := hrel
        obtain ⟨c, hc⟩ : ∃ c : Bool, c = decide (j ≤ len1 ∧ j < 30) := ⟨_, rfl⟩
        have HC := hide hc
        have HLA := hide hlate
        clear hc hOn hlate
        go_upto_region 14 with fail
        go_cut [59] from 52 to 114 (fun s wx => s = .bool c ∧ wx = wr)
        case first =>
          by_cases h1 : j ≤ len1
          · by_cases h2 : j < 30
            · obtain rfl : c = true := by rw [HC.out]; simp [h1, h2]
              go_wp2_with fail
              go_meet
              exact ⟨by first | rfl | (simp; omega), rfl⟩
            · obtain rfl : c = false := by rw [HC.out]; simp [h2]
              go_wp2_with fail
              go_meet
              exact ⟨by first | rfl | (simp; omega), rfl⟩
          · obtain rfl : c = false := by rw [HC.out]; simp [h1]
            go_wp2_with fail
            go_meet
            exact ⟨rfl, rfl⟩
        case rest =>
        obtain ⟨rfl, rfl⟩ := hcut
        cases c
        · have hj0 : 0 < j := by
            rcases Nat.eq_zero_or_pos j with h0 | h0
            · have := HC.out; subst h0; simp at this
            · exact h0
          have hla := HLA.out hj0
          obtain ⟨lw, hMw, hEw⟩ := hO2.ex
          have hap := hO2.apart
          have hnb := hO2.mt.nlt
          have hbb := hO2.mt.base
          have hnd := hMw.nodup
          have HO := hide hO2
          have HE := hide hEw
          have HLL := hide hla
          have hwb := hMw.lt
          clear hO2 hEw hla HC
          go_wp2_with (refine wpList_range_map _ rfl _ MapT rfl 9 3 Try.underlying27 w3.heap.size lw rfl hMw ?_; intro wR hR0 hg0 hz0)
          have hk0 : Keep [] wc wR := Keep.of_grown hg0 (fun k e => by cases e)
          go_frame
          go_loopw [18] (fun _ wr => onceRel4 wR w3.heap.size wc.heap.size lw wr) (fun _ wr => wr.rangeLeft w3.heap.size wc.heap.size)
          case atStart => exact ⟨[], hR0, Keep.refl _ _⟩
          case round =>
            obtain ⟨ss, hRs, hKs⟩ := hrel
            go_wp2_with (refine wpList_next_map _ rfl _ rfl w3.heap.size wc.heap.size lw ss strInj hnd rfl hRs ?_ ?_)
            · intro hall
              have hfull : Keep [wc.heap.size] wc wr := hk0.trans hKs (by simp) (fun _ h _ => h)
              have hkk : Keep [] wc wr := hfull.trans (Keep.refl [] wr) (fun x hx hlt => by simp at hx; omega) (by simp)
              have hMr := hMw.keep hkk (by simp)
              have hT := HO.out.mt.keep hkk
              have hlen := fun ty => run_len_map (w := wr) Try.underlying27 hMr ty
              have hle := HE.out.len
              rw [← hle] at hlen
              have HL := hide (tLen hT)
              have hBe := Keep.below_of HO.out.below hkk (by simp)
              have er : ((r2.length : Int) == (r2.length : Int)) = true := by simp
              clear hle hall
              go_wp2_with fail
              refine HL.out.mono ?_
              rintro e wz ⟨rfl, rfl⟩
              go_wp2_with fail
              go_ret
              exact ⟨rfl, hBe⟩
            · intro x v wN hxv hll hRN hlt hgN hzN hen
              have hv := HLL.out (x, v) (HE.out.1.mem_iff.2 hxv)
              simp only at hv
              have hv2 : ¬ v ≤ nw := by omega
              have hKN : Keep [wc.heap.size] wR wN := hKs.then (Keep.of_grown hgN (fun k e _ => by cases e; simp))
              have HRN := hide hRN
              have HLT := hide hlt
              clear hzN hlt hRN hRs
              go_wp2_with fail
              go_roundw
              case rel => exact ⟨_, HRN.out, hKN⟩
              case measure => exact HLT.out
        · have hlt : j ≤ len1 ∧ j < 30 := by have := HC.out; simpa using this
          obtain ⟨hjl, hj30⟩ := hlt
          clear HC
          go_upto_if 66 with fail
          go_cut [10] from 66 to 73 (fun s wx => nowRel j len1 nw s ∧ wx = wc)
          case first =>
            by_cases hjj : j < len1
            · obtain ⟨b, off, rfl, hb, hc⟩ := Sh.slice_int r1 (by omega)
              obtain ⟨st, hst⟩ : ∃ st, List.getD z1 j 0 = st := ⟨_, rfl⟩
              have c0 := (hc j hjj).1
              rw [hst] at c0
              have d0 : wc.cell? ⟨b, off + j, none⟩ = some (.int .i64 st) := (hO2.below.cell (p := ⟨b, off + j, none⟩) hb).trans c0
              have hjj' : (j : Int) < (len1 : Int) := by omega
              have hbd := band_small st 31 (by decide)
              obtain ⟨t, ht⟩ : ∃ t, bits .and .i64 st (31 : Int) = t := ⟨_, rfl⟩
              have hbd' : 0 ≤ t ∧ t ≤ 31 := by rw [← ht]; exact hbd
              obtain ⟨hb0, hb1⟩ := hbd'
              clear hbd hc hst c0
              have hnj : nw ≤ 31 * j := by omega
              have hcnt : nowRel j len1 nw (.int .i64 (nw + t)) := ⟨nw + t, rfl, by omega, by omega, .inl (by omega)⟩
              go_wp2_with fail
              go_meet
              exact ⟨hcnt, rfl⟩
            · have hjj' : ¬ (j : Int) < (len1 : Int) := by omega
              have hnj : nw ≤ 31 * j := by omega
              have hcnt : nowRel j len1 nw (.int .i64 1000) := ⟨1000, rfl, by omega, by omega, .inr (by omega)⟩
              go_wp2_with fail
              go_meet
              exact ⟨hcnt, rfl⟩
          case rest =>
            obtain ⟨⟨n2, rfl, hn1, hn2, hn3⟩, rfl⟩ := hcut
            obtain ⟨lw, hMw, hEw⟩ := hO2.ex
            have hap := hO2.apart
            have hbs := hO2.mt.base
            have HO := hide hO2
            have HE := hide hEw
            have hrl := hO2.mt.len
            clear hO2 hEw
            go_wp2_with fail
            refine (tDue HO.out.mt (by omega) n2).mono ?_
            rintro e w6 ⟨v6, rfl, hO6, hM6, hk6⟩
            have hMw6 := hMw.keep hk6 (by simp; omega)
            have hB6 := (HO.out.mt.km hk6).below HO.out.below
            have hlf := List.length_filter_le (fun p : En => decide (p.2 ≤ n2)) r2
            obtain ⟨ds, hds⟩ : ∃ ds, r2.filter (fun p => decide (p.2 ≤ n2)) = ds := ⟨_, rfl⟩
            rw [hds] at hO6 hlf
            have HDS := hide hds
            obtain ⟨A6, c6, rfl⟩ := hO6.slice
            have HO6 := hide hO6
            clear hds hO6 hMw hk6
            have hmw := hMw6.nodup
            go_wp2_with fail
            go_loopw [78] (fun i wr => onceRel3 w6 w3.heap.size lw ds i wr) (fun i _ => ds.length - (intOf i).toNat)
            case atStart => exact ⟨0, rfl, by omega, by simpa [delAll] using hMw6, Keep.refl _ _⟩
            case round =>
              obtain ⟨q, rfl, hq, hMq, hKq⟩ := hrel
              by_cases hqq : q < ds.length
              · obtain ⟨g, cc, hv, _, hg, x0, x1⟩ := own_ent_at (HO6.out.keep hKq (by simp; exact not_of_map hMw6 _)) hqq
                obtain rfl : A6 = some ⟨g, 0, none⟩ := by injection hv
                clear hv
                have hget := del_get HE.out hmw HDS.out hqq
                have hmem := due_mem HDS.out hqq
                have htk : ds.take (q + 1) = ds.take q ++ [ds[q]] := by rw [List.take_succ_eq_append_getElem hqq]
                obtain ⟨⟨ek, ea⟩, hx⟩ : ∃ x, ds[q] = x := ⟨_, rfl⟩
                rw [hx] at x0 x1 hget hmem htk
                simp only at x0 x1 hget hmem
                have hea := HO.out.hin _ hmem.1
                have hla : 0 < j → nw < ea := fun h => HLA.out h _ hmem.1
                have look := lookS (wr.alloc (.cells #[.string ek, .int .i64 ea] EntT)) w3.heap.size _ (hMq.alloc _) ek
                rw [hget] at look
                simp only [Option.getD_some, Option.isSome_some] at look
                have HT := hide htk
                have HLQ := hide hqq
                have hlt4 : (q : Int) < (ds.length : Int) := by omega
                have n1 : (ea != ea) = false := by simp
                have m2 : ¬ n2 < ea := by have := hmem.2; omega
                have HMQ := hide hMq
                have HHA := hide hla
                clear hget hmem htk hx hMq hla hqq
                rcases Nat.eq_zero_or_pos j with hj0 | hj0
                · have hj00 : ¬ (0 : Int) < (j : Int) := by omega
                  clear hj0
                  go_wp2_with (refine wpList_delete_map rfl _ _ MapT 9 rfl 3 lawStr Try.underlying27 w3.heap.size _ rfl (HMQ.out.alloc (.cells #[.string ek, .int .i64 ea] EntT)) ek rfl ?_; intro w8 hM8 hK8 hz8)
                  have hka := (((Keep.refl [] wr).alloc (.cells #[.string ek, .int .i64 ea] EntT)).trans (S := [w3.heap.size]) hK8 (by simp) (fun _ h _ => h))
                  go_roundw
                  case rel => exact ⟨q + 1, by simp, HLQ.out, by rw [HT.out]; simpa [delAll] using hM8, hKq.then hka⟩
                  case measure => simp [intOf]; omega
                · have hle := HHA.out hj0
                  have hj00 : (0 : Int) < (j : Int) := by omega
                  have hle2 : ¬ ea ≤ nw := by omega
                  go_wp2_with (refine wpList_delete_map rfl _ _ MapT 9 rfl 3 lawStr Try.underlying27 w3.heap.size _ rfl (HMQ.out.alloc (.cells #[.string ek, .int .i64 ea] EntT)) ek rfl ?_; intro w8 hM8 hK8 hz8)
                  have hka := (((Keep.refl [] wr).alloc (.cells #[.string ek, .int .i64 ea] EntT)).trans (S := [w3.heap.size]) hK8 (by simp) (fun _ h _ => h))
                  go_roundw
                  case rel => exact ⟨q + 1, by simp, HLQ.out, by rw [HT.out]; simpa [delAll] using hM8, hKq.then hka⟩
                  case measure => simp [intOf]; omega
              · obtain rfl : q = ds.length := by omega
                rw [List.take_length] at hMq
                have hrq := HE.out.due hmw n2
                rw [HDS.out] at hrq
                have hfin : On w wr (wa.heap.size + 1) wa.heap.size w3.heap.size (r2.filter fun p => decide (n2 < p.2)) 30 :=
                  ⟨hM6.off hKq (fun x hx _ => by simp at hx; subst hx; exact ⟨hap.2.2, hap.2.1⟩), ⟨_, hMq, hrq⟩, fun p hp => HO.out.hin p (List.mem_filter.1 hp).1, Keep.below_of hB6 hKq (by simp; exact hap.1), hap⟩
                have hl2 : ∀ p ∈ r2.filter (fun p => decide (n2 < p.2)), n2 < p.2 := fun p hp => by simpa using (List.mem_filter.1 hp).2
                have HFIN := hide hfin
                have HL2 := hide hl2
                clear hfin hl2 hMq hrq hM6 hMw6
                go_wp2_with fail
                go_roundw
                case rel => exact ⟨j + 1, n2, _, by simp, rfl, by omega, by omega, by omega, by omega, by omega, HFIN.out, fun _ => HL2.out⟩
                case measure => simp [intOf]; omega
    · have hlt : k < len0 ∧ k < 30 := by have := HC.out; simpa using this
      obtain ⟨hlt, h15⟩ := hlt
      clear HC
      obtain ⟨b, off, rfl, hb, hc⟩ := slice_act r0 (by omega)
      obtain ⟨kd, at0, s, c0, c1, c2, hwf⟩ := hc k hlt
      clear hc
      have d1 : wc.cell? ⟨b, off + k * 3 + 1, none⟩ = some (.int .i64 at0) := (hOn.below.cell (p := ⟨b, off + k * 3 + 1, none⟩) hb).trans c1
      have d2 : wc.cell? ⟨b, off + k * 3 + 2, none⟩ = some (.string s) := (hOn.below.cell (p := ⟨b, off + k * 3 + 2, none⟩) hb).trans c2
      have hlt' : (k : Int) < (len0 : Int) := by omega
      have hks := cutS_size s 10
      have HCU := hide (fun w => cut01_any s 10 w)
      obtain ⟨key, hkey⟩ : ∃ x, cutS s 10 = x := ⟨_, rfl⟩
      rw [hkey] at HCU hks
      clear c0 c1 c2 hkey
      go_wp2_with fail
      refine (HCU.out _).mono ?_
      rintro e w5 ⟨rfl, rfl⟩
      have hbd := band_small at0 255 (by decide)
      obtain ⟨t, ht⟩ : ∃ t, bits .and .i64 at0 (255 : Int) = t := ⟨_, rfl⟩
      have hbd' : 0 ≤ t ∧ t ≤ 255 := by rw [← ht]; exact hbd
      obtain ⟨hb0, hb1⟩ := hbd'
      clear hbd
      have HT := hide ht
      clear ht
      obtain ⟨lw, hMw, hEw⟩ := hOn.ex
      have hap := hOn.apart
      have hbs := hOn.mt.base
      have HO := hide hOn
      have HE := hide hEw
      clear hOn hEw
      go_wp2_with fail
      rw [HT.out]
      refine (tSet HO.out.mt key t (by omega)).mono ?_
      rintro e w6 ⟨rfl, hM6, hk6⟩
      have hMw6 := hMw.keep hk6 (by simp; omega)
      have hB6 := (HO.out.mt.km hk6).below HO.out.below
      clear hMw hk6
      go_wp2_with (at_mapUpdate; refine wpList_mapUpdate_map rfl _ _ _ MapT rfl 9 3 lawStr Try.underlying27 w3.heap.size lw rfl hMw6 key t rfl rfl ?_; intro w7 hM7 hK7 hz7)
      have hnw := hMw6.nodup
      have hOn7 : On w w7 (wa.heap.size + 1) wa.heap.size w3.heap.size (insE (rmE r key) (key, t)) (k + 1) := by
        refine ⟨hM6.off hK7 (fun x hx _ => by simp at hx; subst hx; exact ⟨hap.2.2, hap.2.1⟩), ⟨_, hM7, HE.out.set hnw key t⟩, ?_, Keep.below_of hB6 hK7 (by simp; exact hap.1), hap⟩
        intro p hp
        rcases ins_mem.1 hp with rfl | ⟨hp, _⟩
        · exact ⟨hb0, hb1⟩
        · exact HO.out.hin p hp
      clear hM6 hM7 hK7 hMw6 hnw
      go_wp2_with fail
      go_roundw
      case rel => exact ⟨k + 1, _, by simp, by omega, by omega, hOn7⟩
      case measure => simp [intOf]; omega
end Go.Proofs.Ytbgondiibnjcgaa
