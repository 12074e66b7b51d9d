/- PipePlays: the walk. -/
import Derived.Test.YtaahmjamkllphaaT19
import Derived.Test.YtaahmjamkllphaaD19
import Derived.Test.YtaahmjamkllphaaL19
import Derived.Test.YtaahmjamkllphaaSrt8I
import Derived.Test.YtaahmjamkllphaaIn
import Derived.Outline
import Derived.Deep.DeepFit
import Derived.Deep.CutBlock
import Derived.Deep.DeepCutAuto
import Derived.Deep.CutRange
namespace Go.Proofs.Ytaahmjamkllphaa
open Go.RowKit Go.Proofs.Ytaahmjamkllphaa.PHang Go.Proofs.YtaahmjamkllphaaW.PrintWords
set_option maxRecDepth 10000
set_option linter.unusedVariables false
set_option maxHeartbeats 2000000

abbrev IntT : Nat := 3
abbrev kI : Kd Int := Kd.int .i64

theorem slice_act {w : World} {z : Sh.T (.slice (.struct (.cons (.int .i64) (.cons (.int .i64) (.cons (.int .i64) (.cons .str .nil))))))} {a : Option Addr} {len cap : Nat} (r : Sh.Rd w (.slice (.struct (.cons (.int .i64) (.cons (.int .i64) (.cons (.int .i64) (.cons .str .nil)))))) z [.slice a len cap]) (hl : 0 < len) :
    ∃ b off, a = some ⟨b, off, none⟩ ∧ b < w.heap.size ∧ ∀ i, i < len → ∃ (x y t : Int) (s : ByteArray), w.cell? ⟨b, off + i * 4, none⟩ = some (.int .i64 x) ∧ w.cell? ⟨b, off + i * 4 + 1, none⟩ = some (.int .i64 y) ∧ w.cell? ⟨b, off + i * 4 + 2, none⟩ = some (.int .i64 t) ∧ w.cell? ⟨b, off + i * 4 + 3, none⟩ = some (.string s) := by
  obtain ⟨rfl, _⟩ := Sh.slice_len r
  obtain ⟨b, off, ha, h⟩ := Sh.slice_at r hl
  have H : ∀ i, i < List.length z → ∃ (x y t : Int) (s : ByteArray), w.cell? ⟨b, off + i * 4, none⟩ = some (.int .i64 x) ∧ w.cell? ⟨b, off + i * 4 + 1, none⟩ = some (.int .i64 y) ∧ w.cell? ⟨b, off + i * 4 + 2, none⟩ = some (.int .i64 t) ∧ w.cell? ⟨b, off + i * 4 + 3, none⟩ = some (.string s) := by
    intro i hi
    obtain ⟨c, h1, h2, c1, c2, rfl, _, ⟨rfl, h3⟩, d1, d2, rfl, _, ⟨rfl, h4⟩, e1, e2, rfl, _, ⟨rfl, h5⟩, f1, f2, rfl, _, ⟨rfl, h6⟩, rfl⟩ := h i _ (List.getElem?_eq_getElem hi)
    exact ⟨_, _, _, _, by simpa [Sh.size] using h2 0 (by simp [Sh.size]), by simpa [Sh.size] using h2 1 (by simp [Sh.size]), by simpa [Sh.size] using h2 2 (by simp [Sh.size]), by simpa [Sh.size] using h2 3 (by simp [Sh.size])⟩
  obtain ⟨_, _, _, _, h0, _⟩ := H 0 hl
  exact ⟨b, off, ha, World.block_lt_of_cell? _ _ h0, H⟩

def playRel19 (W : World) (n len : Nat) (lv i : Value) (wr : World) : Prop := ∃ (k : Nat) (l : LConn), i = .int .i64 k ∧ k ≤ len ∧ k ≤ 50 ∧ Mid W wr n lv l l (30 * k) k ∧ l.length ≤ k

def innerRel19 (w5 : World) (l : LConn) (lv i : Value) (wr : World) : Prop := ∃ j : Nat, i = .int .i64 j ∧ j ≤ l.length ∧ Own kI IntT w5.heap.size wr lv (R19.live (l.take j)) ∧ Keep [] w5 wr

def sameRel19 (w9 : World) (m : Nat) (i : Value) (wr : World) : Prop := ∃ j : Nat, i = .int .i64 j ∧ j ≤ m ∧ Keep [] w9 wr

theorem fltI (a : Int) (h : 0 ≤ a) : FloatKind.f64.format.order (FloatKind.f64.nearest a) (floatOfInt FloatKind.f64 a) = some .eq := flt_self a h

theorem own_int19 {base : Nat} {w : World} {v : Value} {l : List Int} (h : Own kI IntT base w v l) {j : Nat} (hj : j < l.length) (x : Int) (hx : l[j] = x) :
    ∃ g cap, v = .slice (some ⟨g, 0, none⟩) l.length cap ∧ g < w.heap.size ∧ w.cell? ⟨g, j, none⟩ = some (.int .i64 x) := by
  subst hx
  obtain ⟨g, cap, hv, _, hg⟩ := h.form (by omega)
  obtain ⟨A, c, hv', _, hC⟩ := h.reads
  rw [hv] at hv'
  cases hv'
  obtain ⟨ad, c1, e, hc1, hK, hcell⟩ := Kd.C_get hC 0 (j : Int) (by omega) (by omega)
  cases e
  have hK' : c1 = [.int .i64 (l.getD (j : Int).toNat 0)] := hK
  subst hK'
  have := hcell 0 _ rfl
  rw [show (j : Int).toNat = j by omega, add_plain, show kI.sz = 1 from rfl] at this
  refine ⟨g, _, hv, hg, ?_⟩
  simpa [List.getD, hj] using this

theorem live_r {W w : World} {n : Nat} {v : Value} {l : LConn} {N K : Nat} (h : Mid W w n v l l N K) (hK : K < 1000000) :
    Calls Try.prog 23 #[ptrTo n] w (Px fun (x : Option Addr × Nat) e w' => e = .returned (.slice x.1 (R19.live l).length x.2) ∧ (∀ (j : Nat) (q : Int), (R19.live l)[j]? = some q → ∃ g, x.1 = some ⟨g, 0, none⟩ ∧ g < w'.heap.size ∧ w'.cell? ⟨g, j, none⟩ = some (.int .i64 q)) ∧ Keep [] w w') := by
  obtain ⟨b, L, M, h3, h4, h5, h6, h7⟩ := h.net
  refine (live_any w n b L M h3 (sorts_any _ (by omega)) (by omega)).mono ?_
  rintro e w' ⟨⟨v1, L1⟩, rfl, hKO, hown, hk⟩
  have e1 := h4.keys h3 hKO
  simp only at e1 hown hKO
  rw [e1, h4.lives] at hown
  obtain ⟨A, cap, hv, hr⟩ := own_reads hown
  exact ⟨(A, cap), by rw [← hv], hr, hk⟩

theorem plays19_walk (a0 : Option Addr) (len0 cap0 : Nat) (z0 : Sh.T (.slice (.struct (.cons (.int .i64) (.cons (.int .i64) (.cons (.int .i64) (.cons .str .nil))))))) (w : World) (r0 : Sh.Rd w (.slice (.struct (.cons (.int .i64) (.cons (.int .i64) (.cons (.int .i64) (.cons .str .nil)))))) z0 [.slice a0 len0 cap0]) :
    Calls Try.prog 5 #[.slice a0 len0 cap0] w fun e w' => e = .returned (.bool true) ∧ Below w.heap.size w w' := by
  have hl0 : len0 ≤ maxLen := by obtain ⟨_, h1, h2⟩ := Sh.slice_len r0; omega
  unfold maxLen at hl0
  go_enter Try.func5, Try.ntmps5
  go_wp2_with fail
  refine (new_any _).mono ?_
  rintro e w1 ⟨⟨n, b⟩, rfl, hN, hK1, hn, hb⟩
  simp only at hN hn hb
  go_wp2_with fail
  refine (awake19 _).mono ?_
  rintro e w2 ⟨rfl, hK2⟩
  have hM0 : Mid w w2 n (.slice (some ⟨w1.heap.size, 0, none⟩) 0 0) [] [] 0 0 := by
    have hk := ((Keep.refl [] w1).alloc (.cells #[] ConnT)).then hK2
    exact ⟨(Own.fresh (d := kC) (e := ConnT) (base := w.heap.size) (w := w1) hK1.size).keep hK2 (by simp), (hK1.then hk).below, hn, b, [], _, hN.keep hk (by simp) (by simp) (by simp [AL.get]), ⟨List.Pairwise.nil, fun k => rfl, fun c hc => by simp at hc⟩, hb, fun k c hc => by simp [AL.get] at hc, by simp⟩
  clear hN hK1 hK2 hb
  go_wp2_with fail
  go_loopw [4, 5] (fun lv i wr => playRel19 w n len0 lv i wr) (fun _ i _ => 50 - (intOf i).toNat)
  case atStart => exact ⟨0, [], rfl, by omega, by omega, hM0, by simp⟩
  case round =>
    obtain ⟨k, l, rfl, hk1, hk2, hM, hLk⟩ := hrel
    obtain ⟨c, hc⟩ : ∃ c : Bool, c = decide (k < len0 ∧ k < 50) := ⟨_, rfl⟩
    have HC := hide hc
    clear hc
    go_upto_region 6 with fail
    go_cut [28] from 21 to 106 (fun s wx => s = .bool c ∧ wx = wr)
    case first =>
      by_cases h1 : k < len0
      · by_cases h2 : k < 50
        · obtain rfl : c = true := by rw [HC.out]; simp [h1, h2]
          go_wp2_with fail
          go_meet
          exact ⟨by first | rfl | (simp; omega), rfl⟩
        · obtain rfl : c = false := by rw [HC.out]; simp [h2]
          go_wp2_with fail
          go_meet
          exact ⟨by first | rfl | (simp; omega), rfl⟩
      · obtain rfl : c = false := by rw [HC.out]; simp [h1]
        go_wp2_with fail
        go_meet
        exact ⟨rfl, rfl⟩
    case rest =>
    obtain ⟨rfl, rfl⟩ := hcut
    cases c
    · clear HC
      go_wp2_with fail
      go_ret
      exact ⟨rfl, hM.below⟩
    · have hlt : k < len0 ∧ k < 50 := by have := HC.out; simpa using this
      obtain ⟨hlt, h50⟩ := hlt
      clear HC
      obtain ⟨b, off, rfl, hb, hc⟩ := slice_act r0 (by omega)
      obtain ⟨kd, id, m, s, c0, c1, c2, c3⟩ := hc k hlt
      clear hc
      have hB1 := hM.below
      have d0 : wc.cell? ⟨b, off + k * 4, none⟩ = some (.int .i64 kd) := (hB1.cell (p := ⟨b, off + k * 4, none⟩) hb).trans c0
      have d1 : wc.cell? ⟨b, off + k * 4 + 1, none⟩ = some (.int .i64 id) := (hB1.cell (p := ⟨b, off + k * 4 + 1, none⟩) hb).trans c1
      have d2 : wc.cell? ⟨b, off + k * 4 + 2, none⟩ = some (.int .i64 m) := (hB1.cell (p := ⟨b, off + k * 4 + 2, none⟩) hb).trans c2
      have d3 : wc.cell? ⟨b, off + k * 4 + 3, none⟩ = some (.string s) := (hB1.cell (p := ⟨b, off + k * 4 + 3, none⟩) hb).trans c3
      have hlt' : (k : Int) < (len0 : Int) := by omega
      clear c0 c1 c2 c3 hB1
      go_wp2_with fail
      refine (does_any hM (by omega) (by omega) kd id m s).mono ?_
      rintro e w5 ⟨⟨v5, l5⟩, rfl, hM5, hL5⟩
      clear hM d0 d1 d2 d3
      simp only at hM5 hL5
      obtain ⟨A5, cap5, rfl⟩ := hM5.own.slice
      go_wp2_with fail
      go_loopw [8, 47] (fun lv i wr => innerRel19 w5 l5 lv i wr) (fun _ i _ => l5.length - (intOf i).toNat)
      case atStart => exact ⟨0, rfl, by omega, Own.fresh (Nat.le_refl _), (Keep.refl _ _).alloc _⟩
      case round =>
        obtain ⟨j, rfl, hj, hOl, hKr⟩ := hrel
        have hO5 := hM5.own.keep hKr (by simp)
        by_cases hlt2 : j < l5.length
        · obtain ⟨c, hc⟩ : ∃ c, l5[j] = c := ⟨_, rfl⟩
          obtain ⟨g, cap, hv, hg, d0, d1, d2, d3, d4, d5⟩ := own_conn hO5 hlt2 c hc
          have hA : A5 = some ⟨g, 0, none⟩ := by injection hv
          subst hA
          clear hv
          have hcm : c ∈ l5 := by rw [← hc]; exact List.getElem_mem hlt2
          obtain ⟨HS, HT⟩ := both_q hM5 c hcm
          have hok := hM5.okc c hcm
          have hlv := R19.live_take l5 j hlt2 c hc
          obtain ⟨c0_, c1_, c2_, c3_, c4_, c5_⟩ := c
          simp only at d0 d1 d2 d3 d4 d5 HS HT hlv
          have HS := hide HS
          have HT := hide HT
          have HLV := hide hlv
          have hok0 := hok.1
          have hok1 := hok.2.1
          have hok2 := hok.2.2.1
          simp only at hok0 hok1 hok2
          clear hc hcm hok hlv
          have hlt3 : (j : Int) < (l5.length : Int) := by omega
          have HLT := hide hlt3
          have hKa := hKr.alloc (.cells #[.int .i64 c0_, .string c1_, .int .i64 c2_, .bool c3_, .string c4_, .bool c5_] ConnT)
          have HKA := hide hKa
          have n1 : (c4_ != c4_) = false := by show (!(c4_ == c4_)) = false; rw [ba_self]; rfl
          have f1 := fltI c2_ hok0
          have f2 := fltI ((c1_.size : Int) - c2_) (by omega)
          have hwr2 : IntKind.i64.wrap ((c1_.size : Int) - c2_) = (c1_.size : Int) - c2_ := by
            have : c1_.size < 1000000000 := by omega
            rw [IntKind.wrap_i64]; omega
          have hkw : ∀ nq, Keep [] wr ((wr.alloc (.cells #[.int .i64 c0_, .string c1_, .int .i64 c2_, .bool c3_, .string c4_, .bool c5_] ConnT)).drewN nq) := fun nq => ((Keep.refl [] wr).alloc _).drewN nq
          have HOQ := hide (fun nq => hOl.keep (hkw nq) (by simp))
          have hll := R19.live_len (l5.take j)
          have hlt4 := List.length_take_le j l5
          have hszw := hKr.size
          clear hKa hOl hlt2 hok0 hok1 hok2 hkw
          cases c5_
          · go_wp2_with fail
            go_quiet ((first | (go_at_call 22; exact Calls.quiet_of_same (HS.out _ (HKA.out.drewN _))) | (go_at_call 19; exact Calls.quiet_of (HT.out _ (HKA.out.drewN _)))))
            have hOW := HOQ.out nq
            have hlv := HLV.out
            simp only [Bool.false_eq_true, if_false] at hlv
            have HLV2 := hide hlv
            clear hlv HLV HOQ
            obtain ⟨xs, hxs⟩ : ∃ xs, R19.live (l5.take j) = xs := ⟨_, rfl⟩
            rw [hxs] at hOW HLV2 hll
            clear hxs
            go_wp2_with (at_builtin; refine Own.append_law kI w5.heap.size rfl (.tmp 79) (.tmp 82) 23 IntT _ _ rfl Try.underlying23 infoK rfl (by decide) (by decide) _ xs c0_ _ rfl _ (by simp) rfl rfl hOW (by first | omega | (simp; omega)) (by first | omega | (simp; omega)) ?_; intro v1 w7 hO2 hg2 hr2)
            exact ⟨⟨j + 1, rfl, by have := HLT.out; omega, by rw [HLV2.out]; exact hO2, (HKA.out.drewN _).grown_base (Nat.le_refl _) hg2 hr2⟩, by have := HLT.out; simp [intOf] <;> omega⟩
          · go_wp2_with fail
            go_quiet ((first | (go_at_call 22; exact Calls.quiet_of_same (HS.out _ (HKA.out.drewN _))) | (go_at_call 19; exact Calls.quiet_of (HT.out _ (HKA.out.drewN _)))))
            have hOW := HOQ.out nq
            have hlv := HLV.out
            simp only [if_true, List.append_nil] at hlv
            have HLV2 := hide hlv
            clear hlv HLV HOQ
            go_wp2_with fail
            exact ⟨⟨j + 1, rfl, by have := HLT.out; omega, by rw [HLV2.out]; exact hOW, HKA.out.drewN _⟩, by have := HLT.out; simp [intOf] <;> omega⟩
        · have hjl : l5.take j = l5 := List.take_of_length_le (by omega)
          rw [hjl] at hOl
          have hMr := hM5.keep hKr
          obtain ⟨lv, hlv⟩ : ∃ lv, R19.live l5 = lv := ⟨_, rfl⟩
          have hll := R19.live_len l5
          have HLr := hide (live_r hMr (by omega))
          rw [hlv] at HLr hOl hll
          obtain ⟨A8, cap8, rfl⟩ := hOl.slice
          have HOl := hide hOl
          clear hM5 hOl hO5 hjl
          have HMr := hide hMr
          clear hMr hlv
          go_wp2_with fail
          refine HLr.out.mono ?_
          rintro e w8 ⟨⟨A9, cap9⟩, rfl, hrd, hK8⟩
          have HRD := hide hrd
          clear hrd HLr
          go_wp2_with fail
          go_loopw [94] (fun i wr => sameRel19 w8 lv.length i wr) (fun i _ => lv.length - (intOf i).toNat)
          case atStart => exact ⟨0, rfl, by omega, Keep.refl _ _⟩
          case round =>
            obtain ⟨q, rfl, hq, hK9⟩ := hrel
            by_cases hlt3 : q < lv.length
            · obtain ⟨x, hx⟩ : ∃ x, lv[q] = x := ⟨_, rfl⟩
              obtain ⟨g8, cc, hv, hg8, d8⟩ := own_int19 (HOl.out.keep (hK8.then hK9) (by simp)) hlt3 x hx
              have hA : A8 = some ⟨g8, 0, none⟩ := by injection hv
              subst hA
              clear hv
              obtain ⟨g9, rfl, hg9, c9⟩ := HRD.out q x (by rw [List.getElem?_eq_getElem hlt3, hx])
              have d9 := (hK9.cell (p := ⟨g9, q, none⟩) hg9 (by simp)).trans c9
              have hlt4 : (q : Int) < (lv.length : Int) := by omega
              have HLT := hide hlt4
              have nx : (x != x) = false := by simp
              clear hx c9 hlt3
              go_wp2_with fail
              go_region
              go_wp2_with fail
              exact ⟨⟨q + 1, rfl, by have := HLT.out; omega, hK9.drew⟩, by have := HLT.out; simp [intOf] <;> omega⟩
            · go_wp2_with fail
              have hMz := HMr.out.keep (hK8.then hK9)
              exact ⟨⟨k + 1, l5, rfl, by omega, by omega, by rw [Nat.mul_add]; exact hMz, by omega⟩, by simp [intOf] <;> omega⟩
end Go.Proofs.Ytaahmjamkllphaa
