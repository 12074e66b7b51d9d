/- RetainApart: the walk. -/
import Derived.Test.YtbgondiibnjcgaaDoorMsgIn
import Derived.Test.YtbgondiibnjcgaaDoorA12
namespace Go.Proofs.YtbgondiibnjcgaaDoor
open Go.RowKit Go.Shelf Go.Proofs.YtbgondiibnjcgaaDoor.PRetainPlays Go.Proofs.YtbgondiibnjcgaaDoorW.PrintWords Go.Proofs.YtbgondiibnjcgaaDoorW.PrintLast
set_option maxRecDepth 10000
set_option linter.unusedVariables false
set_option maxHeartbeats 1000000

/-- A row of the call's own under a turn of older blocks alone. -/
theorem Own.keep_lo {α : Type} {d : Kd α} {e base : Nat} {w w' : World} {v : Value} {xs : List α} {S : List Nat} (h : Own d e base w v xs) (hk : Keep S w w') (hS : ∀ k ∈ S, k < base) : Own d e base w' v xs :=
  Own.of (Kd.R_step (Kd.R_mono (ok' := fun k => base ≤ k) (Kd.R_bound h) fun k hk => hk.2.1) fun k ho hlt => hk.block k hlt fun hm => by have := hS k hm; omega)

theorem Rs.keep_lo {W w w' : World} {n b : Nat} {most : Int} {hs : List (ByteArray × Rm)} {S : List Nat} (h : Rs W w n b most hs) (hk : Keep S w w') (hS : ∀ k ∈ S, k < W.heap.size) : Rs W w' n b most hs :=
  ⟨h.box.keep hk (fun hm => by have := hS _ hm; have := h.bn; omega), h.map.keep hk (fun hm => by have := hS _ hm; have := h.bb; omega), h.bn, h.bb, fun p hp => (h.own p hp).keep_lo hk hS, h.plen⟩

/-- A store into a property's first text. -/
theorem Own.putS {w : World} {base : Nat} {l : List SP} {g cap : Nat} (h : Own kPr PrT base w (.slice (some ⟨g, 0, none⟩) l.length cap) l) {j : Nat} (hj : j < l.length) (u : ByteArray) :
    Own kPr PrT base (w.setCell ⟨g, j * 4 + 2, none⟩ (.string u)) (.slice (some ⟨g, 0, none⟩) l.length cap) (l.set j { l[j] with f2 := u }) := by
  have h1 := (Own.flat flatP h).stored (j * 4 + 2) (.string u)
  refine Own.of_flat flatP ?_
  have h2 := flat_set (enc := encP) (k := 4) (fun _ => rfl) { l[j] with f2 := u } 2 (.string u) (by omega) l j hj rfl
  rw [h2] at h1
  rw [List.length_set]
  exact h1.1

abbrev sb : BA := ⟨#[98]⟩
abbrev sc : BA := ⟨#[99]⟩
abbrev sd : BA := ⟨#[100]⟩
abbrev pS (s : BA) : SP := ⟨3, 0, s, se⟩

theorem Own.one_at {base : Nat} {w : World} {v : Value} {p : SP} (h : Own kPr PrT base w v [p]) :
    ∃ g cap, v = .slice (some ⟨g, 0, none⟩) 1 cap ∧ base ≤ g ∧ g < w.heap.size ∧ w.cell? ⟨g, 0, none⟩ = some (.int .i64 p.f0) ∧ w.cell? ⟨g, 1, none⟩ = some (.int .u32 p.f1) ∧ w.cell? ⟨g, 2, none⟩ = some (.string p.f2) ∧ w.cell? ⟨g, 3, none⟩ = some (.string p.f3) ∧ ∀ o, w.frozen? ⟨g, o, none⟩ = false := by
  obtain ⟨g, cap, h1, h2, h3, x0, x1, x2, x3, hf⟩ := own_pr_at h (j := 0) (by simp)
  exact ⟨g, cap, h1, h2, h3, by simpa using x0, by simpa using x1, by simpa using x2, by simpa using x3, hf⟩

theorem Own.one_put {base : Nat} {w : World} {g cap : Nat} {p : SP} (h : Own kPr PrT base w (.slice (some ⟨g, 0, none⟩) 1 cap) [p]) (u : BA) :
    Own kPr PrT base (w.setCell ⟨g, 2, none⟩ (.string u)) (.slice (some ⟨g, 0, none⟩) 1 cap) [{ p with f2 := u }] := by
  have := Own.putS (l := [p]) (g := g) (cap := cap) h (j := 0) (by simp) u
  simpa using this

theorem matchR_one {k0 : BA} {x : Rm} {f : BA} {now : Int} {L : List BA} (hL : ∀ k ∈ L, k ∈ ([(k0, x)] : List (BA × Rm)).map (·.1)) : ∀ m ∈ matchR [(k0, x)] f now L, m = toM x := by
  intro m hm
  unfold matchR at hm
  obtain ⟨k, hk, rfl⟩ := List.mem_map.1 hm
  have h1 := hL k (List.mem_filter.1 hk).1
  simp at h1
  subst h1
  have h2 : AL.get [(k, x)] k = some x := if_pos rfl
  rw [h2]; rfl

def apRel (w0 w1 : World) (ml : Nat) (i : Value) (wr : World) : Prop := ∃ j : Nat, i = .int .i64 j ∧ j ≤ ml ∧ Keep [] w0 wr ∧ (j = 0 → Keep [] w1 wr)
def apRel2 (w1 : World) (ml : Nat) (i : Value) (wr : World) : Prop := ∃ j : Nat, i = .int .i64 j ∧ j ≤ ml ∧ Keep [] w1 wr

theorem apart_walk (c0 : Array Value) (z0 : Sh.T ShMsg) (a1 : ByteArray) (w : World) (r0 : Sh.Rd w ShMsg z0 c0.toList) (w1 : a1.size ≤ maxLen) (hmx : MaxLenAt w) :
    Calls Tryd.prog 6 #[.agg c0, .string a1] w fun e w' => e = .returned (.bool true) ∧ Below w.heap.size w w' := by
  obtain ⟨fr, at_, q, rt, A, c, ps, tp, pl, hc0, hc, hC, _, _⟩ := msg_in r0
  obtain rfl : c0 = #[.string fr, .int .i64 at_, .int .u8 q, .bool rt, .slice A ps.length c, .string tp, .string pl] := Array.toList_inj.1 hc0
  have hX := Blk.new w #[.string fr, .int .i64 at_, .int .u8 q, .bool rt, .slice A ps.length c, .string tp, .string pl] MsT
  have hkX := (Keep.refl [] w).alloc (.cells #[.string fr, .int .i64 at_, .int .u8 q, .bool rt, .slice A ps.length c, .string tp, .string pl] MsT)
  have HF := hide (mfew hc (Kd.C_below hC hkX.below) fr tp pl at_ q rt)
  obtain ⟨nl, hnl⟩ : ∃ n, ps.length = n := ⟨_, rfl⟩
  rw [hnl] at hX hkX HF ⊢
  have HX := hide hX
  have HKX := hide hkX
  have HMX := hide hmx
  have hw0 := hide (show 0 < w.heap.size from by obtain ⟨m, hm⟩ := hmx; exact World.block_lt_of_cell? _ _ hm)
  clear r0 hc0 hc hC hX hkX w1 hmx hnl
  go_enter Tryd.func6, Tryd.ntmps6
  go_wp2_with fail
  refine HF.out.mono ?_
  rintro e w1 ⟨v, rfl, hO, hk1⟩
  obtain ⟨A1, c1, rfl⟩ := hO.slice
  obtain ⟨nf, hnf⟩ : ∃ n, (fewP ps).length = n := ⟨_, rfl⟩
  rw [hnf]
  have hX1 := HX.out.keep hk1 (by simp)
  obtain ⟨q0, q1, q2, q3, q4, q5, q6⟩ := hX1.cells7
  obtain ⟨f0, f1, f2, f3, f4, f5, f6⟩ := hX1.froz7
  obtain ⟨hX2, hk2⟩ := hX1.set7 (.string (cutS fr 10)) (.int .i64 (tickV at_)) (.int .u8 q) (.bool rt) (.slice A1 nf c1) (.string (cutS tp 30)) (.string (cutS pl 30))
  have HX2 := hide hX2
  have HK2 := hide (((HKX.out.then hk1).mono (by simp)).then hk2)
  clear hX1 hk1 hO hnf hX2 hk2
  go_upto_region 2 with fail
  obtain ⟨w2, hw2⟩ : ∃ w2, set7 w1 w.heap.size (.string (cutS fr 10)) (.int .i64 (tickV at_)) (.int .u8 q) (.bool rt) (.slice A1 nf c1) (.string (cutS tp 30)) (.string (cutS pl 30)) = w2 := ⟨_, rfl⟩
  have hX2 := HX2.out
  have hk2 := HK2.out
  rw [hw2] at hX2 hk2
  unfold set7 at hw2
  rw [hw2]
  clear q0 q1 q2 q3 q4 q5 q6 f0 f1 f2 f3 f4 f5 f6 hw2 HX2 HK2
  have hP := Own.onePr w2 (pS sa)
  have hk3 := (Keep.refl [] w2).alloc (.cells #[.int .i64 3, .int .u32 0, .string sa, .string se] PrT)
  have hX3 := hX2.keep hk3 (by simp)
  obtain ⟨q0, q1, q2, q3, q4, q5, q6⟩ := hX3.cells7
  obtain ⟨f0, f1, f2, f3, f4, f5, f6⟩ := hX3.froz7
  have hX4 := hX3.set 4 (.slice (some ⟨w2.heap.size, 0, none⟩) 1 1)
  have hk4 : Keep [w.heap.size] _ ((w2.alloc (.cells #[.int .i64 3, .int .u32 0, .string sa, .string se] PrT)).setCell ⟨w.heap.size, 4, none⟩ (.slice (some ⟨w2.heap.size, 0, none⟩) 1 1)) := (Keep.refl [w.heap.size] _).setCell (fun _ => by simp) _
  have hP4 := hP.keep hk4 (by intro k hk; simp at hk; subst hk; exact not_of_blk hX3 (by decide))
  have hkw4 := (hk2.then (hk3.mono (by simp))).then hk4
  have HX4 := hide hX4
  have HP4 := hide hP4
  have HKW4 := hide hkw4
  have hX2s := hide hX2.lt
  clear hP hk3 hX3 hX4 hk4 hP4 hkw4 hX2 hk2
  go_upto_region 3 with fail
  obtain ⟨w4, hw4⟩ : ∃ w4, (w2.alloc (.cells #[.int .i64 3, .int .u32 0, .string sa, .string se] PrT)).setCell ⟨w.heap.size, 4, none⟩ (.slice (some ⟨w2.heap.size, 0, none⟩) 1 1) = w4 := ⟨_, rfl⟩
  obtain ⟨P, hP⟩ : ∃ P, w2.heap.size = P := ⟨_, rfl⟩
  have hX4 := HX4.out
  have hP4 := HP4.out
  have hkw4 := HKW4.out
  rw [hw4] at hX4 hP4 hkw4 ⊢
  have hsz2 : w.heap.size < P := by rw [← hP]; exact hX2s.out
  rw [hP] at hX4 hP4 ⊢
  clear hw4 HX4 HP4 HKW4 q0 q1 q2 q3 q4 q5 q6 f0 f1 f2 f3 f4 f5 f6 hP
  have hX4 : Blk w4 w.heap.size #[.string (cutS fr 10), .int .i64 (tickV at_), .int .u8 q, .bool rt, .slice (some ⟨P, 0, none⟩) 1 1, .string (cutS tp 30), .string (cutS pl 30)] MsT := by simpa using hX4
  have hp30 := cutS_size pl 30
  have ht30 := cutS_size tp 30
  have hf30 := cutS_size a1 30
  obtain ⟨fr', hfr'⟩ : ∃ x, cutS fr 10 = x := ⟨_, rfl⟩
  obtain ⟨tp', htp'⟩ : ∃ x, cutS tp 30 = x := ⟨_, rfl⟩
  obtain ⟨pl', hpl'⟩ : ∃ x, cutS pl 30 = x := ⟨_, rfl⟩
  obtain ⟨ta, hta⟩ : ∃ x, tickV at_ = x := ⟨_, rfl⟩
  rw [hfr', htp', hpl', hta] at hX4
  rw [hpl'] at hp30
  rw [htp'] at ht30
  have hcat : ¬ 9223372036854775807 < sx.size + pl'.size := by show ¬ (9223372036854775807 : Nat) < 1 + _; omega
  have hpne : (sx ++ pl').size ≠ 0 := by rw [ByteArray.size_append]; show 1 + _ ≠ 0; omega
  obtain ⟨q0, q1, q2, q3, q4, q5, q6⟩ := hX4.cells7
  obtain ⟨f0, f1, f2, f3, f4, f5, f6⟩ := hX4.froz7
  have hX5 := hX4.set 6 (.string (sx ++ pl'))
  have hk5 : Keep [w.heap.size] w4 (w4.setCell ⟨w.heap.size, 6, none⟩ (.string (sx ++ pl'))) := (Keep.refl _ w4).setCell (fun _ => by simp) _
  have hP5 := hP4.keep hk5 (by intro k hk; simp at hk; subst hk; exact not_of_blk hX4 (by decide))
  have HX5 := hide hX5
  have HP5 := hide hP5
  have HK5 := hide (hkw4.then hk5)
  clear hX4 hP4 hkw4 hX5 hP5 hk5 hp30 hfr' htp' hpl' hta
  go_upto_region 4 with fail
  obtain ⟨w5, hw5⟩ : ∃ w5, w4.setCell ⟨w.heap.size, 6, none⟩ (.string (sx ++ pl')) = w5 := ⟨_, rfl⟩
  obtain ⟨pp, hpp⟩ : ∃ x, sx ++ pl' = x := ⟨_, rfl⟩
  have hX5 := HX5.out
  have hP5 := HP5.out
  have hk5 := HK5.out
  rw [hw5] at hX5 hP5 hk5 ⊢
  rw [hpp] at hX5 hpne ⊢
  have hX5 : Blk w5 w.heap.size #[.string fr', .int .i64 ta, .int .u8 q, .bool rt, .slice (some ⟨P, 0, none⟩) 1 1, .string tp', .string pp] MsT := by simpa using hX5
  have hcut : Calls Tryd.prog 18 #[.string a1, .int .i64 30] w5 fun e w' => e = .returned (.string (cutS a1 30)) ∧ w' = w5 := cut01_any a1 30 w5
  have HC := hide hcut
  have HA := hide (awake12 w5 (HMX.out.keep hk5 (by have := hw0.out; simp; omega)))
  have HX5 := hide hX5
  have HP5 := hide hP5
  have HK5 := hide hk5
  have HPN := hide hpne
  clear hw5 hpp hX5 hP5 hk5 hcut hcat q0 q1 q2 q3 q4 q5 q6 f0 f1 f2 f3 f4 f5 f6 hpne
  go_wp2_with fail
  refine HC.out.mono ?_
  rintro e w5' ⟨rfl, rfl⟩
  obtain ⟨ff, hff⟩ : ∃ x, cutS a1 30 = x := ⟨_, rfl⟩
  rw [hff] at hf30 ⊢
  clear hff
  go_wp2_with fail
  refine HA.out.mono ?_
  rintro e w6 ⟨rfl, hk6⟩
  go_wp2_with fail
  refine (rNew (W := w6) (Nat.le_refl _) 5).mono ?_
  rintro e w7 ⟨⟨n, b⟩, rfl, h7, hk7⟩
  simp only at h7
  rw [show max (5 : Int) 0 = 5 by decide] at h7
  have hX7 := (HX5.out.keep hk6 (by simp)).keep hk7 (by simp)
  have hP7 := (HP5.out.keep hk6 (by simp)).keep hk7 (by simp)
  obtain ⟨q0, q1, q2, q3, q4, q5, q6⟩ := hX7.cells7
  have hs := rSetStore h7 fr' tp' ta q rt (some ⟨P, 0, none⟩) [pS sa] 1 pp HPN.out hP7 (by simp) (Or.inr (by simp))
  have HS := hide hs
  have HX7 := hide hX7
  have HP7 := hide hP7
  have HNB := hide (And.intro h7.bn h7.bb)
  have HMP := hide h7.map
  have HK7 := hide (HK5.out.then ((hk6.then hk7).mono (by simp)))
  have HZ6 := hide (show P < w6.heap.size from by
    obtain ⟨g, cap, e1, _, hg, _⟩ := Own.one_at HP5.out
    obtain ⟨e2, _⟩ := slice_inj e1
    cases e2
    exact Nat.lt_of_lt_of_le hg hk6.size)
  clear hs hX7 hP7 h7 hk6 hk7
  go_wp2_with fail
  refine HS.out.mono ?_
  rintro e w8 ⟨v, rfl, h8, hk8⟩
  have h8 : Rs w6 w8 n b 5 [(tp', ⟨fr', ta, q, rt, [pS sa], v, tp', pp⟩)] := h8
  have hlt0 := hX2s.out
  have hltw : w.heap.size < w6.heap.size := by have := HX7.out.lt; have := HZ6.out; omega
  have hX8 := HX7.out.keep hk8 (by have := HNB.out.2; simp; omega)
  have hP8 := HP7.out.keep hk8 (by simp; exact not_of_map HMP.out _)
  obtain ⟨g1, cap1, hv1, _, hg1, p0, p1, p2, p3, pf⟩ := Own.one_at hP8
  obtain ⟨e1, e2⟩ := slice_inj hv1
  obtain rfl : P = g1 := by injection e1 with e1; injection e1
  subst e2
  clear hv1 e1
  obtain ⟨q0, q1, q2, q3, q4, q5, q6⟩ := hX8.cells7
  have pf2 := pf 2
  have hP9 := Own.one_put hP8 sb
  have hk9 : Keep [P] w8 (w8.setCell ⟨P, 2, none⟩ (.string sb)) := (Keep.refl _ w8).setCell (fun _ => by simp) _
  have h9 := h8.keep_lo hk9 (by intro k hk; simp at hk; have := HZ6.out; omega)
  have hX9 := hX8.keep hk9 (by simp; omega)
  have hM9 : MaxLenAt w8 := (HMX.out.keep HK7.out (by have := hw0.out; simp; omega)).keep hk8 (by have := HNB.out.2; have := hw0.out; simp; omega)
  have hM9 := hM9.keep hk9 (by simp; omega)
  have HX9 := hide hX9
  have HP9 := hide hP9
  have H9 := hide h9
  have HM9 := hide hM9
  have HK9 := hide (show Below w.heap.size w (w8.setCell ⟨P, 2, none⟩ (.string sb)) from by
    have a1 : Keep [w.heap.size, b, P] w (w8.setCell ⟨P, 2, none⟩ (.string sb)) := ((HK7.out.mono (by simp)).then (hk8.mono (by simp))).then (hk9.mono (by simp))
    exact (a1.trans (S := []) (Keep.refl [] _) (fun x hx hlt => by have := HNB.out.2; simp at hx; omega) (by simp)).below)
  clear hX8 hP8 hP9 hk9 h9 hX9 hM9 pf h8 hk8 hg1
  go_upto_region 11 with fail
  obtain ⟨w9, hw9⟩ : ∃ w9, w8.setCell ⟨P, 2, none⟩ (.string sb) = w9 := ⟨_, rfl⟩
  have hX9 := HX9.out
  have hP9 := HP9.out
  have h9 := H9.out
  have hM9 := HM9.out
  have hk9 := HK9.out
  rw [hw9] at hX9 hP9 h9 hM9 hk9 ⊢
  have HX9 := hide hX9
  have HP9 := hide hP9
  have H9 := hide h9
  have HM9 := hide hM9
  have HK9 := hide hk9
  clear hw9 hX9 hP9 h9 hM9 hk9 q0 q1 q2 q3 q4 q5 q6 p0 p1 p2 p3 pf2
  have hmt := fun (w' : World) (hk : Keep [] w9 w') => rMatch (H9.out.keep hk) ff 0 (by omega) (by simp; omega) (by simp) (HM9.out.keep hk (by simp))
  have HMT := hide hmt
  clear hmt
  go_wp2_with fail
  refine (HMT.out w9 (Keep.refl _ _)).mono ?_
  rintro e w10 ⟨⟨v10, L⟩, rfl, hO, hL, hk10⟩
  simp only at hO hL
  have hML := matchR_one (f := ff) (now := 0) (fun k hk => hL.1.mem_iff.1 hk)
  have hlen := matchR_len [(tp', (⟨fr', ta, q, rt, [pS sa], v, tp', pp⟩ : Rm))] ff 0 L
  have hL1 := hL.1.length_eq
  simp at hL1
  obtain ⟨ml, hml⟩ : ∃ m, matchR [(tp', (⟨fr', ta, q, rt, [pS sa], v, tp', pp⟩ : Rm))] ff 0 L = m := ⟨_, rfl⟩
  rw [hml] at hO hML hlen
  obtain ⟨A10, c10, rfl⟩ := hO.slice
  have hml1 : ml.length ≤ 1 := by omega
  have HO := hide hO
  have HML := hide hML
  have HK10 := hide hk10
  clear hO hML hk10 hml hlen hL1 hL
  go_wp2_with fail
  go_loopw [37] (fun i wr => apRel w9 w10 ml.length i wr) (fun i _ => ml.length - (intOf i).toNat)
  case atStart => exact ⟨0, rfl, by omega, HK10.out, fun _ => Keep.refl _ _⟩
  case round =>
    obtain ⟨j, rfl, hj, hK, hK0⟩ := hrel
    by_cases hlt : j < ml.length
    · obtain rfl : j = 0 := by omega
      have hk0 := hK0 rfl
      obtain ⟨g, cap, v4, hv, hgb, hg, x0, x1, x2, x3, x4, x5, x6, hO4, hne4⟩ := own_ms_in (HO.out.keep hk0 (by simp)) hlt
      obtain ⟨hA8, hc8⟩ := slice_inj hv
      subst hA8 hc8
      have hme : ml[0] = toM ⟨fr', ta, q, rt, [pS sa], v, tp', pp⟩ := HML.out _ (List.getElem_mem hlt)
      rw [hme] at x0 x1 x2 x3 x5 x6 hO4
      simp only [toM] at x0 x1 x2 x3 x5 x6 hO4
      obtain ⟨g4, cap4, rfl, hg4b, hg4, y0, y1, y2, y3, yf⟩ := Own.one_at hO4
      have hX := Blk.new wr #[.string fr', .int .i64 ta, .int .u8 q, .bool rt, .slice (some ⟨g4, 0, none⟩) 1 cap4, .string tp', .string pp] MsT
      have hkX := (Keep.refl [] wr).alloc (.cells #[.string fr', .int .i64 ta, .int .u8 q, .bool rt, .slice (some ⟨g4, 0, none⟩) 1 cap4, .string tp', .string pp] MsT)
      have z2 := (hkX.cell (p := ⟨g4, 2, none⟩) hg4 (by simp)).trans y2
      have zf := (hkX.frozen (p := ⟨g4, 2, none⟩) hg4 (by simp)).trans (yf 2)
      obtain ⟨q0, q1, q2, q3, q4, q5, q6⟩ := hX.cells7
      have hkS := (hK.setCell (p := ⟨g4, 2, none⟩) (fun h => absurd h (by simp; omega)) (.string sc)).alloc (.cells #[.string fr', .int .i64 ta, .int .u8 q, .bool rt, .slice (some ⟨g4, 0, none⟩) 1 cap4, .string tp', .string pp] MsT)
      have HKS := hide hkS
      have hlt6 : (0 : Int) < (ml.length : Int) := by omega
      have HLT := hide hlt
      simp at x0 x1 x2 x3 x4 x5 x6
      clear hkS hX hkX hO4 yf y0 y1 y2 y3 hme hv hne4 hK hK0 hk0 hlt hj
      go_wp2_with fail
      have hl9 := HLT.out
      exact ⟨⟨1, rfl, by omega, HKS.out, fun h => by omega⟩, by simp [intOf]; omega⟩
    · obtain rfl : j = ml.length := by omega
      have hnn : ¬ ((ml.length : Int) < (ml.length : Int)) := by omega
      have HK := hide hK
      clear hK hK0 hlt hj hml1
      go_wp2_with fail
      refine (HMT.out _ HK.out).mono ?_
      rintro e w11 ⟨⟨v11, L2⟩, rfl, hO, hL, hk11⟩
      simp only at hO hL
      have hML := matchR_one (f := ff) (now := 0) (fun k hk => hL.1.mem_iff.1 hk)
      have hlen := matchR_len [(tp', (⟨fr', ta, q, rt, [pS sa], v, tp', pp⟩ : Rm))] ff 0 L2
      have hL1 := hL.1.length_eq
      simp at hL1
      obtain ⟨m2, hm2⟩ : ∃ m, matchR [(tp', (⟨fr', ta, q, rt, [pS sa], v, tp', pp⟩ : Rm))] ff 0 L2 = m := ⟨_, rfl⟩
      rw [hm2] at hO hML hlen
      obtain ⟨A11, c11, rfl⟩ := hO.slice
      have hml1 : m2.length ≤ 1 := by omega
      have HO2 := hide hO
      have HML2 := hide hML
      have HK11 := hide (HK.out.then hk11)
      clear hO hML hk11 hm2 hlen hL1 hL
      go_wp2_with fail
      go_loopw [50] (fun i wr => apRel2 w11 m2.length i wr) (fun i _ => m2.length - (intOf i).toNat)
      case atStart => exact ⟨0, rfl, by omega, Keep.refl _ _⟩
      case round =>
        obtain ⟨j, rfl, hj, hK⟩ := hrel
        by_cases hlt : j < m2.length
        · obtain ⟨g, cap, v4, hv, hgb, hg, x0, x1, x2, x3, x4, x5, x6, hO4, hne4⟩ := own_ms_in (HO2.out.keep hK (by simp)) hlt
          obtain ⟨hA8, hc8⟩ := slice_inj hv
          subst hA8 hc8
          have hme : m2[j] = toM ⟨fr', ta, q, rt, [pS sa], v, tp', pp⟩ := HML2.out _ (List.getElem_mem hlt)
          rw [hme] at x0 x1 x2 x3 x5 x6 hO4
          simp only [toM] at x0 x1 x2 x3 x5 x6 hO4
          obtain ⟨g4, cap4, rfl, hg4b, hg4, y0, y1, y2, y3, yf⟩ := Own.one_at hO4
          have hX := Blk.new wr #[.string fr', .int .i64 ta, .int .u8 q, .bool rt, .slice (some ⟨g4, 0, none⟩) 1 cap4, .string tp', .string pp] MsT
          have hkX := (Keep.refl [] wr).alloc (.cells #[.string fr', .int .i64 ta, .int .u8 q, .bool rt, .slice (some ⟨g4, 0, none⟩) 1 cap4, .string tp', .string pp] MsT)
          have z2 := (hkX.cell (p := ⟨g4, 2, none⟩) hg4 (by simp)).trans y2
          obtain ⟨q0, q1, q2, q3, q4, q5, q6⟩ := hX.cells7
          have HKS := hide (hK.then hkX)
          have hlt6 : (j : Int) < (m2.length : Int) := by omega
          have HLT := hide hlt
          clear hX hkX hO4 yf y0 y1 y3 hme hv hne4 hK hlt hj
          go_wp2_with fail
          have hl9 := HLT.out
          exact ⟨⟨j + 1, by simp, by omega, HKS.out⟩, by simp [intOf]; omega⟩
        · obtain rfl : j = m2.length := by omega
          have hnn : ¬ ((m2.length : Int) < (m2.length : Int)) := by omega
          have hkk := HK11.out.then hK
          have hX12 := HX9.out.keep hkk (by simp)
          have hP12 := HP9.out.keep hkk (by simp)
          obtain ⟨q0, q1, q2, q3, q4, q5, q6⟩ := hX12.cells7
          have hpu := hide (mpub hP12 (by simp) fr' tp' pp ta q rt 0)
          have hpe : pubPs ta [pS sb] 0 = [pS sb] := pubPs_none (by simp)
          rw [hpe] at hpu
          have HP12 := hide hP12
          have HX12 := hide hX12
          have HKK := hide hkk
          clear hpe hX12 hP12 hkk hK hlt hj hml1
          go_wp2_with fail
          refine hpu.out.mono ?_
          rintro e w13 ⟨v13, rfl, hO13, hk13⟩
          obtain ⟨g5, cap5, rfl, hg5b, hg5, y0, y1, y2, y3, yf⟩ := Own.one_at hO13
          have yf2 := yf 2
          have hP13 := HP12.out.keep hk13 (by simp)
          have hX13 := HX12.out.keep hk13 (by simp)
          obtain ⟨g6, cap6, hv6, _, hg6, p0, p1, p2, p3, pf⟩ := Own.one_at hP13
          obtain ⟨e1, e2⟩ := slice_inj hv6
          obtain rfl : P = g6 := by injection e1 with e1; injection e1
          have hPg : P < g5 := by
            obtain ⟨g7, cap7, hv7, _, hg7, _⟩ := Own.one_at HP12.out
            obtain ⟨e3, e4⟩ := slice_inj hv7
            obtain rfl : P = g7 := by injection e3 with e3; injection e3
            omega
          have hne5 : ¬ P = g5 := by omega
          have hne6 : ¬ g5 = P := by omega
          have hneX : ¬ w.heap.size = g5 := by omega
          have hneY : ¬ g5 = w.heap.size := by omega
          obtain ⟨q0, q1, q2, q3, q4, q5, q6⟩ := hX13.cells7
          have hX14 := Blk.new w13 #[.bool false, .bool rt, .int .u8 q, .int .u32 0, .slice (some ⟨g5, 0, none⟩) 1 cap5, .string tp', .string pp] PbT
          have hk14 := (Keep.refl [] w13).alloc (.cells #[.bool false, .bool rt, .int .u8 q, .int .u32 0, .slice (some ⟨g5, 0, none⟩) 1 cap5, .string tp', .string pp] PbT)
          have r4 := hX14.cell 4
          simp at r4
          have o2 := (hk14.cell (p := ⟨g5, 2, none⟩) hg5 (by simp)).trans y2
          have of2 := (hk14.frozen (p := ⟨g5, 2, none⟩) hg5 (by simp)).trans yf2
          have s2 := (hk14.cell (p := ⟨P, 2, none⟩) hg6 (by simp)).trans p2
          have s4 := (hk14.cell (p := ⟨w.heap.size, 4, none⟩) hX13.lt (by simp)).trans q4
          have HK13 := hide (HKK.out.then hk13)
          have hX13l := hide hX13.lt
          clear hO13 yf hP13 hX13 hv6 pf e1 e2 hk13 hX14 hk14
          go_upto_region 24 with fail
          have hkE := ((Keep.refl [g5] w13).setCell (p := ⟨g5, 2, none⟩) (fun _ => by simp) (.string sd)).alloc (.cells #[.bool false, .bool rt, .int .u8 q, .int .u32 0, .slice (some ⟨g5, 0, none⟩) 1 cap5, .string tp', .string pp] PbT)
          have t4 := (hkE.cell (p := ⟨w.heap.size, 4, none⟩) hX13l.out (by simpa using hneX)).trans q4
          have t2 := (hkE.cell (p := ⟨P, 2, none⟩) hg6 (by simpa using hne5)).trans p2
          have HKE := hide hkE
          clear hkE s2 s4 o2 of2 r4
          obtain ⟨w15, hw15⟩ : ∃ w15, (w13.setCell ⟨g5, 2, none⟩ (.string sd)).alloc (.cells #[.bool false, .bool rt, .int .u8 q, .int .u32 0, .slice (some ⟨g5, 0, none⟩) 1 cap5, .string tp', .string pp] PbT) = w15 := ⟨_, rfl⟩
          have hkE := HKE.out
          rw [hw15] at t4 t2 hkE ⊢
          have HKE := hide hkE
          clear hw15 hkE q0 q1 q2 q3 q4 q5 q6 p0 p1 p2 p3 y0 y1 y2 y3 yf2
          go_wp2_with fail
          go_ret
          refine ⟨rfl, ?_⟩
          have hkf := (Keep.of_below HK9.out).trans (S1 := []) (S := []) (HK13.out.trans HKE.out (S := [g5]) (by simp) (fun _ h _ => h)) (by simp) (fun x hx hlt => by
            simp at hx
            subst hx
            have := HK13.out.size
            have := hX2s.out
            omega)
          exact hkf.below
end Go.Proofs.YtbgondiibnjcgaaDoor
