import Derived.Test.YtjhhnidfmoejdaaDoorF25
import Derived.Test.YtjhhnidfmoejdaaDoorL25r
import Derived.Test.YtjhhnidfmoejdaaDoorIn
namespace Go.Proofs.YtjhhnidfmoejdaaDoor
open Go.RowKit Go.Lib Go.Proofs.YtjhhnidfmoejdaaDoor.PLedgerPlays Go.Proofs.YtjhhnidfmoejdaaDoorW.PrintWords Go.Proofs.YtjhhnidfmoejdaaDoorW.PrintLast
set_option maxRecDepth 10000
set_option linter.unusedVariables false
set_option linter.unusedSimpArgs false
set_option maxHeartbeats 2000000
abbrev ShAct25 : Sh := .struct (.cons (.int .i64) (.cons (.int .i64) (.cons (.int .u32) (.cons (.int .u8) (.cons (.int .u8) (.cons .bool (.cons .str .nil)))))))
theorem slice_act25 {w : World} {z : Sh.T (.slice ShAct25)} {a : Option Addr} {len cap : Nat} (r : Sh.Rd w (.slice ShAct25) z [.slice a len cap]) (hl : 0 < len) :
    ∃ b off, a = some ⟨b, off, none⟩ ∧ b < w.heap.size ∧ ∀ i, i < len → ∃ (kd what id qos code : Int) (dup : Bool) (nm : ByteArray), (w.cell? ⟨b, off + i * 7, none⟩ = some (.int .i64 kd) ∧ w.cell? ⟨b, off + i * 7 + 1, none⟩ = some (.int .i64 what) ∧ w.cell? ⟨b, off + i * 7 + 2, none⟩ = some (.int .u32 id) ∧ w.cell? ⟨b, off + i * 7 + 3, none⟩ = some (.int .u8 qos) ∧ w.cell? ⟨b, off + i * 7 + 4, none⟩ = some (.int .u8 code) ∧ w.cell? ⟨b, off + i * 7 + 5, none⟩ = some (.bool dup) ∧ w.cell? ⟨b, off + i * 7 + 6, none⟩ = some (.string nm)) ∧ 0 ≤ id ∧ (0 ≤ qos ∧ qos ≤ 255) ∧ (0 ≤ code ∧ code ≤ 255) := by
  obtain ⟨rfl, _⟩ := Sh.slice_len r
  obtain ⟨b, off, ha, h⟩ := Sh.slice_at r hl
  have H : ∀ i, i < List.length z → ∃ (kd what id qos code : Int) (dup : Bool) (nm : ByteArray), (w.cell? ⟨b, off + i * 7, none⟩ = some (.int .i64 kd) ∧ w.cell? ⟨b, off + i * 7 + 1, none⟩ = some (.int .i64 what) ∧ w.cell? ⟨b, off + i * 7 + 2, none⟩ = some (.int .u32 id) ∧ w.cell? ⟨b, off + i * 7 + 3, none⟩ = some (.int .u8 qos) ∧ w.cell? ⟨b, off + i * 7 + 4, none⟩ = some (.int .u8 code) ∧ w.cell? ⟨b, off + i * 7 + 5, none⟩ = some (.bool dup) ∧ w.cell? ⟨b, off + i * 7 + 6, none⟩ = some (.string nm)) ∧ 0 ≤ id ∧ (0 ≤ qos ∧ qos ≤ 255) ∧ (0 ≤ code ∧ code ≤ 255) := by
    intro i hi
    obtain ⟨cs, k1, k2, c1, d1, rfl, _, ⟨rfl, w1⟩, c2, d2, rfl, _, ⟨rfl, w2⟩, c3, d3, rfl, _, ⟨rfl, w3⟩, c4, d4, rfl, _, ⟨rfl, w4⟩, c5, d5, rfl, _, ⟨rfl, w5⟩, c6, d6, rfl, _, rfl, c7, d7, rfl, _, ⟨rfl, w7⟩, rfl⟩ := h i _ (List.getElem?_eq_getElem hi)
    simp only [Sh.size] at k2
    have k4 := fun j (hj : j < 7) => k2 j (by omega)
    rw [show i * (1 + (1 + (1 + (1 + (1 + (1 + (1 + 0))))))) = i * 7 by omega] at k4
    simp [Lit.wf, IntKind.min, IntKind.max, IntKind.signed, IntKind.bits] at w3 w4 w5
    exact ⟨_, _, _, _, _, _, _, ⟨k4 0 (by omega), k4 1 (by omega), k4 2 (by omega), k4 3 (by omega), k4 4 (by omega), k4 5 (by omega), k4 6 (by omega)⟩, by omega, by omega, by omega⟩
  obtain ⟨_, _, _, _, _, _, _, ⟨h0, _⟩, _⟩ := H 0 hl
  exact ⟨b, off, ha, World.block_lt_of_cell? _ _ h0, H⟩
theorem rowS_of {base : Nat} {w : World} {A : Option Addr} {n c : Nat} {l : List BA} (h : Own Kd.string StrT base w (.slice A n c) l) {j : Nat} (hj : j < l.length) : ∃ g, A = some ⟨g, 0, none⟩ ∧ w.cell? ⟨g, j, none⟩ = some (.string l[j]) := by
  obtain ⟨g, cap, hv, hg, hc⟩ := own_str_at h hj
  simp only [Value.slice.injEq] at hv
  obtain ⟨rfl, _, _⟩ := hv
  exact ⟨g, rfl, hc⟩
namespace R25
theorem does_any {W w : World} {n K : Nat} {S : Lg} {x : Rx} {v : Vs} {cs : List Nat} (hT : Tab W) (h : Dy W w n S x v cs) (hR : Rel K S x) (hK : K < 100) (kd what id qos code : Int) (dup : Bool) (name : BA) (hi : 0 ≤ id) (hq : 0 ≤ qos ∧ qos ≤ 255) (hc : 0 ≤ code ∧ code ≤ 255) :
    Calls Tryd.prog 12 #[ptrTo n, v.val x.n, .agg (actC kd what id qos code dup name)] w (DoesPost W w n K cs) := by
  by_cases h1 : kd = 1
  · subst h1
    by_cases hq2 : qos % 3 = 2
    · exact does_1 hT h hR hK what id qos code dup name hi hq hc hq2
    · exact does_1n hT h hR hK what id qos code dup name hi hq hc hq2
  by_cases h2 : kd = 2
  · subst h2; exact does_2 hT h hR hK what id qos code dup name hi hq hc
  by_cases h3 : kd = 3
  · subst h3
    cases dup
    · exact does_3f hT h hR hK what id qos code name hi hq hc
    · exact does_3t hT h hR hK what id qos code name hi hq hc
  by_cases h4 : kd = 4
  · subst h4
    by_cases hq2 : qos % 3 = 2
    · exact does_4 hT h hR hK what id qos code dup name hi hq hc hq2
    · exact does_4n hT h hR hK what id qos code dup name hi hq hc hq2
  by_cases h5 : kd = 5
  · subst h5
    have hb := band_small what 3 (by omega)
    exact does_5 hT h hR hK what id qos code dup name hi hq hc (bits .and .i64 what 3 + 4) (by simp) (by
      have : ((3 : Nat) : Int) = 3 := rfl
      rw [this] at hb
      omega)
  exact does_0 hT h hR hK kd what id qos code dup name hi hq hc h1 h2 h3 h4 h5
def Pl25 (W w : World) (n b j : Nat) : Prop := ∃ (S : Lg) (x : Rx) (v : Vs), Dy W w n S x v [b] ∧ Rel j S x ∧ Blk w b #[v.a, v.b, v.c, .int .i64 x.n, v.d] SbT
def playRel (W : World) (n b : Nat) (i : Value) (wr : World) : Prop := ∃ j : Nat, i = .int .i64 j ∧ j ≤ 60 ∧ Pl25 W wr n b j
end R25
open R25 in
theorem plays25_walk (a0 : Option Addr) (len0 cap0 : Nat) (z0 : Sh.T (.slice ShAct25)) (w : World) (r0 : Sh.Rd w (.slice ShAct25) z0 [.slice a0 len0 cap0]) (hT : Tab w) :
    Calls Tryd.prog 4 #[.slice a0 len0 cap0] w fun e w' => e = .returned (.bool true) ∧ Below w.heap.size w w' := by
  have hl0 : len0 ≤ maxLen := by obtain ⟨_, h1, h2⟩ := Sh.slice_len r0; omega
  unfold maxLen at hl0
  have HA := hide (awake25 w hT)
  have HT := hide hT
  have HR0 := hide r0
  clear r0 hT
  go_enter Tryd.func4, Tryd.ntmps4
  go_wp2_with fail
  refine HA.out.mono ?_
  rintro e w1 ⟨rfl, hk1⟩
  go_wp2_with fail
  refine (rNew (W := w) hk1.below).mono ?_
  rintro e w2 ⟨n, rfl, h2, hk2⟩
  have hP0 : playRel w n w2.heap.size (.int .i64 0) (w2.alloc (.cells #[.slice none 0 0, .slice none 0 0, .slice none 0 0, .int .i64 0, .slice none 0 0] SbT)) := by
    have hk := (Keep.refl [] w2).alloc (.cells #[.slice none 0 0, .slice none 0 0, .slice none 0 0, .int .i64 0, .slice none 0 0] SbT)
    refine ⟨0, rfl, by omega, Lg.new, ⟨[], [], [], 0, []⟩, ⟨.slice none 0 0, .slice none 0 0, .slice none 0 0, .slice none 0 0⟩, ⟨⟨[w2.heap.size], h2.add hk (Nat.le_refl _) (by simp), fun k hk' => ?_⟩, ⟨Own.nil _ _ _ _, Own.nil _ _ _ _, Own.nil _ _ _ _, Own.nil _ _ _ _, fun k hk' => by simp [Value.ownBlock] at hk'⟩, fun c hc hi => ?_⟩, Rel.new, Blk.new _ _ _⟩
    · rcases hk' with hk' | hk'
      · exact hk'
      · simp [Vs.in_, Value.ownBlock] at hk'
    · simp [Vs.in_, Value.ownBlock] at hi
  have HP0 := hide hP0
  have HSZ := hide (show w.heap.size ≤ w2.heap.size from Nat.le_trans hk1.size hk2.size)
  clear h2 hk1 hk2 hP0
  go_wp2_with fail
  go_loopw [5] (fun i wr => playRel w n w2.heap.size i wr) (fun i _ => 60 - (intOf i).toNat)
  case atStart => exact HP0.out
  case round =>
    obtain ⟨j, rfl, hj, S, x, v, hd, hrl, hb⟩ := hrel
    by_cases hlt : j < len0 ∧ j < 60
    · obtain ⟨hlt, hlt2⟩ := hlt
      obtain ⟨b0, off, rfl, hb0, hc⟩ := slice_act25 HR0.out (by omega)
      obtain ⟨kd, what, id, qos, code, dup, nm, ⟨c0, c1, c2, c3, c4, c5, c6⟩, hi, hq, hcd⟩ := hc j hlt
      have hbel := hd.below
      have old := fun o => World.cell?_of_block (w := w) (w' := wr) (a := ⟨b0, o, none⟩) (hbel.block b0 hb0)
      have d0 := (old (off + j * 7)).trans c0
      have d1 := (old (off + j * 7 + 1)).trans c1
      have d2 := (old (off + j * 7 + 2)).trans c2
      have d3 := (old (off + j * 7 + 3)).trans c3
      have d4 := (old (off + j * 7 + 4)).trans c4
      have d5 := (old (off + j * 7 + 5)).trans c5
      have d6 := (old (off + j * 7 + 6)).trans c6
      have hg1 : (j : Int) < (len0 : Int) := by omega
      have hg2 : (j : Int) < 60 := by omega
      obtain ⟨A0, n0, k0, A1, n1, k1, A2, n2, k2, A3, n3, k3, rfl⟩ := hd.m.form
      obtain ⟨q0, q1, q2, q3, q4⟩ := hb.cells5
      have HDO := hide (fun (w' : World) (hk : Keep [] wr w') => does_any HT.out (hd.keep hk) hrl (by omega) kd what id qos code dup nm hi hq hcd)
      simp only [Vs.val] at HDO
      have HD := hide hd
      have HB := hide hb
      clear c0 c1 c2 c3 c4 c5 c6 hc hi hq hcd hbel old hd hb hrl
      go_upto_region 8 with fail
      go_region_with (go_at_call 12; refine (HDO.out _ ((Keep.refl [] wr).drew)).mono ?_; rintro e w4 ⟨⟨S4, x4, v4⟩, rfl, hd4, hr4, hk4⟩; have hb4 := (HB.out.drew).of_block (hk4 _ (by simp)); obtain ⟨B0, m0, l0, B1, m1, l1, B2, m2, l2, B3, m3, l3, hv4⟩ := hd4.m.form; simp only at hv4; subst hv4; obtain ⟨f0, f1, f2, f3, f4⟩ := hb4.froz5; obtain ⟨e0, e1, e2, e3, e4⟩ := hb4.cells5; obtain ⟨nn4, hnn4⟩ : ∃ n, x4.n = n := ⟨_, rfl⟩; have HN4 := hide hnn4; simp only [Vs.val, hnn4]; have HD4 := hide hd4; have HR4 := hide hr4; have HB4 := hide hb4; clear hd4 hr4 hk4 hb4 hnn4)
      all_goals go_upto_region 9 with fail
      all_goals
        have hW2 := HSZ.out
        have hset := set5_blk HB4.out (.slice B0 m0 l0) (.slice B1 m1 l1) (.slice B2 m2 l2) (.int .i64 nn4) (.slice B3 m3 l3)
        have hd5 := HD4.out.other (c := w2.heap.size) (by simp) hW2 hset.2
        obtain ⟨w5, hw5⟩ : ∃ w5, set5 w4 w2.heap.size (.slice B0 m0 l0) (.slice B1 m1 l1) (.slice B2 m2 l2) (.int .i64 nn4) (.slice B3 m3 l3) = w5 := ⟨_, rfl⟩
        rw [hw5] at hset hd5
        unfold set5 at hw5
        rw [hw5]
        have hj1 : j + 1 < 100 := by omega
        have HJ := hide hlt2
        have hm3 : x4.E.length = m3 := by obtain ⟨_, _, e⟩ := hd5.m.e.slice; simp only [Value.slice.injEq] at e; exact e.2.1.symm
        have HER := hide (hd5.errs_ HR4.out hj1)
        simp only [hm3] at HER
        have HD5 := hide hd5
        have HB5 := hide hset.1
        have HM3 := hide hm3
        clear hset hd5 hw5 hW2 hm3 HDO HD HB HD4 HB4 q0 q1 q2 q3 q4 d0 d1 d2 d3 d4 d5 d6 f0 f1 f2 f3 f4 e0 e1 e2 e3 e4
        go_wp2_with fail
        refine HER.out.mono ?_
        rintro e w6 ⟨⟨Ae, ce⟩, rfl, hOe, hk6⟩
        simp only at hOe
        have hd6 := HD5.out.keep hk6
        have hb6 := HB5.out.keep hk6 (by simp)
        have HOP := hide (fun (w' : World) (hk : Keep [] w6 w') => (hd6.keep hk).open_ HR4.out hj1)
        have HDN := hide (fun (w' : World) (hk : Keep [] w6 w') => (hd6.keep hk).done_ HR4.out hj1)
        have HNW := hide (fun (w' : World) (hk : Keep [] w6 w') => HN4.out ▸ (hd6.keep hk).news_ HR4.out)
        have HSO := hide (fun (w' : World) (hk : Keep [] w6 w') (v : Value) (l : List SX) (hv : Own kX ExT 0 w' v l) (hm : l.map toX = x4.O) (hl : OkL l) => same_any (u := .slice B0 m0 l0) hv (hd6.keep hk).m.o hm hl)
        have HSD := hide (fun (w' : World) (hk : Keep [] w6 w') (v : Value) (l : List SX) (hv : Own kX ExT 0 w' v l) (hm : l.map toX = x4.D) (hl : OkL l) => same_any (u := .slice B1 m1 l1) hv (hd6.keep hk).m.d hm hl)
        have HS := hide (fun (w' : World) (hk : Keep [] w6 w') => show w'.cell? ⟨w2.heap.size, 0, none⟩ = some (.slice B0 m0 l0) ∧ w'.cell? ⟨w2.heap.size, 1, none⟩ = some (.slice B1 m1 l1) ∧ w'.cell? ⟨w2.heap.size, 2, none⟩ = some (.slice B2 m2 l2) ∧ w'.cell? ⟨w2.heap.size, 3, none⟩ = some (.int .i64 nn4) ∧ w'.cell? ⟨w2.heap.size, 4, none⟩ = some (.slice B3 m3 l3) from (hb6.keep hk (by simp)).cells5)
        have HOE := hide hOe
        have HD6 := hide hd6
        have HB6 := hide hb6
        have hc0 : Keep [] w6 w6.drew := (Keep.refl _ _).drew
        clear hOe hk6 hd6 hb6 HER HD5 HB5 hlt hlt2
        go_upto_region 10 with fail
        go_region_held3 (fun w' => w'.cell? ⟨w2.heap.size, 0, none⟩ = some (.slice B0 m0 l0) ∧ w'.cell? ⟨w2.heap.size, 1, none⟩ = some (.slice B1 m1 l1) ∧ w'.cell? ⟨w2.heap.size, 2, none⟩ = some (.slice B2 m2 l2) ∧ w'.cell? ⟨w2.heap.size, 3, none⟩ = some (.int .i64 nn4) ∧ w'.cell? ⟨w2.heap.size, 4, none⟩ = some (.slice B3 m3 l3))
          (with_reducible exact HS.out _ (by assumption))
          (first
            | (go_at_call 9; (with_reducible refine (HOP.out _ (by assumption)).mono ?_); rintro e wm ⟨⟨v9, l9⟩, rfl, oO, oM, oL, hk⟩; simp only at oO oM oL; have hc : Keep [] w6 wm := Keep.then (by assumption) hk)
            | (go_at_call 11; (with_reducible refine (HDN.out _ (by assumption)).mono ?_); rintro e wm ⟨⟨v9, l9⟩, rfl, pO, pM, pL, hk⟩; simp only at pO pM pL; have hc : Keep [] w6 wm := Keep.then (by assumption) hk)
            | (go_at_call 14; (with_reducible refine (HNW.out _ (by assumption)).mono ?_); rintro e wm ⟨rfl, hk⟩; have hc : Keep [] w6 wm := Keep.then (by assumption) hk)
            | (go_at_call 13; (with_reducible refine (HSO.out _ (by assumption) _ _ oO oM oL).mono ?_); rintro e wm ⟨rfl, hk⟩; have hc : Keep [] w6 wm := Keep.then (by assumption) hk; clear oO oM oL)
            | (go_at_call 13; (with_reducible refine (HSD.out _ (by assumption) _ _ pO pM pL).mono ?_); rintro e wm ⟨rfl, hk⟩; have hc : Keep [] w6 wm := Keep.then (by assumption) hk; clear pO pM pL))
      all_goals
        have hcm : Keep [] w6 wm := by assumption
        have hdm := HD6.out.keep hcm
        have hbm := HB6.out.keep hcm (by simp)
        have hom := HOE.out.keep hcm (by simp)
        have hXe := hdm.m.e
        obtain ⟨q0, q1, q2, q3, q4⟩ := hbm.cells5
        have HE1 := hide (fun (i : Nat) (hi : i < m3) => rowS_of hom (j := i) (by have := HM3.out; omega))
        have HE2 := hide (fun (i : Nat) (hi : i < m3) => rowS_of hXe (j := i) (by have := HM3.out; omega))
        have hnext : playRel w n w2.heap.size (.int .i64 ((j : Int) + 1)) wm := ⟨j + 1, by simp, by have := HJ.out; omega, S4, x4, ⟨.slice B0 m0 l0, .slice B1 m1 l1, .slice B2 m2 l2, .slice B3 m3 l3⟩, hdm, HR4.out, by rw [HN4.out]; exact hbm⟩
        have HNX := hide hnext
        have hm3b : m3 < 1000 := by have := HM3.out; have := HR4.out.el; rw [← HR4.out.E] at this; omega
        clear hcm hdm hbm hom hXe hnext HOP HDN HNW HSO HSD HS HOE HD6 HB6
        go_wp2_with fail
        go_loopw [64, 7, 8] (fun k u1 u2 wr => ∃ i : Nat, k = .int .i64 i ∧ i ≤ m3 ∧ wr = wm) (fun k _ _ _ => m3 - (intOf k).toNat)
        case atStart => exact ⟨0, rfl, Nat.zero_le _, rfl⟩
        case round =>
          obtain ⟨i, rfl, hi, rfl⟩ := hrel
          by_cases hil : i < m3
          · obtain ⟨g1, rfl, r1⟩ := HE1.out i hil
            obtain ⟨g2, rfl, r2⟩ := HE2.out i hil
            have hi1 : (i : Int) < (m3 : Int) := by omega
            clear HE1 HE2 HNX
            go_wp2_with fail
            all_goals exact ⟨⟨i + 1, by simp, by omega, trivial⟩, by simp [intOf]; omega⟩
          · have hi1 : ¬ (i : Int) < (m3 : Int) := by omega
            have hi2 : decide (i < m3) = false := by simp; omega
            go_wp2_with fail
            exact ⟨HNX.out, by have := HJ.out; simp [intOf]; omega⟩
    · have hlast : (¬ (j : Int) < (len0 : Int) ∧ decide (j < len0) = false) ∨ ((j : Int) < (len0 : Int) ∧ decide (j < len0) = true ∧ ¬ (j : Int) < 60 ∧ decide (j < 60) = false) := by
        by_cases h : j < len0
        · exact Or.inr ⟨by omega, by simpa using h, by omega, by simp; omega⟩
        · exact Or.inl ⟨by omega, by simpa using h⟩
      obtain ⟨A0, n0, k0, A1, n1, k1, A2, n2, k2, A3, n3, k3, rfl⟩ := hd.m.form
      obtain ⟨nn, hnn⟩ : ∃ n, x.n = n := ⟨_, rfl⟩
      have HNN := hide hnn
      have HD := hide hd
      have HR := hide hrl
      have HB := hide hb
      have HJ := hide hj
      clear hlt hd hrl hb hnn hj
      rcases hlast with ⟨g1, g2⟩ | ⟨g1, g2, g3, g4⟩
      all_goals
        go_wp2_with fail
        refine (HD.out.call (fun bs hRn => rPing hRn _)).mono ?_
        rintro e w4 ⟨rfl, hd4, hb4⟩
        have HD4 := hide hd4
        have HB4 := hide (HB.out.of_block (hb4 _ (by simp)))
        clear hd4 hb4
        go_wp2_with fail
        refine (HD4.out.call (fun bs hRn => rBye hRn _)).mono ?_
        rintro e w6 ⟨rfl, hd6, hb6'⟩
        have hb6 := HB4.out.of_block (hb6' _ (by simp))
        have hj1 : j < 100 := by have := HJ.out; omega
        have HOP := hide (fun (w' : World) (hk : Keep [] w6 w') => (hd6.keep hk).open_ HR.out hj1)
        have HNW := hide (fun (w' : World) (hk : Keep [] w6 w') => HNN.out ▸ (hd6.keep hk).news_ HR.out)
        have HSO := hide (fun (w' : World) (hk : Keep [] w6 w') (v : Value) (l : List SX) (hv : Own kX ExT 0 w' v l) (hm : l.map toX = x.O) (hl : OkL l) => same_any (u := .slice A0 n0 k0) hv (hd6.keep hk).m.o hm hl)
        have HS := hide (fun (w' : World) (hk : Keep [] w6 w') => show w'.cell? ⟨w2.heap.size, 0, none⟩ = some (.slice A0 n0 k0) ∧ w'.cell? ⟨w2.heap.size, 3, none⟩ = some (.int .i64 nn) from ⟨(hb6.keep hk (by simp)).cell 0, by have := (hb6.keep hk (by simp)).cell 3; rw [← HNN.out]; exact this⟩)
        have hc0 : Keep [] w6 w6.drew := (Keep.refl _ _).drew
        have HBE := hide (fun (w' : World) (hk : Keep [] w6 w') => (hd6.keep hk).below)
        clear hd6 hb6 hb6' HD4 HB4 HD HB
        go_upto_region 20 with fail
        go_region_held3 (fun w' => w'.cell? ⟨w2.heap.size, 0, none⟩ = some (.slice A0 n0 k0) ∧ w'.cell? ⟨w2.heap.size, 3, none⟩ = some (.int .i64 nn))
          (with_reducible exact HS.out _ (by assumption))
          (first
            | (go_at_call 9; (with_reducible refine (HOP.out _ (by assumption)).mono ?_); rintro e wm ⟨⟨v9, l9⟩, rfl, oO, oM, oL, hk⟩; simp only at oO oM oL; have hc : Keep [] w6 wm := Keep.then (by assumption) hk)
            | (go_at_call 14; (with_reducible refine (HNW.out _ (by assumption)).mono ?_); rintro e wm ⟨rfl, hk⟩; have hc : Keep [] w6 wm := Keep.then (by assumption) hk)
            | (go_at_call 13; (with_reducible refine (HSO.out _ (by assumption) _ _ oO oM oL).mono ?_); rintro e wm ⟨rfl, hk⟩; have hc : Keep [] w6 wm := Keep.then (by assumption) hk; clear oO oM oL))
        all_goals
          go_wp2_with fail
          go_ret
          exact ⟨rfl, HBE.out _ (by assumption)⟩
end Go.Proofs.YtjhhnidfmoejdaaDoor
