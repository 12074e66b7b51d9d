import Derived.Test.YtjhhnidfmoejdaaDoorSrt3
import Derived.Test.YtjhhnidfmoejdaaDoorSrt4
import Derived.Test.YtjhhnidfmoejdaaDoorSrt5
import Derived.Test.YtjhhnidfmoejdaaDoorSrt6
import Derived.Test.YtjhhnidfmoejdaaDoorSrt7
import Derived.Test.YtjhhnidfmoejdaaDoorSrtS
import Derived.Deep.DeepCutAuto
import Derived.Deep.CutRange
namespace Go.Proofs.YtjhhnidfmoejdaaDoor
open Go.RowKit
set_option maxRecDepth 10000
set_option linter.unusedVariables false
set_option maxHeartbeats 4000000
def Out (d : Nat → Int) (A B a b : Nat) : Prop := ∀ p q, A ≤ p → p < q → q < B → (p < a ∨ b ≤ q) → d p ≤ d q
def Low (d : Nat → Int) (a b : Nat) : Prop := ∀ q, a ≤ q → q < b → ∀ p, p < a → d p < d q
theorem Out.low {d0 d : Nat → Int} {A B a b n : Nat} (h : Out d A B a b) (hS : SwR A B d0 d) (hL : Low d0 A B) (hI : ∀ i j, i < n → j < n → d0 i = d0 j → i = j) (hB : B ≤ n) (hb : b ≤ B) (hA : A ≤ a) : Low d a b := by
  intro q h1 h2 p h3
  by_cases hp : p < A
  · have h4 := hS.outside (k := p) (.inl hp)
    have h5 := hS.all (p := fun x => d0 p < x) (fun k g1 g2 => hL k g1 g2 p hp) q (by omega) (by omega)
    rw [h4]; exact h5
  · have h4 := h p q (by omega) (by omega) (by omega) (.inl h3)
    have h5 : d p ≠ d q := fun e => by have := hS.inj hB hI p q (by omega) (by omega) e; omega
    omega
theorem Out.sub {d0 d d' : Nat → Int} {A B a b x y : Nat} (h : Out d A B a b) (hS : SwR a b d d') (hA : A ≤ a) (hb : b ≤ B) : Out d' A B a b := by
  intro p q h1 h2 h3 h4
  by_cases hp : a ≤ p ∧ p < b
  · by_cases hq : q < b
    · omega
    · have e1 := hS.outside (k := q) (.inr (by omega))
      rw [e1]
      exact hS.all (p := fun z => z ≤ d q) (fun k g1 g2 => h k q (by omega) (by omega) h3 (.inr (by omega))) p hp.1 hp.2
  · have e1 := hS.outside (k := p) (by omega)
    rw [e1]
    by_cases hq : a ≤ q ∧ q < b
    · exact hS.all (p := fun z => d p ≤ z) (fun k g1 g2 => h p k h1 (by omega) (by omega) (by omega)) q hq.1 hq.2
    · have e2 := hS.outside (k := q) (by omega)
      rw [e2]; exact h p q h1 h2 h3 (by omega)
theorem Out.ris {d : Nat → Int} {A B a b : Nat} (h : Out d A B a b) (hr : Ris d a b) : Ris d A B := by
  intro p q h1 h2 h3
  by_cases e : p = q
  · rw [e]; exact Int.le_refl _
  · by_cases hc : p < a ∨ b ≤ q
    · exact h p q h1 (by omega) h3 hc
    · exact hr p q (by omega) h2 (by omega)
theorem Out.left {d d1 d2 : Nat → Int} {A B a b m : Nat} (h : Out d A B a b) (hP : Parted d d1 a b m) (hS : SwR a m d1 d2) (hr : Ris d2 a m) (hA : A ≤ a) (hb : b ≤ B) (ham : a ≤ m) (hmb : m < b) : Out d2 A B (m + 1) b := by
  have h1 := h.sub (d0 := d) (x := 0) (y := 0) (hP.1.trans (hS.mono (Nat.le_refl _) (by omega))) hA hb
  have em : d2 m = d1 m := hS.outside (.inr (Nat.le_refl _))
  have lo : ∀ k, a ≤ k → k < m → d2 k < d2 m := fun k g1 g2 => by rw [em]; exact hS.all (p := fun z => z < d1 m) (fun k g1 g2 => hP.2.1 k g1 g2) k g1 g2
  have hi : ∀ k, m < k → k < b → d2 m ≤ d2 k := fun k g1 g2 => by rw [em, hS.outside (k := k) (.inr (by omega))]; exact hP.2.2 k g1 g2
  intro p q g1 g2 g3 g4
  by_cases hc : p < a ∨ b ≤ q
  · exact h1 p q g1 g2 g3 hc
  · by_cases hq : q < m
    · exact hr p q (by omega) (by omega) hq
    · by_cases e : q = m
      · subst e; exact Int.le_of_lt (lo p (by omega) (by omega))
      · by_cases e2 : p < m
        · exact Int.le_trans (Int.le_of_lt (lo p (by omega) e2)) (hi q (by omega) (by omega))
        · have : p = m := by omega
          subst this; exact hi q (by omega) (by omega)
theorem Out.right {d d1 d2 : Nat → Int} {A B a b m : Nat} (h : Out d A B a b) (hP : Parted d d1 a b m) (hS : SwR (m + 1) b d1 d2) (hr : Ris d2 (m + 1) b) (hA : A ≤ a) (hb : b ≤ B) (ham : a ≤ m) (hmb : m < b) : Out d2 A B a m := by
  have h1 := h.sub (d0 := d) (x := 0) (y := 0) (hP.1.trans (hS.mono (by omega) (Nat.le_refl _))) hA hb
  have em : d2 m = d1 m := hS.outside (.inl (by omega))
  have lo : ∀ k, a ≤ k → k < m → d2 k < d2 m := fun k g1 g2 => by rw [em, hS.outside (k := k) (.inl (by omega))]; exact hP.2.1 k g1 g2
  have hi : ∀ k, m < k → k < b → d2 m ≤ d2 k := fun k g1 g2 => by rw [em]; exact hS.all (p := fun z => d1 m ≤ z) (fun k g1 g2 => hP.2.2 k (by omega) g2) k (by omega) g2
  intro p q g1 g2 g3 g4
  by_cases hc : p < a ∨ b ≤ q
  · exact h1 p q g1 g2 g3 hc
  · by_cases hp : m < p
    · exact hr p q (by omega) (by omega) (by omega)
    · by_cases e : p = m
      · subst e; exact hi q (by omega) (by omega)
      · by_cases e2 : m < q
        · exact Int.le_trans (Int.le_of_lt (lo p (by omega) (by omega))) (hi q (by omega) (by omega))
        · have : q = m := by omega
          subst this; exact Int.le_of_lt (lo p (by omega) (by omega))
theorem Parted.lowL {d d1 : Nat → Int} {a b m : Nat} (hP : Parted d d1 a b m) (hL : Low d a b) (ham : a ≤ m) (hmb : m < b) : Low d1 a m := by
  intro q h1 h2 p h3
  rw [hP.1.outside (k := p) (.inl h3)]
  exact hP.1.all (p := fun z => d p < z) (fun k g1 g2 => hL k g1 g2 p h3) q h1 (by omega)
theorem Parted.lowR {d d1 : Nat → Int} {a b m n : Nat} (hP : Parted d d1 a b m) (hL : Low d a b) (hI : ∀ i j, i < n → j < n → d i = d j → i = j) (hb : b ≤ n) (ham : a ≤ m) (hmb : m < b) : Low d1 (m + 1) b := by
  intro q h1 h2 p h3
  have hmq : d1 m < d1 q := by
    have g1 := hP.2.2 q (by omega) h2
    have g2 : d1 m ≠ d1 q := fun e => by have := hP.1.inj hb hI m q (by omega) (by omega) e; omega
    omega
  by_cases hp : p < a
  · rw [hP.1.outside (k := p) (.inl hp)]
    exact hP.1.all (p := fun z => d p < z) (fun k g1 g2 => hL k g1 g2 p hp) q (by omega) h2
  · by_cases e : p = m
    · rw [e]; exact hmq
    · have := hP.2.1 p (by omega) (by omega); omega
def PdqOk (N : Nat) : Prop := ∀ (blk n cap a b : Nat) (lim : Int) (d : Nat → Int) (rest : List Value) (w : World), b - a ≤ N → Arr w blk n d 22 rest → a ≤ b → b ≤ n → n < 1000000000 → 0 ≤ lim → lim < 1000000000 →
    (∀ i j, i < n → j < n → d i = d j → i = j) → Low d a b →
    Calls Tryd.prog 40 #[.slice (some ⟨blk, 0, none⟩) n cap, .int .i64 a, .int .i64 b, .int .i64 lim] w (Px fun (d' : Nat → Int) e w' => e = .returned (.tuple #[]) ∧ Arr w' blk n d' 22 rest ∧ SwR a b d d' ∧ Keep [blk] w w' ∧ Ris d' a b)
def CutA (w : World) (blk n : Nat) (d : Nat → Int) (rest : List Value) (a b : Nat) (s3 : Value) (wx : World) : Prop :=
  ∃ (l : Int) (d' : Nat → Int), s3 = .int .i64 l ∧ 0 ≤ l ∧ l < 1000000000 ∧ Arr wx blk n d' 22 rest ∧ SwR a b d d' ∧ Keep [blk] w wx
def CutB (w : World) (blk n : Nat) (d : Nat → Int) (rest : List Value) (a b : Nat) (s11 s12 : Value) (wx : World) : Prop :=
  ∃ (p : Nat) (h : Int) (d' : Nat → Int), s11 = .int .i64 p ∧ s12 = .int .i64 h ∧ a ≤ p ∧ p < b ∧ Arr wx blk n d' 22 rest ∧ SwR a b d d' ∧ Keep [blk] w wx
def CutC (w : World) (blk n : Nat) (d : Nat → Int) (rest : List Value) (a b : Nat) (wx : World) : Prop :=
  ∃ (d' : Nat → Int), Arr wx blk n d' 22 rest ∧ SwR a b d d' ∧ Keep [blk] w wx
def BoolAt (v : Value) : Prop := ∃ c : Bool, v = .bool c
def pdqRel (w : World) (blk n : Nat) (d : Nat → Int) (rest : List Value) (A B : Nat) (a b lim bal part : Value) (wr : World) : Prop :=
  ∃ (x y : Nat) (l : Int) (c1 c2 : Bool) (d' : Nat → Int), a = .int .i64 x ∧ b = .int .i64 y ∧ lim = .int .i64 l ∧ bal = .bool c1 ∧ part = .bool c2 ∧ A ≤ x ∧ x ≤ y ∧ y ≤ B ∧ 0 ≤ l ∧ l < 1000000000 ∧ Arr wr blk n d' 22 rest ∧ SwR A B d d' ∧ Keep [blk] w wr ∧ Out d' A B x y
theorem pdq_any (N : Nat) : PdqOk N := by
  induction N using Nat.strongRecOn with
  | _ N ih =>
  intro blk n cap A B lim d rest w hN hA hAB hBn hn hl0 hl1 hI hL
  have IH := hide ih
  have HI := hide hI
  have HL := hide hL
  clear ih hI hL
  go_enter Tryd.func40, Tryd.ntmps40
  go_wp2
  go_loopw [1, 2, 3, 8, 9] (fun a b lim bal part wr => pdqRel w blk n d rest A B a b lim bal part wr) (fun a b _ _ _ _ => (intOf b - intOf a).toNat)
  case atStart => exact ⟨A, B, lim, true, true, d, rfl, rfl, rfl, rfl, rfl, by omega, by omega, by omega, hl0, hl1, hA, .refl, Keep.refl _ _, fun p q h1 h2 h3 h4 => by omega⟩
  case round =>
    clear hA hl0 hl1
    obtain ⟨a, b, lim, c1, c2, d0, rfl, rfl, rfl, rfl, rfl, hAa, hab, hbB, hl0, hl1, hA0, hS0, hK0, hO0⟩ := hrel
    have HO := hide hO0
    have HS := hide hS0
    have HLo := hide (hO0.low hS0 HL.out HI.out hBn hbB hAa)
    clear hO0 hS0
    obtain ⟨l, rfl⟩ : ∃ l, b = a + l := ⟨b - a, by omega⟩
    have e1 : (((a + l : Nat) : Int) - (a : Int)) = (l : Int) := by omega
    obtain ⟨b, hbl⟩ : ∃ b, b = a + l := ⟨_, rfl⟩
    rw [← hbl] at e1 HO HLo ⊢
    have hb1 : b ≤ a + l := by omega
    have hb2 : a + l ≤ b := by omega
    clear hbl
    by_cases h12 : (l : Int) ≤ 12
    · have HH := hide (insertion_any blk n cap a b d0 rest wr hA0 (by omega) (by omega) hn)
      go_wp2_with fail
      refine HH.out.mono ?_
      rintro e w1 ⟨d', rfl, g1, g2, g3, g4⟩
      go_wp2
      refine bodyPost_ret (results_none rfl _ _ _) rfl ?_
      exact ⟨d', rfl, g1, HS.out.trans (g2.mono hAa (by omega)), hK0.then g3, (HO.out.sub (d0 := d) (x := 0) (y := 0) g2 hAa (by omega)).ris g4⟩
    · have hl12 : a + 12 < b := by omega
      by_cases hl00 : lim = 0
      · subst hl00
        have HH := hide (heap_any blk n cap a b d0 rest wr hA0 (by omega) (by omega) hn)
        go_wp2_with fail
        refine HH.out.mono ?_
        rintro e w1 ⟨d', rfl, g1, g2, g3, g4⟩
        go_wp2
        refine bodyPost_ret (results_none rfl _ _ _) rfl ?_
        exact ⟨d', rfl, g1, HS.out.trans (g2.mono hAa (by omega)), hK0.then g3, (HO.out.sub (d0 := d) (x := 0) (y := 0) g2 hAa (by omega)).ris g4⟩
      · have hlim : (lim == 0) = false := by simpa using hl00
        have hlim1 : 1 ≤ lim := by omega
        clear hl00
        go_upto_if 35 with fail
        go_cut [3] from 19 to 133 (fun s3 wx => CutA w blk n d0 rest a b s3 wx)
        case first =>
          cases c1
          · have HH := hide (break_any blk n cap a b d0 rest wr hA0 (by omega) (by omega) hn)
            go_wp2_with fail
            refine HH.out.mono ?_
            rintro e w1 ⟨d', rfl, g1, g2, g3⟩
            go_wp2_with fail
            go_meet
            exact ⟨lim - 1, d', rfl, by omega, by omega, g1, g2, hK0.then g3⟩
          · go_wp2_with fail
            go_meet
            exact ⟨lim, d0, rfl, by omega, by omega, hA0, .refl, hK0⟩
        case rest =>
          clear hlim hlim1 hl0 hl1 hA0 hK0
          obtain ⟨lim, d1, rfl, hl0, hl1, hA1, hS1, hK1⟩ := hcut
          have HS1 := hide hS1
          have HP := hide (pivot_any blk n cap a b d1 rest wc hA1 hl12 (by omega) hn)
          clear hS1
          go_upto_if 50 with (go_at_call 47; refine HP.out.mono ?_; rintro e w1 ⟨⟨pv, h⟩, rfl, hp1, hp2, hKp⟩)
          try simp only at hp1 hp2
          have hA2 := hA1.keep hKp (by simp)
          have hK2 := hK1.trans (S := [blk]) hKp (by simp) (by simp)
          clear hA1 hK1 hKp HP
          go_cut [11, 12] from 19 to 133 (fun s11 s12 wx => CutB w blk n d1 rest a b s11 s12 wx)
          case first =>
            by_cases hh : h = 2
            · subst hh
              have HH := hide (reverse_any blk n cap a b d1 rest w1 hA2 (by omega) (by omega) hn)
              go_wp2_with fail
              refine HH.out.mono ?_
              rintro e w2 ⟨d', rfl, g1, g2, g3⟩
              go_wp2_with fail
              go_meet
              exact ⟨b - 1 - (pv - a), 1, d', by congr 1; omega, rfl, by omega, by omega, g1, g2, hK2.then g3⟩
            · have hh' : (h == 2) = false := by simpa using hh
              clear hh
              go_wp2_with fail
              go_meet
              exact ⟨pv, h, d1, rfl, rfl, hp1, hp2, hA2, .refl, hK2⟩
          case rest =>
            clear hp1 hp2 hA2 hK2
            obtain ⟨pv, h, d2, rfl, rfl, hp1, hp2, hA2, hS2, hK2⟩ := hcut
            have HS2 := hide hS2
            clear hS2
            have HO2 := hide (HO.out.sub (d0 := d) (x := 0) (y := 0) (HS1.out.trans HS2.out) hAa (by omega))
            have hS02 := HS.out.trans ((HS1.out.trans HS2.out).mono hAa (by omega))
            have HS02 := hide hS02
            have HLo2 := hide (HO2.out.low hS02 HL.out HI.out hBn (by omega) hAa)
            clear hS02 HS HS1 HS2 HO HLo
            go_upto_region 15 with fail
            go_cut [68] from 19 to 133 (fun s wx => BoolAt s ∧ wx = wc)
            case first =>
              cases c1
              · go_wp2_with fail
                all_goals
                  go_meet
                  exact ⟨⟨_, rfl⟩, rfl⟩
              · cases c2
                · go_wp2_with fail
                  all_goals
                    go_meet
                    exact ⟨⟨_, rfl⟩, rfl⟩
                · go_wp2_with fail
                  all_goals
                    go_meet
                    exact ⟨⟨_, rfl⟩, rfl⟩
            case rest =>
              obtain ⟨⟨g, rfl⟩, hwc⟩ := hcut
              subst hwc
              go_upto_if 68 with fail
              go_cut [] from 19 to 133 (fun wx => CutC w blk n d2 rest a b wx)
              case first =>
                cases g
                · go_wp2_with fail
                  go_meet
                  exact ⟨d2, hA2, .refl, hK2⟩
                · have HH := hide (partial_any blk n cap a b d2 rest wc hA2 (by omega) (by omega) hn HLo2.out)
                  go_wp2_with fail
                  refine HH.out.mono ?_
                  rintro e w2 ⟨⟨r, d'⟩, rfl, g1, g2, g3, g4⟩
                  have G4 := hide g4
                  clear g4
                  cases r
                  · go_wp2_with fail
                    go_meet
                    exact ⟨d', g1, g2, hK2.then g3⟩
                  · go_wp2_with fail
                    refine bodyPost_ret (results_none rfl _ _ _) rfl ?_
                    exact ⟨d', rfl, g1, HS02.out.trans (g2.mono hAa (by omega)), hK2.then g3, (HO2.out.sub (d0 := d) (x := 0) (y := 0) g2 hAa (by omega)).ris (G4.out (by trivial))⟩
              case rest =>
                clear hA2 hK2
                obtain ⟨d3, hA3, hS3, hK3⟩ := hcut
                have HS3 := hide hS3
                have HS03 := hide (HS02.out.trans (hS3.mono hAa (by omega)))
                have HO3 := hide (HO2.out.sub (d0 := d) (x := 0) (y := 0) hS3 hAa (by omega))
                have HLo3 := hide (HO3.out.low HS03.out HL.out HI.out hBn (by omega) hAa)
                have HI3 := hide (HS03.out.inj hBn HI.out)
                clear hS3 HS02 HO2 HLo2 HS3
                have hpn : pv < n := by omega
                have hpn' : (pv : Int) < n := by omega
                have hpa : 0 ≤ (a : Int) - 1 ∨ a = 0 := by omega
                go_upto_region 17 with fail
                go_cut [87] from 19 to 133 (fun s wx => s = .bool false ∧ DrawnP wc wx)
                case first =>
                  have cp := hA3.cell hpn
                  by_cases ha0 : 0 < a
                  · obtain ⟨q, hq⟩ : ∃ q, a = q + 1 := ⟨a - 1, by omega⟩
                    subst hq
                    have eq : ((q + 1 : Nat) : Int) = (q : Int) + 1 := by omega
                    have cq := hA3.cell (show q < n by omega)
                    have bq : (q : Int) < n := by omega
                    have HD := hide (show decide (d3 q < d3 pv) = true from decide_eq_true (HLo3.out pv hp1 hp2 q (by omega)))
                    clear hpa e1
                    rw [eq]
                    clear eq
                    go_quiet ((go_at_call 50; exact Calls.quiet_of_same (less_q _ _ _ _ HD.out)))
                    go_wp2_with fail
                    go_meet
                    exact ⟨rfl, ⟨_, rfl⟩⟩
                  · have hdec : decide (0 < (a : Int)) = false := decide_eq_false (by omega)
                    go_quiet (fail)
                    go_wp2_with fail
                    go_meet
                    exact ⟨rfl, ⟨_, rfl⟩⟩
                case rest =>
                  obtain ⟨rfl, hd⟩ := hcut
                  have hA4 : Arr wc blk n d3 22 rest := by obtain ⟨m, rfl⟩ := hd; exact hA3.drewN m
                  have hK4 : Keep [blk] w wc := by obtain ⟨m, rfl⟩ := hd; exact hK3.drewN m
                  clear hd hA3 hK3
                  have HH := hide (partition_any blk n cap a b pv d3 rest wc hA4 (by omega) (by omega) hp1 hp2 hn)
                  go_wp2_with fail
                  refine HH.out.mono ?_
                  rintro e w5 ⟨⟨m, d5, c⟩, rfl, hA5, hK5, hm1, hm2, hP⟩
                  simp only at hA5 hm1 hm2 hP
                  have HP := hide hP
                  have hK05 := hK4.then hK5
                  have hm3 : (m : Int) < b := by omega
                  have hm4 : (a : Int) ≤ m := by omega
                  clear hP hA4 hK4 HH hK5
                  have HI5 := hide (HP.out.1.inj (show b ≤ n by omega) HI3.out)
                  by_cases hlr : (m : Int) - a < b - m
                  · have HR := hide (IH.out (m - a) (by omega) blk n cap a m lim d5 rest w5 (Nat.le_refl _) hA5 hm1 (by omega) hn hl0 hl1 HI5.out (HP.out.lowL HLo3.out hm1 hm2))
                    go_wp2_with fail
                    refine HR.out.mono ?_
                    rintro e w6 ⟨d6, rfl, hA6, hS6, hK6, hR6⟩
                    have HS6 := hide hS6
                    have HR6 := hide hR6
                    clear hS6 hR6
                    go_wp2_with fail
                    exact ⟨⟨m + 1, b, lim, _, _, d6, rfl, rfl, rfl, rfl, rfl, by omega, by omega, by omega, hl0, hl1, hA6, HS03.out.trans ((HP.out.1.trans (HS6.out.mono (Nat.le_refl _) (by omega))).mono hAa (by omega)), hK05.then hK6, HO3.out.left HP.out HS6.out HR6.out hAa (by omega) hm1 hm2⟩, by simp [intOf] <;> omega⟩
                  · have HR0 := IH.out (b - (m + 1)) (by omega) blk n cap (m + 1) b lim d5 rest w5 (Nat.le_refl _) hA5 (by omega) (by omega) hn hl0 hl1 HI5.out (HP.out.lowR HLo3.out HI3.out (by omega) hm1 hm2)
                    rw [show ((m + 1 : Nat) : Int) = (m : Int) + 1 by omega] at HR0
                    have HR := hide HR0
                    clear HR0
                    go_wp2_with fail
                    refine HR.out.mono ?_
                    rintro e w6 ⟨d6, rfl, hA6, hS6, hK6, hR6⟩
                    have HS6 := hide hS6
                    have HR6 := hide hR6
                    clear hS6 hR6
                    go_wp2_with fail
                    exact ⟨⟨a, m, lim, _, _, d6, rfl, rfl, rfl, rfl, rfl, by omega, by omega, by omega, hl0, hl1, hA6, HS03.out.trans ((HP.out.1.trans (HS6.out.mono (by omega) (Nat.le_refl _))).mono hAa (by omega)), hK05.then hK6, HO3.out.right HP.out HS6.out HR6.out hAa (by omega) hm1 hm2⟩, by simp [intOf] <;> omega⟩
theorem sorts_any (n : Nat) (hn : n < 1000000000) : Sorts n := fun blk cap d rest w hA hI => by
  have hH := hide (fun lim (h0 : 0 ≤ lim) (h1 : lim < 1000000000) => pdq_any n blk n cap 0 n lim d rest w (by omega) hA (Nat.zero_le _) (Nat.le_refl _) hn h0 h1 hI (fun q _ _ p hp => absurd hp (Nat.not_lt_zero p)))
  have hw : IntKind.wrap .u64 (n : Int) = (n : Int) := IntWalk.u64_in _ (by omega)
  have hb := Lib.bitLen_le n 62 (by omega) (by omega)
  go_enter Tryd.func32, Tryd.ntmps32
  go_wp2_with fail
  refine (bits_Len _ _ (by omega) (by omega)).mono ?_
  rintro e w1 ⟨rfl, rfl⟩
  go_wp2_with fail
  refine (hH.out _ (by omega) (by omega)).mono ?_
  rintro e w1 ⟨d', rfl, h1, h2, h3, h4⟩
  go_wp2
  go_end0
  exact ⟨d', rfl, h1, h2, h3, h4⟩
end Go.Proofs.YtjhhnidfmoejdaaDoor
