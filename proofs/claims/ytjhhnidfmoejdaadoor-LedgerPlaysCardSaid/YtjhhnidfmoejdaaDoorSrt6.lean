import Derived.Test.YtjhhnidfmoejdaaDoorSrt2
import Derived.Deep.DeepCutAuto
import Derived.Deep.CutRange
namespace Go.Proofs.YtjhhnidfmoejdaaDoor
open Go.RowKit
set_option maxRecDepth 10000
set_option linter.unusedVariables false
set_option maxHeartbeats 2000000
structure Part (d0 d : Nat → Int) (a b i j : Nat) (v : Int) : Prop where
  sw : SwR a b d0 d
  at_ : d a = v
  lo : ∀ k, a < k → k < i → d k < v
  hi : ∀ k, j < k → k < b → v ≤ d k
theorem Part.up {d0 d : Nat → Int} {a b i j : Nat} {v : Int} (h : Part d0 d a b i j v) (hl : d i < v) : Part d0 d a b (i + 1) j v :=
  ⟨h.sw, h.at_, fun k h1 h2 => by by_cases e : k = i; · rw [e]; exact hl
                                  · exact h.lo k h1 (by omega), h.hi⟩
theorem Part.down {d0 d : Nat → Int} {a b i j : Nat} {v : Int} (h : Part d0 d a b i (j + 1) v) (hl : v ≤ d (j + 1)) : Part d0 d a b i j v :=
  ⟨h.sw, h.at_, h.lo, fun k h1 h2 => by by_cases e : k = j + 1; · rw [e]; exact hl
                                        · exact h.hi k (by omega) h2⟩
theorem Part.swap {d0 d : Nat → Int} {a b i j : Nat} {v : Int} (h : Part d0 d a b i (j + 1) v) (hai : a < i) (hij : i < j + 1) (hjb : j + 1 < b) (h1 : v ≤ d i) (h2 : d (j + 1) < v) : Part d0 (swp d i (j + 1)) a b (i + 1) j v := by
  refine ⟨.step d i (j + 1) h.sw (by omega) (by omega) (by omega) (by omega), ?_, fun k g1 g2 => ?_, fun k g1 g2 => ?_⟩
  · unfold swp; rw [if_neg (by omega), if_neg (by omega)]; exact h.at_
  · unfold swp
    by_cases e : k = i
    · rw [if_pos e]; exact h2
    · rw [if_neg e, if_neg (by omega)]; exact h.lo k g1 (by omega)
  · unfold swp
    by_cases e : k = j + 1
    · rw [if_neg (by omega), if_pos e]; exact h1
    · rw [if_neg (by omega), if_neg e]; exact h.hi k (by omega) g2
def Parted (d0 d : Nat → Int) (a b m : Nat) : Prop := SwR a b d0 d ∧ (∀ k, a ≤ k → k < m → d k < d m) ∧ (∀ k, m < k → k < b → d m ≤ d k)
theorem Part.done {d0 d : Nat → Int} {a b i j : Nat} {v : Int} (h : Part d0 d a b i j v) (hij : j < i) (haj : a ≤ j) (hjb : j < b) : Parted d0 (swp d j a) a b j := by
  have e0 : swp d j a j = v := by unfold swp; rw [if_pos rfl]; exact h.at_
  refine ⟨.step d j a h.sw (by omega) (by omega) (by omega) (by omega), fun k h1 h2 => ?_, fun k h1 h2 => ?_⟩
  · rw [e0]
    unfold swp
    rw [if_neg (by omega)]
    by_cases e : k = a
    · rw [if_pos e]; exact h.lo j (by omega) hij
    · rw [if_neg e]; exact h.lo k (by omega) (by omega)
  · rw [e0]
    unfold swp
    rw [if_neg (by omega), if_neg (by omega)]
    exact h.hi k h1 h2
def Drawn (w w' : World) : Prop := ∃ m, w' = w.drewN m
def upRel (w : World) (blk n : Nat) (d : Nat → Int) (rest : List Value) (a b l : Nat) (v : Int) (k0 : Nat) (i : Value) (wr : World) : Prop :=
  ∃ (k : Nat) (d' : Nat → Int), i = .int .i64 k ∧ k0 ≤ k ∧ k ≤ l + 1 ∧ Arr wr blk n d' 22 rest ∧ Keep [blk] w wr ∧ Part d d' a b k l v
def dnRel (w : World) (blk n : Nat) (d : Nat → Int) (rest : List Value) (a b k : Nat) (v : Int) (l0 : Nat) (j : Value) (wr : World) : Prop :=
  ∃ (l : Nat) (d' : Nat → Int), j = .int .i64 l ∧ l ≤ l0 ∧ a ≤ l ∧ k ≤ l + 1 ∧ Arr wr blk n d' 22 rest ∧ Keep [blk] w wr ∧ Part d d' a b k l v ∧ (k ≤ l → v ≤ d' k)
def midRel (w : World) (blk n : Nat) (d : Nat → Int) (rest : List Value) (a b : Nat) (v : Int) (i j : Value) (wr : World) : Prop :=
  ∃ (k l : Nat) (d' : Nat → Int), i = .int .i64 k ∧ j = .int .i64 l ∧ a + 1 ≤ k ∧ k ≤ l + 1 ∧ l < b ∧ Arr wr blk n d' 22 rest ∧ Keep [blk] w wr ∧ Part d d' a b k l v
abbrev d_ (l : Nat) (d : Nat → Int) (a : Nat) : Nat → Int := swp d l a
theorem partition_any (blk n cap a b pv : Nat) (d : Nat → Int) (rest : List Value) (w : World) (hA : Arr w blk n d 22 rest) (hab : a + 1 < b) (hb : b ≤ n) (hap : a ≤ pv) (hpb : pv < b) (hn : n < 1000000000) :
    Calls Tryd.prog 52 #[.slice (some ⟨blk, 0, none⟩) n cap, .int .i64 a, .int .i64 b, .int .i64 pv] w (Px fun (x : Nat × (Nat → Int) × Bool) e w' => e = .returned (.tuple #[.int .i64 x.1, .bool x.2.2]) ∧ Arr w' blk n x.2.1 22 rest ∧ Keep [blk] w w' ∧ a ≤ x.1 ∧ x.1 < b ∧ Parted d x.2.1 a b x.1) := by
  obtain ⟨l, rfl⟩ : ∃ l, b = l + 1 := ⟨b - 1, by omega⟩
  have e1 : (((l + 1 : Nat) : Int) - 1) = (l : Int) := by omega
  obtain ⟨B, hB⟩ : ∃ B : Int, ((l + 1 : Nat) : Int) = B := ⟨_, rfl⟩
  rw [hB] at e1 ⊢
  have HB := hide hB
  have bB : B < 1000000001 := by omega
  have bB0 : 0 ≤ B := by omega
  clear hB
  obtain ⟨b, hbl⟩ : ∃ b, b = l + 1 := ⟨_, rfl⟩
  rw [← hbl]
  have hbn : b ≤ n := by omega
  have hlb : l < b := by omega
  have hpb' : pv < b := by omega
  have ca := hA.cell (show a < n by omega)
  have ba : (a : Int) < n := by omega
  have cp := hA.cell (show pv < n by omega)
  have bp : (pv : Int) < n := by omega
  have fa := hA.frozen (show a < n by omega)
  have fp := hA.frozen (show pv < n by omega)
  obtain ⟨vv, hv⟩ := cell?_setCell_some (w := w) (p := ⟨blk, a, none⟩) (x := .int .u32 (d pv)) (q := ⟨blk, pv, none⟩) (v := .int .u32 (d pv)) (by go_simp)
  obtain ⟨k0, hk0'⟩ : ∃ k0, k0 = a + 1 := ⟨_, rfl⟩
  obtain ⟨v, hvv⟩ : ∃ v, v = d pv := ⟨_, rfl⟩
  obtain ⟨d0, hd0⟩ : ∃ d0, d0 = swp d a pv := ⟨_, rfl⟩
  have HP0 := hide (show Part d d0 a b k0 l v from ⟨by rw [hd0]; exact .one d (by omega) (by omega) (by omega) (by omega), by rw [hd0, hvv]; unfold swp; rw [if_pos rfl], fun k h1 h2 => by omega, fun k h1 h2 => by omega⟩)
  have HD0 := hide hd0
  have hk0 : k0 ≤ l + 1 := by omega
  have hak : a + 1 ≤ k0 := by omega
  have HK0 := hide hk0'
  clear hvv hd0 hk0' hbl
  go_enter Tryd.func52, Tryd.ntmps52
  go_wp2
  go_region
  have hA0' := hA.drew.swap (i := a) (j := pv) (by omega) (by omega)
  have hK0 := (((Keep.refl [blk] w).drew).setCell (p := ⟨blk, a, none⟩) (by simp) (.int .u32 (d pv))).setCell (p := ⟨blk, pv, none⟩) (by simp) (.int .u32 (d a))
  rw [← HD0.out] at hA0'
  have hA0 := hA0'
  clear hv ca cp fa fp hA0' hA
  go_wp2
  clear e1
  go_loopw [10] (fun i wr => upRel w blk n d rest a b l v k0 i wr) (fun i _ => (l + 1 - intOf i).toNat)
  case atStart => exact ⟨k0, d0, by rw [HK0.out]; rfl, Nat.le_refl _, hk0, hA0, hK0, HP0.out⟩
  case round =>
    obtain ⟨k, d1, rfl, hkk, hkl, hA1, hK1, hP1⟩ := hrel
    have HP1 := hide hP1
    obtain ⟨c, hc⟩ : ∃ c : Bool, c = decide (k ≤ l ∧ d1 k < d1 a) := ⟨_, rfl⟩
    have HC := hide hc
    clear hP1 hc
    go_upto_region 3 with fail
    go_cut [43] from 30 to 45 (fun s wx => s = .bool c ∧ Drawn wr wx)
    case first =>
      have ca := hA1.cell (show a < n by omega)
      have ba : (a : Int) < n := by omega
      by_cases h1 : k ≤ l
      · have ck := hA1.cell (show k < n by omega)
        have bk : (k : Int) < n := by omega
        by_cases h2 : d1 k < d1 a
        · obtain rfl : c = true := by rw [HC.out]; simp [h1, h2]
          have HD := hide (show decide (d1 k < d1 a) = true from decide_eq_true h2)
          clear h2
          go_quiet ((go_at_call 50; exact Calls.quiet_of_same (less_q _ _ _ _ HD.out)))
          go_wp2_with fail
          go_meet
          exact ⟨rfl, ⟨_, rfl⟩⟩
        · obtain rfl : c = false := by rw [HC.out]; simp [h2]
          have HD := hide (show decide (d1 k < d1 a) = false from decide_eq_false h2)
          clear h2
          go_quiet ((go_at_call 50; exact Calls.quiet_of_same (less_q _ _ _ _ HD.out)))
          go_wp2_with fail
          go_meet
          exact ⟨rfl, ⟨_, rfl⟩⟩
      · obtain rfl : c = false := by rw [HC.out]; simp [h1]
        have hdec : decide ((k : Int) ≤ (l : Int)) = false := decide_eq_false (by omega)
        go_quiet (fail)
        go_wp2_with fail
        go_meet
        exact ⟨rfl, ⟨_, rfl⟩⟩
    case rest =>
      obtain ⟨rfl, hd⟩ := hcut
      have hA2 : Arr wc blk n d1 22 rest := by obtain ⟨m, rfl⟩ := hd; exact hA1.drewN m
      have hK2 : Keep [blk] w wc := by obtain ⟨m, rfl⟩ := hd; exact hK1.drewN m
      clear hd hA1 hK1
      cases c
      · have hU := hide (show k ≤ l → v ≤ d1 k from fun h => by
          have := HC.out; simp [h] at this; have e := HP1.out.at_; omega)
        clear HC
        go_wp2_with fail
        go_loopw [11] (fun j wr => dnRel w blk n d rest a b k v l j wr) (fun j _ => (intOf j).toNat)
        case atStart => exact ⟨l, d1, rfl, Nat.le_refl _, by omega, by omega, hA2, hK2, HP1.out, hU.out⟩
        case round =>
          obtain ⟨l1, d2, rfl, hll, hal, hkl1, hA3, hK3, hP2, hU2⟩ := hrel
          have HP2 := hide hP2
          have HU2 := hide hU2
          obtain ⟨c, hc⟩ : ∃ c : Bool, c = decide (k ≤ l1 ∧ ¬ d2 l1 < d2 a) := ⟨_, rfl⟩
          have HC := hide hc
          clear hP2 hc hU2 hU
          go_upto_region 5 with fail
          go_cut [60] from 46 to 62 (fun s wx => s = .bool c ∧ Drawn wr wx)
          case first =>
            have ca := hA3.cell (show a < n by omega)
            have ba : (a : Int) < n := by omega
            by_cases h1 : k ≤ l1
            · have ck := hA3.cell (show l1 < n by omega)
              have bk : (l1 : Int) < n := by omega
              by_cases h2 : d2 l1 < d2 a
              · obtain rfl : c = false := by rw [HC.out]; simp [h2]
                have HD := hide (show decide (d2 l1 < d2 a) = true from decide_eq_true h2)
                clear h2
                go_quiet ((go_at_call 50; exact Calls.quiet_of_same (less_q _ _ _ _ HD.out)))
                go_wp2_with fail
                go_meet
                exact ⟨rfl, ⟨_, rfl⟩⟩
              · obtain rfl : c = true := by rw [HC.out]; simp [h1, h2]
                have HD := hide (show decide (d2 l1 < d2 a) = false from decide_eq_false h2)
                clear h2
                go_quiet ((go_at_call 50; exact Calls.quiet_of_same (less_q _ _ _ _ HD.out)))
                go_wp2_with fail
                go_meet
                exact ⟨rfl, ⟨_, rfl⟩⟩
            · obtain rfl : c = false := by rw [HC.out]; simp [h1]
              have hdec : decide ((k : Int) ≤ (l1 : Int)) = false := decide_eq_false (by omega)
              go_quiet (fail)
              go_wp2_with fail
              go_meet
              exact ⟨rfl, ⟨_, rfl⟩⟩
          case rest =>
            obtain ⟨rfl, hd⟩ := hcut
            have hA4 : Arr wc blk n d2 22 rest := by obtain ⟨m, rfl⟩ := hd; exact hA3.drewN m
            have hK4 : Keep [blk] w wc := by obtain ⟨m, rfl⟩ := hd; exact hK3.drewN m
            clear hd hA3 hK3 hA2 hK2
            cases c
            · have hV := hide (show k ≤ l1 → d2 l1 < v from fun h => by
                have := HC.out; simp [h] at this; have e := HP2.out.at_; omega)
              clear HC
              by_cases hgt0 : l1 < k
              · have hgt : (l1 : Int) < (k : Int) := by omega
                have ca := hA4.cell (show a < n by omega)
                have ba : (a : Int) < n := by omega
                have cl := hA4.cell (show l1 < n by omega)
                have bl : (l1 : Int) < n := by omega
                have fa := hA4.frozen (show a < n by omega)
                have fl := hA4.frozen (show l1 < n by omega)
                obtain ⟨vv, hv⟩ := cell?_setCell_some (w := wc) (p := ⟨blk, l1, none⟩) (x := .int .u32 (d2 a)) (q := ⟨blk, a, none⟩) (v := .int .u32 (d2 a)) (by go_simp)
                go_wp2_with fail
                go_region
                go_wp2_with fail
                go_ret2
                exact ⟨(l1, d_ l1 d2 a, true), rfl, (hA4.drew.swap (i := l1) (j := a) (by omega) (by omega)), ((hK4.drew.setCell (by simp) _).setCell (by simp) _), by omega, by omega, HP2.out.done (by omega) (by omega) (by omega)⟩
              · have hle : ¬ (l1 : Int) < (k : Int) := by omega
                have hkl2 : k ≤ l1 := by omega
                have hne : k ≠ l1 := fun e => by have h1 := HU2.out hkl2; have h2 := hV.out hkl2; subst e; omega
                obtain ⟨m, rfl⟩ : ∃ m, l1 = m + 1 := ⟨l1 - 1, by omega⟩
                have e1 : (((m + 1 : Nat) : Int) - 1) = (m : Int) := by omega
                have ck := hA4.cell (show k < n by omega)
                have bk : (k : Int) < n := by omega
                have cl := hA4.cell (show m + 1 < n by omega)
                have bl : (m : Int) + 1 < n := by omega
                have yl : 0 ≤ (m : Int) + 1 := by omega
                have zl : ((m : Int) + 1).toNat = m + 1 := by omega
                have xl : IntKind.i64.wrap ((m : Int) + 1) = (m : Int) + 1 := IntWalk.i64_in _ (by omega)
                have fk := hA4.frozen (show k < n by omega)
                have fl := hA4.frozen (show m + 1 < n by omega)
                obtain ⟨vv, hv⟩ := cell?_setCell_some (w := wc) (p := ⟨blk, k, none⟩) (x := .int .u32 (d2 (m + 1))) (q := ⟨blk, m + 1, none⟩) (v := .int .u32 (d2 (m + 1))) (by go_simp)
                have HS := hide (HP2.out.swap (by omega) (by omega) (by omega) (HU2.out hkl2) (hV.out hkl2))
                go_wp2_with fail
                go_region
                have hA5 := hA4.drew.swap (i := k) (j := m + 1) (by omega) (by omega)
                have hK5 := (hK4.drew.setCell (p := ⟨blk, k, none⟩) (by simp) (.int .u32 (d2 (m + 1)))).setCell (p := ⟨blk, m + 1, none⟩) (by simp) (.int .u32 (d2 k))
                clear hv ck cl fk fl hle
                go_wp2_with fail
                go_loopw [10, 11] (fun i j wr => midRel w blk n d rest a b v i j wr) (fun i j _ => (intOf j - intOf i + 1).toNat)
                case atStart => exact ⟨k + 1, m, _, rfl, by first | rfl | (rw [e1]) | (congr 1; omega), by omega, by omega, by omega, hA5, hK5, HS.out⟩
                case round =>
                  clear hA5 hK5 HS HP1 HP2 HU2 hV hA4 hK4 e1 hne hkl2 bk bl hkl hkk hkl1 hal
                  obtain ⟨k0, l, d0, rfl, rfl, hak, hk0, hlb, hA0, hK0, hP0⟩ := hrel
                  have HP0 := hide hP0
                  clear hP0
                  obtain ⟨wo, rfl⟩ : ∃ wo : World, wo = wr := ⟨_, rfl⟩
                  go_wp2_with fail
                  go_loopw [10] (fun i wr => upRel w blk n d rest a b l v k0 i wr) (fun i _ => (l + 1 - intOf i).toNat)
                  case atStart => exact ⟨k0, d0, rfl, Nat.le_refl _, hk0, hA0, hK0, HP0.out⟩
                  case round =>
                    obtain ⟨k, d1, rfl, hkk, hkl, hA1, hK1, hP1⟩ := hrel
                    have HP1 := hide hP1
                    obtain ⟨c, hc⟩ : ∃ c : Bool, c = decide (k ≤ l ∧ d1 k < d1 a) := ⟨_, rfl⟩
                    have HC := hide hc
                    clear hP1 hc
                    go_upto_region 13 with fail
                    go_cut [112] from 99 to 114 (fun s wx => s = .bool c ∧ Drawn wr wx)
                    case first =>
                      have ca := hA1.cell (show a < n by omega)
                      have ba : (a : Int) < n := by omega
                      by_cases h1 : k ≤ l
                      · have ck := hA1.cell (show k < n by omega)
                        have bk : (k : Int) < n := by omega
                        by_cases h2 : d1 k < d1 a
                        · obtain rfl : c = true := by rw [HC.out]; simp [h1, h2]
                          have HD := hide (show decide (d1 k < d1 a) = true from decide_eq_true h2)
                          clear h2
                          go_quiet ((go_at_call 50; exact Calls.quiet_of_same (less_q _ _ _ _ HD.out)))
                          go_wp2_with fail
                          go_meet
                          exact ⟨rfl, ⟨_, rfl⟩⟩
                        · obtain rfl : c = false := by rw [HC.out]; simp [h2]
                          have HD := hide (show decide (d1 k < d1 a) = false from decide_eq_false h2)
                          clear h2
                          go_quiet ((go_at_call 50; exact Calls.quiet_of_same (less_q _ _ _ _ HD.out)))
                          go_wp2_with fail
                          go_meet
                          exact ⟨rfl, ⟨_, rfl⟩⟩
                      · obtain rfl : c = false := by rw [HC.out]; simp [h1]
                        have hdec : decide ((k : Int) ≤ (l : Int)) = false := decide_eq_false (by omega)
                        go_quiet (fail)
                        go_wp2_with fail
                        go_meet
                        exact ⟨rfl, ⟨_, rfl⟩⟩
                    case rest =>
                      obtain ⟨rfl, hd⟩ := hcut
                      have hA2 : Arr wc blk n d1 22 rest := by obtain ⟨m, rfl⟩ := hd; exact hA1.drewN m
                      have hK2 : Keep [blk] w wc := by obtain ⟨m, rfl⟩ := hd; exact hK1.drewN m
                      clear hd hA1 hK1
                      cases c
                      · have hU := hide (show k ≤ l → v ≤ d1 k from fun h => by
                          have := HC.out; simp [h] at this; have e := HP1.out.at_; omega)
                        clear HC
                        go_wp2_with fail
                        go_loopw [11] (fun j wr => dnRel w blk n d rest a b k v l j wr) (fun j _ => (intOf j).toNat)
                        case atStart => exact ⟨l, d1, rfl, Nat.le_refl _, by omega, by omega, hA2, hK2, HP1.out, hU.out⟩
                        case round =>
                          obtain ⟨l1, d2, rfl, hll, hal, hkl1, hA3, hK3, hP2, hU2⟩ := hrel
                          have HP2 := hide hP2
                          have HU2 := hide hU2
                          obtain ⟨c, hc⟩ : ∃ c : Bool, c = decide (k ≤ l1 ∧ ¬ d2 l1 < d2 a) := ⟨_, rfl⟩
                          have HC := hide hc
                          clear hP2 hc hU2 hU
                          go_upto_region 15 with fail
                          go_cut [129] from 115 to 131 (fun s wx => s = .bool c ∧ Drawn wr wx)
                          case first =>
                            have ca := hA3.cell (show a < n by omega)
                            have ba : (a : Int) < n := by omega
                            by_cases h1 : k ≤ l1
                            · have ck := hA3.cell (show l1 < n by omega)
                              have bk : (l1 : Int) < n := by omega
                              by_cases h2 : d2 l1 < d2 a
                              · obtain rfl : c = false := by rw [HC.out]; simp [h2]
                                have HD := hide (show decide (d2 l1 < d2 a) = true from decide_eq_true h2)
                                clear h2
                                go_quiet ((go_at_call 50; exact Calls.quiet_of_same (less_q _ _ _ _ HD.out)))
                                go_wp2_with fail
                                go_meet
                                exact ⟨rfl, ⟨_, rfl⟩⟩
                              · obtain rfl : c = true := by rw [HC.out]; simp [h1, h2]
                                have HD := hide (show decide (d2 l1 < d2 a) = false from decide_eq_false h2)
                                clear h2
                                go_quiet ((go_at_call 50; exact Calls.quiet_of_same (less_q _ _ _ _ HD.out)))
                                go_wp2_with fail
                                go_meet
                                exact ⟨rfl, ⟨_, rfl⟩⟩
                            · obtain rfl : c = false := by rw [HC.out]; simp [h1]
                              have hdec : decide ((k : Int) ≤ (l1 : Int)) = false := decide_eq_false (by omega)
                              go_quiet (fail)
                              go_wp2_with fail
                              go_meet
                              exact ⟨rfl, ⟨_, rfl⟩⟩
                          case rest =>
                            obtain ⟨rfl, hd⟩ := hcut
                            have hA4 : Arr wc blk n d2 22 rest := by obtain ⟨m, rfl⟩ := hd; exact hA3.drewN m
                            have hK4 : Keep [blk] w wc := by obtain ⟨m, rfl⟩ := hd; exact hK3.drewN m
                            clear hd hA3 hK3 hA2 hK2
                            cases c
                            · have hV := hide (show k ≤ l1 → d2 l1 < v from fun h => by
                                have := HC.out; simp [h] at this; have e := HP2.out.at_; omega)
                              clear HC
                              by_cases hgt0 : l1 < k
                              · have hgt : (l1 : Int) < (k : Int) := by omega
                                have ca := hA4.cell (show a < n by omega)
                                have ba : (a : Int) < n := by omega
                                have cl := hA4.cell (show l1 < n by omega)
                                have bl : (l1 : Int) < n := by omega
                                have fa := hA4.frozen (show a < n by omega)
                                have fl := hA4.frozen (show l1 < n by omega)
                                obtain ⟨vv, hv⟩ := cell?_setCell_some (w := wc) (p := ⟨blk, l1, none⟩) (x := .int .u32 (d2 a)) (q := ⟨blk, a, none⟩) (v := .int .u32 (d2 a)) (by go_simp)
                                go_wp2_with fail
                                go_region
                                go_wp2_with fail
                                go_ret2
                                exact ⟨(l1, d_ l1 d2 a, false), rfl, (hA4.drew.swap (i := l1) (j := a) (by omega) (by omega)), ((hK4.drew.setCell (by simp) _).setCell (by simp) _), by omega, by omega, HP2.out.done (by omega) (by omega) (by omega)⟩
                              · have hle : ¬ (l1 : Int) < (k : Int) := by omega
                                have hkl2 : k ≤ l1 := by omega
                                have hne : k ≠ l1 := fun e => by have h1 := HU2.out hkl2; have h2 := hV.out hkl2; subst e; omega
                                obtain ⟨m, rfl⟩ : ∃ m, l1 = m + 1 := ⟨l1 - 1, by omega⟩
                                have e1 : (((m + 1 : Nat) : Int) - 1) = (m : Int) := by omega
                                have ck := hA4.cell (show k < n by omega)
                                have bk : (k : Int) < n := by omega
                                have cl := hA4.cell (show m + 1 < n by omega)
                                have bl : (m : Int) + 1 < n := by omega
                                have yl : 0 ≤ (m : Int) + 1 := by omega
                                have zl : ((m : Int) + 1).toNat = m + 1 := by omega
                                have xl : IntKind.i64.wrap ((m : Int) + 1) = (m : Int) + 1 := IntWalk.i64_in _ (by omega)
                                have fk := hA4.frozen (show k < n by omega)
                                have fl := hA4.frozen (show m + 1 < n by omega)
                                obtain ⟨vv, hv⟩ := cell?_setCell_some (w := wc) (p := ⟨blk, k, none⟩) (x := .int .u32 (d2 (m + 1))) (q := ⟨blk, m + 1, none⟩) (v := .int .u32 (d2 (m + 1))) (by go_simp)
                                have HS := hide (HP2.out.swap (by omega) (by omega) (by omega) (HU2.out hkl2) (hV.out hkl2))
                                go_wp2_with fail
                                go_region
                                have hA5 := hA4.drew.swap (i := k) (j := m + 1) (by omega) (by omega)
                                have hK5 := (hK4.drew.setCell (p := ⟨blk, k, none⟩) (by simp) (.int .u32 (d2 (m + 1)))).setCell (p := ⟨blk, m + 1, none⟩) (by simp) (.int .u32 (d2 k))
                                clear hv ck cl fk fl hle
                                go_wp2_with fail
                                exact ⟨⟨k + 1, m, _, rfl, by first | rfl | (rw [e1]) | (congr 1; omega), by omega, by omega, by omega, hA5, hK5, HS.out⟩, by simp [intOf] <;> omega⟩
                            · have hV := hide (show k ≤ l1 ∧ v ≤ d2 l1 by have := HC.out; simp at this; have e := HP2.out.at_; omega)
                              clear HC
                              have h1 := hV.out.1
                              obtain ⟨m, rfl⟩ : ∃ m, l1 = m + 1 := ⟨l1 - 1, by omega⟩
                              have e1 : (((m + 1 : Nat) : Int) - 1) = (m : Int) := by omega
                              go_wp2_with fail
                              exact ⟨⟨m, d2, by first | rfl | (rw [e1]) | (congr 1; omega), by omega, by omega, by omega, hA4, hK4, HP2.out.down hV.out.2, fun h => HU2.out (by omega)⟩, by simp [intOf] <;> omega⟩
                      · have hU := hide (show k ≤ l ∧ d1 k < v by have := HC.out; simp at this; have e := HP1.out.at_; omega)
                        clear HC
                        go_wp2_with fail
                        have h1 := hU.out.1
                        exact ⟨⟨k + 1, d1, rfl, by omega, by omega, hA2, hK2, HP1.out.up hU.out.2⟩, by simp [intOf] <;> omega⟩
            · have hV := hide (show k ≤ l1 ∧ v ≤ d2 l1 by have := HC.out; simp at this; have e := HP2.out.at_; omega)
              clear HC
              have h1 := hV.out.1
              obtain ⟨m, rfl⟩ : ∃ m, l1 = m + 1 := ⟨l1 - 1, by omega⟩
              have e1 : (((m + 1 : Nat) : Int) - 1) = (m : Int) := by omega
              go_wp2_with fail
              exact ⟨⟨m, d2, by first | rfl | (rw [e1]) | (congr 1; omega), by omega, by omega, by omega, hA4, hK4, HP2.out.down hV.out.2, fun h => HU2.out (by omega)⟩, by simp [intOf] <;> omega⟩
      · have hU := hide (show k ≤ l ∧ d1 k < v by have := HC.out; simp at this; have e := HP1.out.at_; omega)
        clear HC
        go_wp2_with fail
        have h1 := hU.out.1
        exact ⟨⟨k + 1, d1, rfl, by omega, by omega, hA2, hK2, HP1.out.up hU.out.2⟩, by simp [intOf] <;> omega⟩
end Go.Proofs.YtjhhnidfmoejdaaDoor
