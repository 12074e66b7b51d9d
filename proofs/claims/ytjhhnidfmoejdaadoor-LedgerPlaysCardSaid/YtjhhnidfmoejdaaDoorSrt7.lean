import Derived.Test.YtjhhnidfmoejdaaDoorSrt2
import Derived.Deep.DeepCutAuto
import Derived.Deep.CutRange
namespace Go.Proofs.YtjhhnidfmoejdaaDoor
open Go.RowKit
set_option maxRecDepth 10000
set_option linter.unusedVariables false
set_option maxHeartbeats 4000000
def DrawnP (w w' : World) : Prop := ∃ m, w' = w.drewN m
theorem Ris.far {d d' : Nat → Int} {a k : Nat} (h : Ris d a k) (he : ∀ p, p < k → d' p = d p) : Ris d' a k := fun i j h1 h2 h3 => by
  rw [he i (by omega), he j (by omega)]; exact h i j h1 h2 h3
def parRel (w : World) (blk n : Nat) (d : Nat → Int) (rest : List Value) (a b : Nat) (i j : Value) (wr : World) : Prop :=
  ∃ (k m : Nat) (d' : Nat → Int), i = .int .i64 k ∧ j = .int .i64 m ∧ a + 1 ≤ k ∧ k ≤ b ∧ m ≤ 5 ∧ Arr wr blk n d' 22 rest ∧ SwR a b d d' ∧ Keep [blk] w wr ∧ Ris d' a k
def scnRel (w : World) (blk n : Nat) (d : Nat → Int) (rest : List Value) (a b : Nat) (k0 : Nat) (i : Value) (wr : World) : Prop :=
  ∃ (k : Nat) (d' : Nat → Int), i = .int .i64 k ∧ k0 ≤ k ∧ k ≤ b ∧ Arr wr blk n d' 22 rest ∧ SwR a b d d' ∧ Keep [blk] w wr ∧ Ris d' a k
def lftRel (w : World) (blk n : Nat) (d : Nat → Int) (rest : List Value) (a b k : Nat) (j : Value) (wr : World) : Prop :=
  ∃ (q : Nat) (d' : Nat → Int), j = .int .i64 q ∧ a ≤ q ∧ q ≤ k - 1 ∧ Arr wr blk n d' 22 rest ∧ SwR a b d d' ∧ Keep [blk] w wr ∧ InsAt d' a (k - 1) q
def rgtRel (w : World) (blk n : Nat) (d : Nat → Int) (rest : List Value) (a b k : Nat) (j : Value) (wr : World) : Prop :=
  ∃ (q : Nat) (d' : Nat → Int), j = .int .i64 q ∧ k + 1 ≤ q ∧ q ≤ b ∧ Arr wr blk n d' 22 rest ∧ SwR a b d d' ∧ Keep [blk] w wr ∧ Ris d' a k
theorem partial_any (blk n cap a b : Nat) (d : Nat → Int) (rest : List Value) (w : World) (hA : Arr w blk n d 22 rest) (hab : a + 1 < b) (hb : b ≤ n) (hn : n < 1000000000) (hlow : ∀ q, a ≤ q → q < b → ∀ p, p < a → d p < d q) :
    Calls Tryd.prog 49 #[.slice (some ⟨blk, 0, none⟩) n cap, .int .i64 a, .int .i64 b] w (Px fun (x : Bool × (Nat → Int)) e w' => e = .returned (.bool x.1) ∧ Arr w' blk n x.2 22 rest ∧ SwR a b d x.2 ∧ Keep [blk] w w' ∧ (x.1 = true → Ris x.2 a b)) := by
  have HLOW := hide hlow
  clear hlow
  go_enter Tryd.func49, Tryd.ntmps49
  go_wp2
  go_loopw [7, 8] (fun i j wr => parRel w blk n d rest a b i j wr) (fun _ j _ => (5 - intOf j).toNat)
  case atStart => exact ⟨a + 1, 0, d, rfl, rfl, by omega, by omega, by omega, hA, .refl, Keep.refl _ _, Ris.one _ _⟩
  case round =>
    clear hA
    obtain ⟨k0, m5, d0, rfl, rfl, hk0, hk0b, hm5, hA0, hS0, hK0, hR0⟩ := hrel
    have HR0 := hide hR0
    clear hR0
    obtain ⟨wo, rfl⟩ : ∃ wo : World, wo = wr := ⟨_, rfl⟩
    by_cases hm : m5 < 5
    · have hmd : decide ((m5 : Int) < 5) = true := decide_eq_true (by omega)
      go_wp2_with fail
      go_loopw [7] (fun i wr => scnRel w blk n d rest a b k0 i wr) (fun i _ => (b - intOf i).toNat)
      case atStart => exact ⟨k0, d0, rfl, Nat.le_refl _, hk0b, hA0, hS0, hK0, HR0.out⟩
      case round =>
        clear hA0 hS0 hK0 HR0
        obtain ⟨k, d1, rfl, hkk, hkb, hA1, hS1, hK1, hR1⟩ := hrel
        have HR1 := hide hR1
        obtain ⟨k', rfl⟩ : ∃ k', k = k' + 1 := ⟨k - 1, by omega⟩
        have ek : ((k' + 1 : Nat) : Int) = (k' : Int) + 1 := by omega
        rw [ek]
        clear ek
        obtain ⟨c, hc⟩ : ∃ c : Bool, c = decide (k' + 1 < b ∧ ¬ d1 (k' + 1) < d1 k') := ⟨_, rfl⟩
        have HC := hide hc
        clear hR1 hc
        go_upto_region 5 with fail
        go_cut [32] from 17 to 34 (fun s wx => s = .bool c ∧ DrawnP wr wx)
        case first =>
          have b0 : (k' : Int) < n := by omega
          have c0 := hA1.cell (show k' < n by omega)
          by_cases h1 : k' + 1 < b
          · have h1' : (k' : Int) + 1 < (b : Int) := by omega
            have c1 := hA1.cell (show k' + 1 < n by omega)
            have b1 : (k' : Int) + 1 < n := by omega
            by_cases h2 : d1 (k' + 1) < d1 k'
            · obtain rfl : c = false := by rw [HC.out]; simp [h2]
              have HD := hide (show decide (d1 (k' + 1) < d1 k') = true from decide_eq_true h2)
              clear h2
              go_quiet ((go_at_call 50; exact Calls.quiet_of_same (less_q _ _ _ _ HD.out)))
              go_wp2_with fail
              go_meet
              exact ⟨rfl, ⟨_, rfl⟩⟩
            · obtain rfl : c = true := by rw [HC.out]; simp [h1, h2]
              have HD := hide (show decide (d1 (k' + 1) < d1 k') = false from decide_eq_false h2)
              clear h2
              go_quiet ((go_at_call 50; exact Calls.quiet_of_same (less_q _ _ _ _ HD.out)))
              go_wp2_with fail
              go_meet
              exact ⟨rfl, ⟨_, rfl⟩⟩
          · obtain rfl : c = false := by rw [HC.out]; simp [h1]
            have hdec : decide ((k' : Int) + 1 < (b : Int)) = false := decide_eq_false (by omega)
            go_quiet (fail)
            go_wp2_with fail
            go_meet
            exact ⟨rfl, ⟨_, rfl⟩⟩
        case rest =>
          obtain ⟨rfl, hd⟩ := hcut
          have hA2 : Arr wc blk n d1 22 rest := by obtain ⟨m, rfl⟩ := hd; exact hA1.drewN m
          have hK2 : Keep [blk] w wc := by obtain ⟨m, rfl⟩ := hd; exact hK1.drewN m
          clear hd hA1 hK1
          cases c
          · by_cases hkb2 : k' + 1 = b
            · have hkb' : ((k' : Int) + 1 == (b : Int)) = true := by rw [beq_iff_eq]; omega
              have hR2 := hide (show Ris d1 a b by rw [← hkb2]; exact HR1.out)
              clear HC
              go_wp2_with fail
              go_ret
              exact ⟨(true, d1), rfl, hA2, hS1, hK2, fun _ => hR2.out⟩
            · have hkb' : ((k' : Int) + 1 == (b : Int)) = false := by rw [beq_eq_false_iff_ne]; omega
              have hlt := hide (show d1 (k' + 1) < d1 k' by
                have := HC.out; simp at this; exact this (by omega))
              clear HC
              by_cases h50 : (b : Int) - (a : Int) < 50
              · go_wp2_with fail
                go_ret
                exact ⟨(false, d1), rfl, hA2, hS1, hK2, fun h => by cases h⟩
              · have c1 := hA2.cell (show k' + 1 < n by omega)
                have c0 := hA2.cell (show k' < n by omega)
                have f1 := hA2.frozen (show k' + 1 < n by omega)
                have f0 := hA2.frozen (show k' < n by omega)
                have b1 : (k' : Int) + 1 < n := by omega
                have b0 : (k' : Int) < n := by omega
                go_wp2_with fail
                go_region
                have hA5 := hA2.drew.swap (i := k' + 1) (j := k') (by omega) (by omega)
                have hS5 := SwR.step d1 (k' + 1) k' hS1 (by omega) (by omega) (by omega) (by omega)
                have hK5 := ((hK2.drew).setCell (p := ⟨blk, k' + 1, none⟩) (by simp) (.int .u32 (d1 k'))).setCell (p := ⟨blk, k', none⟩) (by simp) (.int .u32 (d1 (k' + 1)))
                obtain ⟨k, hk⟩ : ∃ k, k = k' + 1 := ⟨_, rfl⟩
                have HI5 := hide (show InsAt (swp d1 (k' + 1) k') a (k - 1) (k - 1) by
                  rw [hk]
                  refine InsAt.start (fun i j h1 h2 h3 => ?_)
                  have h3' : j < k' := by omega
                  have e : ∀ p, p < k' → swp d1 (k' + 1) k' p = d1 p := fun p hp => by unfold swp; rw [if_neg (by omega), if_neg (by omega)]
                  rw [e i (by omega), e j h3']; exact HR1.out i j h1 h2 (by omega))
                clear HR1 hlt c1 c0 f1 f0 hA2 hK2 hkb'
                have HKK := hide hk
                have hkA : k ≤ k' + 1 := by omega
                have hkB : k' + 1 ≤ k := by omega
                have eki : (k' : Int) + 1 = (k : Int) := by omega
                rw [eki]
                clear hk eki
                by_cases hl2 : 2 ≤ k - a
                · have hl2' : 2 ≤ (k : Int) - (a : Int) := by omega
                  have hk2 : 0 ≤ (k : Int) - 1 := by omega
                  go_wp2_with fail
                  go_loopw [9] (fun j wr => lftRel w blk n d rest a b k j wr) (fun j _ => (intOf j).toNat)
                  case atStart => exact ⟨k - 1, _, by congr 1; omega, by omega, by omega, hA5, hS5, hK5, HI5.out⟩
                  case round =>
                    clear hA5 hS5 hK5 HI5
                    obtain ⟨j, d6, rfl, hj1, hj2, hA6, hS6, hK6, hI6⟩ := hrel
                    have HI6 := hide hI6
                    clear hI6
                    by_cases hj0 : 1 ≤ j
                    · obtain ⟨q, rfl⟩ : ∃ q, j = q + 1 := ⟨j - 1, by omega⟩
                      have c1 := hA6.cell (show q + 1 < n by omega)
                      have c0 := hA6.cell (show q < n by omega)
                      have b1 : (q : Int) + 1 < n := by omega
                      have b0 : (q : Int) < n := by omega
                      by_cases hl : d6 (q + 1) < d6 q
                      · have hqa : a ≤ q := by
                          refine Nat.le_of_not_lt fun hh => ?_
                          have e : q + 1 = a := by omega
                          have h1 := hS6.outside (k := q) (.inl hh)
                          have h2 := hS6.all (p := fun x => d q < x) (fun x g1 g2 => HLOW.out x g1 g2 q hh) (q + 1) (by omega) (by omega)
                          try simp only at h2
                          omega
                        have HD := hide (show decide (d6 (q + 1) < d6 q) = true from decide_eq_true hl)
                        have HL := hide hl
                        clear hl
                        have f1 := hA6.frozen (show q + 1 < n by omega)
                        have f0 := hA6.frozen (show q < n by omega)
                        go_wp2
                        go_quiet ((go_at_call 50; exact Calls.quiet_of_same (less_q _ _ _ _ HD.out)))
                        go_wp2
                        go_region
                        go_wp2
                        exact ⟨⟨q, swp d6 (q + 1) q, by first | rfl | (congr 1; omega), by omega, by omega, (hA6.drewN _).drew.swap (by omega) (by omega), .step d6 (q + 1) q hS6 (by omega) (by omega) (by omega) (by omega), (((hK6.drewN _).drew.setCell (by simp) _).setCell (by simp) _), HI6.out.step (by omega) (by omega) HL.out⟩, by simp [intOf] <;> omega⟩
                      · have HD := hide (show decide (d6 (q + 1) < d6 q) = false from decide_eq_false hl)
                        have HL := hide (show d6 q ≤ d6 (q + 1) by omega)
                        clear hl
                        go_wp2
                        go_quiet ((go_at_call 50; exact Calls.quiet_of_same (less_q _ _ _ _ HD.out)))
                        have hAq := hA6.drewN nq
                        have hSq := hS6
                        have hKq := hK6.drewN nq
                        have HRq := hide (show Ris d6 a k from by
                          have := HI6.out.done (by omega) (by by_cases e : q + 1 = a; · exact .inl e
                                                              · exact .inr ⟨by omega, HL.out⟩) (by omega)
                          rwa [show k - 1 + 1 = k by omega] at this)
                        clear hA6 hS6 hK6 HI6 c1 c0
                        by_cases hr2 : 2 ≤ b - k
                        · have hr2' : 2 ≤ (b : Int) - (k : Int) := by omega
                          go_wp2_with fail
                          go_loopw [10] (fun j wr => rgtRel w blk n d rest a b k j wr) (fun j _ => (b - intOf j).toNat)
                          case atStart => exact ⟨k + 1, _, rfl, by omega, by omega, hAq, hSq, hKq, HRq.out⟩
                          case round =>
                            clear hAq hSq hKq HRq
                            obtain ⟨j, dz, rfl, hj1, hj2, hAz, hSz, hKz, hRz⟩ := hrel
                            have HRz := hide hRz
                            clear hRz
                            by_cases hjb : j < b
                            · obtain ⟨q, rfl⟩ : ∃ q, j = q + 1 := ⟨j - 1, by omega⟩
                              have c1 := hAz.cell (show q + 1 < n by omega)
                              have c0 := hAz.cell (show q < n by omega)
                              have b1 : (q : Int) + 1 < n := by omega
                              have b0 : (q : Int) < n := by omega
                              by_cases hl : dz (q + 1) < dz q
                              · have HD := hide (show decide (dz (q + 1) < dz q) = true from decide_eq_true hl)
                                clear hl
                                have f1 := hAz.frozen (show q + 1 < n by omega)
                                have f0 := hAz.frozen (show q < n by omega)
                                go_wp2
                                go_quiet ((go_at_call 50; exact Calls.quiet_of_same (less_q _ _ _ _ HD.out)))
                                go_wp2
                                go_region
                                go_wp2
                                refine ⟨⟨q + 1 + 1, swp dz (q + 1) q, rfl, by omega, by omega, (hAz.drewN _).drew.swap (by omega) (by omega), .step dz (q + 1) q hSz (by omega) (by omega) (by omega) (by omega), (((hKz.drewN _).drew.setCell (by simp) _).setCell (by simp) _), ?_⟩, by simp [intOf] <;> omega⟩
                                exact HRz.out.far (fun p hp => by unfold swp; rw [if_neg (by omega), if_neg (by omega)])
                              · have HD := hide (show decide (dz (q + 1) < dz q) = false from decide_eq_false hl)
                                clear hl
                                go_wp2
                                go_quiet ((go_at_call 50; exact Calls.quiet_of_same (less_q _ _ _ _ HD.out)))
                                replace hKz := hKz.drewN nq
                                replace hAz := hAz.drewN nq
                                go_wp2_with fail
                                exact ⟨⟨k, m5 + 1, _, rfl, by first | rfl | (congr 1; omega), by omega, by omega, by omega, hAz, hSz, hKz, HRz.out⟩, by simp [intOf] <;> omega⟩
                            · have hjb' : ¬ (j : Int) < (b : Int) := by omega
                              go_wp2_with fail
                              exact ⟨⟨k, m5 + 1, _, rfl, by first | rfl | (congr 1; omega), by omega, by omega, by omega, hAz, hSz, hKz, HRz.out⟩, by simp [intOf] <;> omega⟩
                        · have hr2' : ¬ 2 ≤ (b : Int) - (k : Int) := by omega
                          have hAz := hAq
                          have hSz := hSq
                          have hKz := hKq
                          have HRz := HRq
                          go_wp2_with fail
                          exact ⟨⟨k, m5 + 1, _, rfl, by first | rfl | (congr 1; omega), by omega, by omega, by omega, hAz, hSz, hKz, HRz.out⟩, by simp [intOf] <;> omega⟩
                    · have hj0' : ¬ (1 : Int) ≤ (j : Int) := by omega
                      have hAq := hA6
                      have hSq := hS6
                      have hKq := hK6
                      have HRq := hide (show Ris d6 a k from by
                        have := HI6.out.done (by omega) (.inl (by omega)) (by omega)
                        rwa [show k - 1 + 1 = k by omega] at this)
                      clear hA6 hS6 hK6 HI6
                      by_cases hr2 : 2 ≤ b - k
                      · have hr2' : 2 ≤ (b : Int) - (k : Int) := by omega
                        go_wp2_with fail
                        go_loopw [10] (fun j wr => rgtRel w blk n d rest a b k j wr) (fun j _ => (b - intOf j).toNat)
                        case atStart => exact ⟨k + 1, _, rfl, by omega, by omega, hAq, hSq, hKq, HRq.out⟩
                        case round =>
                          clear hAq hSq hKq HRq
                          obtain ⟨j, dz, rfl, hj1, hj2, hAz, hSz, hKz, hRz⟩ := hrel
                          have HRz := hide hRz
                          clear hRz
                          by_cases hjb : j < b
                          · obtain ⟨q, rfl⟩ : ∃ q, j = q + 1 := ⟨j - 1, by omega⟩
                            have c1 := hAz.cell (show q + 1 < n by omega)
                            have c0 := hAz.cell (show q < n by omega)
                            have b1 : (q : Int) + 1 < n := by omega
                            have b0 : (q : Int) < n := by omega
                            by_cases hl : dz (q + 1) < dz q
                            · have HD := hide (show decide (dz (q + 1) < dz q) = true from decide_eq_true hl)
                              clear hl
                              have f1 := hAz.frozen (show q + 1 < n by omega)
                              have f0 := hAz.frozen (show q < n by omega)
                              go_wp2
                              go_quiet ((go_at_call 50; exact Calls.quiet_of_same (less_q _ _ _ _ HD.out)))
                              go_wp2
                              go_region
                              go_wp2
                              refine ⟨⟨q + 1 + 1, swp dz (q + 1) q, rfl, by omega, by omega, (hAz.drewN _).drew.swap (by omega) (by omega), .step dz (q + 1) q hSz (by omega) (by omega) (by omega) (by omega), (((hKz.drewN _).drew.setCell (by simp) _).setCell (by simp) _), ?_⟩, by simp [intOf] <;> omega⟩
                              exact HRz.out.far (fun p hp => by unfold swp; rw [if_neg (by omega), if_neg (by omega)])
                            · have HD := hide (show decide (dz (q + 1) < dz q) = false from decide_eq_false hl)
                              clear hl
                              go_wp2
                              go_quiet ((go_at_call 50; exact Calls.quiet_of_same (less_q _ _ _ _ HD.out)))
                              replace hKz := hKz.drewN nq
                              replace hAz := hAz.drewN nq
                              go_wp2_with fail
                              exact ⟨⟨k, m5 + 1, _, rfl, by first | rfl | (congr 1; omega), by omega, by omega, by omega, hAz, hSz, hKz, HRz.out⟩, by simp [intOf] <;> omega⟩
                          · have hjb' : ¬ (j : Int) < (b : Int) := by omega
                            go_wp2_with fail
                            exact ⟨⟨k, m5 + 1, _, rfl, by first | rfl | (congr 1; omega), by omega, by omega, by omega, hAz, hSz, hKz, HRz.out⟩, by simp [intOf] <;> omega⟩
                      · have hr2' : ¬ 2 ≤ (b : Int) - (k : Int) := by omega
                        have hAz := hAq
                        have hSz := hSq
                        have hKz := hKq
                        have HRz := HRq
                        go_wp2_with fail
                        exact ⟨⟨k, m5 + 1, _, rfl, by first | rfl | (congr 1; omega), by omega, by omega, by omega, hAz, hSz, hKz, HRz.out⟩, by simp [intOf] <;> omega⟩
                · have hl2' : ¬ 2 ≤ (k : Int) - (a : Int) := by omega
                  have hAq := hA5
                  have hSq := hS5
                  have hKq := hK5
                  have HRq := hide (show Ris (swp d1 (k' + 1) k') a k from by
                    have e : k = a + 1 := by omega
                    rw [e]; exact Ris.one _ _)
                  clear hA5 hS5 hK5 HI5
                  by_cases hr2 : 2 ≤ b - k
                  · have hr2' : 2 ≤ (b : Int) - (k : Int) := by omega
                    go_wp2_with fail
                    go_loopw [10] (fun j wr => rgtRel w blk n d rest a b k j wr) (fun j _ => (b - intOf j).toNat)
                    case atStart => exact ⟨k + 1, _, rfl, by omega, by omega, hAq, hSq, hKq, HRq.out⟩
                    case round =>
                      clear hAq hSq hKq HRq
                      obtain ⟨j, dz, rfl, hj1, hj2, hAz, hSz, hKz, hRz⟩ := hrel
                      have HRz := hide hRz
                      clear hRz
                      by_cases hjb : j < b
                      · obtain ⟨q, rfl⟩ : ∃ q, j = q + 1 := ⟨j - 1, by omega⟩
                        have c1 := hAz.cell (show q + 1 < n by omega)
                        have c0 := hAz.cell (show q < n by omega)
                        have b1 : (q : Int) + 1 < n := by omega
                        have b0 : (q : Int) < n := by omega
                        by_cases hl : dz (q + 1) < dz q
                        · have HD := hide (show decide (dz (q + 1) < dz q) = true from decide_eq_true hl)
                          clear hl
                          have f1 := hAz.frozen (show q + 1 < n by omega)
                          have f0 := hAz.frozen (show q < n by omega)
                          go_wp2
                          go_quiet ((go_at_call 50; exact Calls.quiet_of_same (less_q _ _ _ _ HD.out)))
                          go_wp2
                          go_region
                          go_wp2
                          refine ⟨⟨q + 1 + 1, swp dz (q + 1) q, rfl, by omega, by omega, (hAz.drewN _).drew.swap (by omega) (by omega), .step dz (q + 1) q hSz (by omega) (by omega) (by omega) (by omega), (((hKz.drewN _).drew.setCell (by simp) _).setCell (by simp) _), ?_⟩, by simp [intOf] <;> omega⟩
                          exact HRz.out.far (fun p hp => by unfold swp; rw [if_neg (by omega), if_neg (by omega)])
                        · have HD := hide (show decide (dz (q + 1) < dz q) = false from decide_eq_false hl)
                          clear hl
                          go_wp2
                          go_quiet ((go_at_call 50; exact Calls.quiet_of_same (less_q _ _ _ _ HD.out)))
                          replace hKz := hKz.drewN nq
                          replace hAz := hAz.drewN nq
                          go_wp2_with fail
                          exact ⟨⟨k, m5 + 1, _, rfl, by first | rfl | (congr 1; omega), by omega, by omega, by omega, hAz, hSz, hKz, HRz.out⟩, by simp [intOf] <;> omega⟩
                      · have hjb' : ¬ (j : Int) < (b : Int) := by omega
                        go_wp2_with fail
                        exact ⟨⟨k, m5 + 1, _, rfl, by first | rfl | (congr 1; omega), by omega, by omega, by omega, hAz, hSz, hKz, HRz.out⟩, by simp [intOf] <;> omega⟩
                  · have hr2' : ¬ 2 ≤ (b : Int) - (k : Int) := by omega
                    have hAz := hAq
                    have hSz := hSq
                    have hKz := hKq
                    have HRz := HRq
                    go_wp2_with fail
                    exact ⟨⟨k, m5 + 1, _, rfl, by first | rfl | (congr 1; omega), by omega, by omega, by omega, hAz, hSz, hKz, HRz.out⟩, by simp [intOf] <;> omega⟩
          · have hU := hide (show k' + 1 < b ∧ ¬ d1 (k' + 1) < d1 k' by have := HC.out; simp at this; exact ⟨this.1, by omega⟩)
            clear HC
            have h1 := hU.out.1
            go_wp2_with fail
            refine ⟨⟨k' + 1 + 1, d1, rfl, by omega, by omega, hA2, hS1, hK2, ?_⟩, by simp [intOf] <;> omega⟩
            intro i j g1 g2 g3
            by_cases e : j = k' + 1
            · by_cases e' : i = j
              · rw [e']; exact Int.le_refl _
              · rw [e]
                have h3 := HR1.out i k' g1 (by omega) (by omega)
                have := hU.out.2
                omega
            · exact HR1.out i j g1 g2 (by omega)
    · go_wp2_with fail
      go_ret
      exact ⟨(false, d0), rfl, hA0, hS0, hK0, fun h => by cases h⟩
end Go.Proofs.YtjhhnidfmoejdaaDoor
