import Derived.Test.YtegnmdnflmlioaaPWillPlaysx0
namespace Go.Proofs.Ytegnmdnflmlioaa.PWillPlays
open Go.RowKit Go.Proofs.YtegnmdnflmlioaaW.PrintWords Go.Proofs.YtegnmdnflmlioaaW.PrintLast Go.Proofs.YtegnmdnflmlioaaW.PrintMore
attribute [local go_sem] max2_int min2_int max_two min_two max_three min_three max_four min_four
set_option linter.unusedVariables false
set_option linter.unusedSimpArgs false
mutual
def switchboardref22_first.l0 : Nat → List (S87) → Int → Int → List (S87) → Int → Int → Option (Int)
  | 0, _, _, _, _, _, _ => none
  | k + 1, x0, x1, x5, x8, x9, x10 => if x10 < x9 then (if 0 ≤ x10 then (if x10 < (x8.length : Int) then (if ((rd_T87 x8 x10).f3) < 0 then (switchboardref22_first.j1 k x0 x1 x5 x10 x8 x9 x10 true ((rd_T87 x8 x10).f0) ((rd_T87 x8 x10).f1.f0) ((rd_T87 x8 x10).f1.f1) ((rd_T87 x8 x10).f1.f2) ((rd_T87 x8 x10).f1.f3) ((rd_T87 x8 x10).f1.f4) ((rd_T87 x8 x10).f1.f5) ((rd_T87 x8 x10).f1.f6) ((rd_T87 x8 x10).f2) ((rd_T87 x8 x10).f3)) else (switchboardref22_first.j1 k x0 x1 x5 x10 x8 x9 x10 (decide (((rd_T87 x8 x10).f3) > x1)) ((rd_T87 x8 x10).f0) ((rd_T87 x8 x10).f1.f0) ((rd_T87 x8 x10).f1.f1) ((rd_T87 x8 x10).f1.f2) ((rd_T87 x8 x10).f1.f3) ((rd_T87 x8 x10).f1.f4) ((rd_T87 x8 x10).f1.f5) ((rd_T87 x8 x10).f1.f6) ((rd_T87 x8 x10).f2) ((rd_T87 x8 x10).f3))) else (none)) else (none)) else (some x5)
def switchboardref22_first.j1 : Nat → List (S87) → Int → Int → Int → List (S87) → Int → Int → Bool → ByteArray → ByteArray → Int → Int → Bool → List (S100) → ByteArray → ByteArray → Int → Int → Option (Int)
  | 0, _, _, _, _, _, _, _, _, _, _, _, _, _, _, _, _, _, _ => none
  | k + 1, x0, x1, x5, x6, x8, x9, x10, x23, x323000, x323001, x323002, x323003, x323004, x323005, x323006, x323007, x323008, x323009 => if x23 = true then (switchboardref22_first.l0 k x0 x1 x5 x8 x9 (wrap64 (x10 + 1))) else (if x5 < 0 then (switchboardref22_first.l0 k x0 x1 x6 x8 x9 (wrap64 (x10 + 1))) else (if 0 ≤ x5 then (if x5 < (x0.length : Int) then (if x323009 < ((rd_T87 x0 x5).f3) then (switchboardref22_first.l0 k x0 x1 x6 x8 x9 (wrap64 (x10 + 1))) else (if x323009 = ((rd_T87 x0 x5).f3) then (if (Op.bytesLess x323000.toList (((rd_T87 x0 x5).f0).toList)) = true then (switchboardref22_first.l0 k x0 x1 x6 x8 x9 (wrap64 (x10 + 1))) else (switchboardref22_first.l0 k x0 x1 x5 x8 x9 (wrap64 (x10 + 1)))) else (switchboardref22_first.l0 k x0 x1 x5 x8 x9 (wrap64 (x10 + 1))))) else (none)) else (none)))
end
def switchboardref22_first.f (k : Nat) (l0 : List (S87)) (a1 : Int) : Option (Int) := switchboardref22_first.l0 k l0 a1 (-1) l0 (l0.length : Int) 0
theorem switchboardref22_first.mono_l : ∀ k, (∀ y0 y1 y2 y3 y4 y5, LeO (switchboardref22_first.l0 k y0 y1 y2 y3 y4 y5) (switchboardref22_first.l0 (k + 1) y0 y1 y2 y3 y4 y5)) ∧ (∀ y0 y1 y2 y3 y4 y5 y6 y7 y8 y9 y10 y11 y12 y13 y14 y15 y16 y17, LeO (switchboardref22_first.j1 k y0 y1 y2 y3 y4 y5 y6 y7 y8 y9 y10 y11 y12 y13 y14 y15 y16 y17) (switchboardref22_first.j1 (k + 1) y0 y1 y2 y3 y4 y5 y6 y7 y8 y9 y10 y11 y12 y13 y14 y15 y16 y17))
  | 0 => ⟨fun _ _ _ _ _ _ r h => by simp [switchboardref22_first.l0] at h, fun _ _ _ _ _ _ _ _ _ _ _ _ _ _ _ _ _ _ r h => by simp [switchboardref22_first.j1] at h⟩
  | k + 1 => by
    obtain ⟨ih0, ih1⟩ := switchboardref22_first.mono_l k
    refine ⟨?_, ?_⟩
    · intro y0 y1 y2 y3 y4 y5
      unfold switchboardref22_first.l0
      repeat' first
      | (with_reducible exact ih0 _ _ _ _ _ _)
      | (with_reducible exact ih1 _ _ _ _ _ _ _ _ _ _ _ _ _ _ _ _ _ _)
      | (with_reducible exact LeO.refl _)
      | (with_reducible exact LeO.none _)
      | (with_reducible refine LeO.ite ?_ ?_)
      | (with_reducible refine LeO.bind ?_ (fun _ => ?_))
      | exact ih0 _ _ _ _ _ _
      | exact ih1 _ _ _ _ _ _ _ _ _ _ _ _ _ _ _ _ _ _
      | exact LeO.none _
      | refine LeO.ite ?_ ?_
      | refine LeO.bind ?_ (fun _ => ?_)
    · intro y0 y1 y2 y3 y4 y5 y6 y7 y8 y9 y10 y11 y12 y13 y14 y15 y16 y17
      unfold switchboardref22_first.j1
      repeat' first
      | (with_reducible exact ih0 _ _ _ _ _ _)
      | (with_reducible exact ih1 _ _ _ _ _ _ _ _ _ _ _ _ _ _ _ _ _ _)
      | (with_reducible exact LeO.refl _)
      | (with_reducible exact LeO.none _)
      | (with_reducible refine LeO.ite ?_ ?_)
      | (with_reducible refine LeO.bind ?_ (fun _ => ?_))
      | exact ih0 _ _ _ _ _ _
      | exact ih1 _ _ _ _ _ _ _ _ _ _ _ _ _ _ _ _ _ _
      | exact LeO.none _
      | refine LeO.ite ?_ ?_
      | refine LeO.bind ?_ (fun _ => ?_)
theorem switchboardref22_first.mono : ∀ a0 a1 k, LeO (switchboardref22_first.f k a0 a1) (switchboardref22_first.f (k + 1) a0 a1) := by
  intro a0 a1 k
  obtain ⟨ih0, ih1⟩ := switchboardref22_first.mono_l k
  unfold switchboardref22_first.f
  repeat' first
      | (with_reducible exact ih0 _ _ _ _ _ _)
      | (with_reducible exact ih1 _ _ _ _ _ _ _ _ _ _ _ _ _ _ _ _ _ _)
      | (with_reducible exact LeO.refl _)
      | (with_reducible exact LeO.none _)
      | (with_reducible refine LeO.ite ?_ ?_)
      | (with_reducible refine LeO.bind ?_ (fun _ => ?_))
      | exact ih0 _ _ _ _ _ _
      | exact ih1 _ _ _ _ _ _ _ _ _ _ _ _ _ _ _ _ _ _
      | exact LeO.none _
      | refine LeO.ite ?_ ?_
      | refine LeO.bind ?_ (fun _ => ?_)
set_option maxHeartbeats 8000000 in
set_option maxRecDepth 100000 in
theorem switchboardref22_first.calls (k : Nat) (A0 : Option Addr) (c0 : Nat) (l0 : List (S87)) (a1 : Int) (r : Int) (w : World) (hr0 : Kd.C k87 w A0 l0.length l0) (hc0 : l0.length ≤ c0) (h : switchboardref22_first.f k l0 a1 = some r) :
    Calls Try.prog 34 #[.slice A0 l0.length c0, .int .i64 a1] w fun e w' => e = .returned (.int .i64 r) ∧ Below w.heap.size w w' := by
  have hu87 := Try.underlying87
  have HR0 := Aside0.mk hr0
  have HC0 := Aside0.mk hc0
  clear hr0 hc0
  have HB := Aside0.mk (Below.refl w.heap.size w)
  have H : (switchboardref22_first.l0 k l0 a1 (-1) l0 (l0.length : Int) 0) = some r := h
  clear h
  have H' := Aside0.mk H
  clear H
  go_enter Try.func34, Try.ntmps34
  go_wp2
  repeat (go_quiet (fail); try go_wp2)
  go_loopg [5, 10] k (fun kq v5 v10 w' => ∃ (x5_1 : Int) (x10_1 : Int), v5 = .int .i64 x5_1 ∧ v10 = .int .i64 x10_1 ∧ Aside0 (switchboardref22_first.l0 kq l0 a1 x5_1 l0 (l0.length : Int) x10_1 = some r) ∧ Aside0 (kq ≤ k) ∧ Aside0 (Below w.heap.size w w'))
  case atStart => exact ⟨((-1)), (0), (by first | rfl | (simp; done) | (simp [*]; done)), (by first | rfl | (simp; done) | (simp [*]; done)), H', ⟨Nat.le_refl _⟩, ⟨by repeat (first | (with_reducible first | exact HB.out | apply below_alloc | apply pw_below_drewN | apply below_drew1) | exact HB.out)⟩⟩
  case round =>
    clear H'
    try clear p2
    obtain ⟨x5_1, x10_1, rfl, rfl, HA, HK1, HB⟩ := hrel
    cases gk with
    | zero => exact absurd HA.out (by simp [switchboardref22_first.l0])
    | succ k1 =>
      have H := HA.out
      clear HA
      simp only [switchboardref22_first.l0] at H
      by_cases c3 : x10_1 < (l0.length : Int)
      · rw [if_pos c3] at H
        have c3b0 : decide (x10_1 < (l0.length : Int)) = true := decide_eq_true c3
        clear c3
        by_cases c4 : 0 ≤ x10_1
        · rw [if_pos c4] at H
          have c4b0 : decide (0 ≤ x10_1) = true := decide_eq_true c4
          clear c4
          by_cases c5 : x10_1 < (l0.length : Int)
          · rw [if_pos c5] at H
            have c5b0 : decide (x10_1 < (l0.length : Int)) = true := decide_eq_true c5
            clear c5
            have HC6 := Aside0.mk H
            clear H
            have p321 : 0 ≤ (x10_1 : Int) := of_decide_eq_true (by first | (with_reducible assumption) | assumption)
            have q321 : x10_1 < (l0.length : Int) := of_decide_eq_true (by first | (with_reducible assumption) | assumption)
            obtain ⟨ad321, A321_5, c321_5, e321, hx321_0, hx321_1, hx321_2, hx321_3, hx321_4, hx321_5, hx321_6, hx321_7, hx321_8, hx321_9, hl321_5, hi321_5⟩ := at_T87 HR0.out x10_1 p321 q321
            cases e321
            replace hx321_0 := (HB.out.cell (World.block_lt_of_cell? w _ hx321_0)).trans hx321_0
            replace hx321_1 := (HB.out.cell (World.block_lt_of_cell? w _ hx321_1)).trans hx321_1
            replace hx321_2 := (HB.out.cell (World.block_lt_of_cell? w _ hx321_2)).trans hx321_2
            replace hx321_3 := (HB.out.cell (World.block_lt_of_cell? w _ hx321_3)).trans hx321_3
            replace hx321_4 := (HB.out.cell (World.block_lt_of_cell? w _ hx321_4)).trans hx321_4
            replace hx321_5 := (HB.out.cell (World.block_lt_of_cell? w _ hx321_5)).trans hx321_5
            replace hx321_6 := (HB.out.cell (World.block_lt_of_cell? w _ hx321_6)).trans hx321_6
            replace hx321_7 := (HB.out.cell (World.block_lt_of_cell? w _ hx321_7)).trans hx321_7
            replace hx321_8 := (HB.out.cell (World.block_lt_of_cell? w _ hx321_8)).trans hx321_8
            replace hx321_9 := (HB.out.cell (World.block_lt_of_cell? w _ hx321_9)).trans hx321_9
            have HR321_5 := Aside0.mk hi321_5
            have HC321_5 := Aside0.mk hl321_5
            clear hi321_5 hl321_5
            replace p321 := eq_true p321
            replace q321 := eq_true q321
            go_upto_region 5 with (first | ((with_reducible refine gate_dst (N := 7) rfl ?_); refine box_event ?hg (N := 7) ?hd (cs := #[.string (⟨#[]⟩ : ByteArray), .string (⟨#[]⟩ : ByteArray), .int .i64 0, .int .u8 0, .bool false, .slice none 0 0, .string (⟨#[]⟩ : ByteArray), .string (⟨#[]⟩ : ByteArray), .int .i64 0, .int .i64 0]) (t := 87) ?hr ?_; (case hd => rfl); (case hg => rfl); (case hr => first | (go_simp; done) | (go_simp; rfl)); intro gb322 hg w7 hbox hb; have n0_ := Aside0.mk (below_step (by repeat (first | (with_reducible first | exact HB.out | apply below_alloc | apply pw_below_drewN | apply below_drew1) | exact HB.out)) hb); have n1_ := Aside0.mk (hbox); have n2_ := Aside0.mk ((by rw [hg]; exact (below_size (by repeat (first | (with_reducible first | exact HB.out | apply below_alloc | apply pw_below_drewN | apply below_drew1) | exact HB.out))) : w.heap.size ≤ gb322)); have n3_ := Aside0.mk ((by rw [hg]; exact (below_size (by repeat (first | (with_reducible first | exact HB.out | apply below_alloc | apply pw_below_drewN | apply below_drew1) | exact HB.out))) : w.heap.size ≤ gb322)); clear HB; have HB := n0_; have BK322 := n1_; have GW322 := n2_; have GE322 := n3_; clear n0_ n1_ n2_ n3_; clear hb hbox hg; have hcz8_0 : w7.cell? ⟨gb322, 0, none⟩ = some (.string (⟨#[]⟩ : ByteArray)) := (blk_cell BK322.out 0).trans rfl; have hcz8_1 : w7.cell? ⟨gb322, 1, none⟩ = some (.string (⟨#[]⟩ : ByteArray)) := (blk_cell BK322.out 1).trans rfl; have hcz8_2 : w7.cell? ⟨gb322, 2, none⟩ = some (.int .i64 0) := (blk_cell BK322.out 2).trans rfl; have hcz8_3 : w7.cell? ⟨gb322, 3, none⟩ = some (.int .u8 0) := (blk_cell BK322.out 3).trans rfl; have hcz8_4 : w7.cell? ⟨gb322, 4, none⟩ = some (.bool false) := (blk_cell BK322.out 4).trans rfl; have hcz8_5 : w7.cell? ⟨gb322, 5, none⟩ = some (.slice none 0 0) := (blk_cell BK322.out 5).trans rfl; have hcz8_6 : w7.cell? ⟨gb322, 6, none⟩ = some (.string (⟨#[]⟩ : ByteArray)) := (blk_cell BK322.out 6).trans rfl; have hcz8_7 : w7.cell? ⟨gb322, 7, none⟩ = some (.string (⟨#[]⟩ : ByteArray)) := (blk_cell BK322.out 7).trans rfl; have hcz8_8 : w7.cell? ⟨gb322, 8, none⟩ = some (.int .i64 0) := (blk_cell BK322.out 8).trans rfl; have hcz8_9 : w7.cell? ⟨gb322, 9, none⟩ = some (.int .i64 0) := (blk_cell BK322.out 9).trans rfl; have hfz8_0 := blk_frozen BK322.out 0; have hfz8_1 := blk_frozen BK322.out 1; have hfz8_2 := blk_frozen BK322.out 2; have hfz8_3 := blk_frozen BK322.out 3; have hfz8_4 := blk_frozen BK322.out 4; have hfz8_5 := blk_frozen BK322.out 5; have hfz8_6 := blk_frozen BK322.out 6; have hfz8_7 := blk_frozen BK322.out 7; have hfz8_8 := blk_frozen BK322.out 8; have hfz8_9 := blk_frozen BK322.out 9))
            repeat (go_quiet (first | ((with_reducible refine gate_dst (N := 7) rfl ?_); refine box_event ?hg (N := 7) ?hd (cs := #[.string (⟨#[]⟩ : ByteArray), .string (⟨#[]⟩ : ByteArray), .int .i64 0, .int .u8 0, .bool false, .slice none 0 0, .string (⟨#[]⟩ : ByteArray), .string (⟨#[]⟩ : ByteArray), .int .i64 0, .int .i64 0]) (t := 87) ?hr ?_; (case hd => rfl); (case hg => rfl); (case hr => first | (go_simp; done) | (go_simp; rfl)); intro gb322 hg w7 hbox hb; have n0_ := Aside0.mk (below_step (by repeat (first | (with_reducible first | exact HB.out | apply below_alloc | apply pw_below_drewN | apply below_drew1) | exact HB.out)) hb); have n1_ := Aside0.mk (hbox); have n2_ := Aside0.mk ((by rw [hg]; exact (below_size (by repeat (first | (with_reducible first | exact HB.out | apply below_alloc | apply pw_below_drewN | apply below_drew1) | exact HB.out))) : w.heap.size ≤ gb322)); have n3_ := Aside0.mk ((by rw [hg]; exact (below_size (by repeat (first | (with_reducible first | exact HB.out | apply below_alloc | apply pw_below_drewN | apply below_drew1) | exact HB.out))) : w.heap.size ≤ gb322)); clear HB; have HB := n0_; have BK322 := n1_; have GW322 := n2_; have GE322 := n3_; clear n0_ n1_ n2_ n3_; clear hb hbox hg; have hcz8_0 : w7.cell? ⟨gb322, 0, none⟩ = some (.string (⟨#[]⟩ : ByteArray)) := (blk_cell BK322.out 0).trans rfl; have hcz8_1 : w7.cell? ⟨gb322, 1, none⟩ = some (.string (⟨#[]⟩ : ByteArray)) := (blk_cell BK322.out 1).trans rfl; have hcz8_2 : w7.cell? ⟨gb322, 2, none⟩ = some (.int .i64 0) := (blk_cell BK322.out 2).trans rfl; have hcz8_3 : w7.cell? ⟨gb322, 3, none⟩ = some (.int .u8 0) := (blk_cell BK322.out 3).trans rfl; have hcz8_4 : w7.cell? ⟨gb322, 4, none⟩ = some (.bool false) := (blk_cell BK322.out 4).trans rfl; have hcz8_5 : w7.cell? ⟨gb322, 5, none⟩ = some (.slice none 0 0) := (blk_cell BK322.out 5).trans rfl; have hcz8_6 : w7.cell? ⟨gb322, 6, none⟩ = some (.string (⟨#[]⟩ : ByteArray)) := (blk_cell BK322.out 6).trans rfl; have hcz8_7 : w7.cell? ⟨gb322, 7, none⟩ = some (.string (⟨#[]⟩ : ByteArray)) := (blk_cell BK322.out 7).trans rfl; have hcz8_8 : w7.cell? ⟨gb322, 8, none⟩ = some (.int .i64 0) := (blk_cell BK322.out 8).trans rfl; have hcz8_9 : w7.cell? ⟨gb322, 9, none⟩ = some (.int .i64 0) := (blk_cell BK322.out 9).trans rfl; have hfz8_0 := blk_frozen BK322.out 0; have hfz8_1 := blk_frozen BK322.out 1; have hfz8_2 := blk_frozen BK322.out 2; have hfz8_3 := blk_frozen BK322.out 3; have hfz8_4 := blk_frozen BK322.out 4; have hfz8_5 := blk_frozen BK322.out 5; have hfz8_6 := blk_frozen BK322.out 6; have hfz8_7 := blk_frozen BK322.out 7; have hfz8_8 := blk_frozen BK322.out 8; have hfz8_9 := blk_frozen BK322.out 9)); go_upto_region 5 with (first | ((with_reducible refine gate_dst (N := 7) rfl ?_); refine box_event ?hg (N := 7) ?hd (cs := #[.string (⟨#[]⟩ : ByteArray), .string (⟨#[]⟩ : ByteArray), .int .i64 0, .int .u8 0, .bool false, .slice none 0 0, .string (⟨#[]⟩ : ByteArray), .string (⟨#[]⟩ : ByteArray), .int .i64 0, .int .i64 0]) (t := 87) ?hr ?_; (case hd => rfl); (case hg => rfl); (case hr => first | (go_simp; done) | (go_simp; rfl)); intro gb322 hg w7 hbox hb; have n0_ := Aside0.mk (below_step (by repeat (first | (with_reducible first | exact HB.out | apply below_alloc | apply pw_below_drewN | apply below_drew1) | exact HB.out)) hb); have n1_ := Aside0.mk (hbox); have n2_ := Aside0.mk ((by rw [hg]; exact (below_size (by repeat (first | (with_reducible first | exact HB.out | apply below_alloc | apply pw_below_drewN | apply below_drew1) | exact HB.out))) : w.heap.size ≤ gb322)); have n3_ := Aside0.mk ((by rw [hg]; exact (below_size (by repeat (first | (with_reducible first | exact HB.out | apply below_alloc | apply pw_below_drewN | apply below_drew1) | exact HB.out))) : w.heap.size ≤ gb322)); clear HB; have HB := n0_; have BK322 := n1_; have GW322 := n2_; have GE322 := n3_; clear n0_ n1_ n2_ n3_; clear hb hbox hg; have hcz8_0 : w7.cell? ⟨gb322, 0, none⟩ = some (.string (⟨#[]⟩ : ByteArray)) := (blk_cell BK322.out 0).trans rfl; have hcz8_1 : w7.cell? ⟨gb322, 1, none⟩ = some (.string (⟨#[]⟩ : ByteArray)) := (blk_cell BK322.out 1).trans rfl; have hcz8_2 : w7.cell? ⟨gb322, 2, none⟩ = some (.int .i64 0) := (blk_cell BK322.out 2).trans rfl; have hcz8_3 : w7.cell? ⟨gb322, 3, none⟩ = some (.int .u8 0) := (blk_cell BK322.out 3).trans rfl; have hcz8_4 : w7.cell? ⟨gb322, 4, none⟩ = some (.bool false) := (blk_cell BK322.out 4).trans rfl; have hcz8_5 : w7.cell? ⟨gb322, 5, none⟩ = some (.slice none 0 0) := (blk_cell BK322.out 5).trans rfl; have hcz8_6 : w7.cell? ⟨gb322, 6, none⟩ = some (.string (⟨#[]⟩ : ByteArray)) := (blk_cell BK322.out 6).trans rfl; have hcz8_7 : w7.cell? ⟨gb322, 7, none⟩ = some (.string (⟨#[]⟩ : ByteArray)) := (blk_cell BK322.out 7).trans rfl; have hcz8_8 : w7.cell? ⟨gb322, 8, none⟩ = some (.int .i64 0) := (blk_cell BK322.out 8).trans rfl; have hcz8_9 : w7.cell? ⟨gb322, 9, none⟩ = some (.int .i64 0) := (blk_cell BK322.out 9).trans rfl; have hfz8_0 := blk_frozen BK322.out 0; have hfz8_1 := blk_frozen BK322.out 1; have hfz8_2 := blk_frozen BK322.out 2; have hfz8_3 := blk_frozen BK322.out 3; have hfz8_4 := blk_frozen BK322.out 4; have hfz8_5 := blk_frozen BK322.out 5; have hfz8_6 := blk_frozen BK322.out 6; have hfz8_7 := blk_frozen BK322.out 7; have hfz8_8 := blk_frozen BK322.out 8; have hfz8_9 := blk_frozen BK322.out 9)))
            (try simp only [Act.put, List.setIfInBounds_toArray, List.set_cons_zero, List.set_cons_succ])
            go_cut [23] (fun v23 wc => ∃ (kq : Nat) (x23_5 : Bool), v23 = .bool x23_5 ∧ Aside0 (switchboardref22_first.j1 kq l0 a1 x5_1 x10_1 l0 (l0.length : Int) x10_1 x23_5 ((rd_T87 l0 x10_1).f0) ((rd_T87 l0 x10_1).f1.f0) ((rd_T87 l0 x10_1).f1.f1) ((rd_T87 l0 x10_1).f1.f2) ((rd_T87 l0 x10_1).f1.f3) ((rd_T87 l0 x10_1).f1.f4) ((rd_T87 l0 x10_1).f1.f5) ((rd_T87 l0 x10_1).f1.f6) ((rd_T87 l0 x10_1).f2) ((rd_T87 l0 x10_1).f3) = some r) ∧ Aside0 (kq ≤ k1) ∧ Aside0 (wc.heap[gb322]? = some (.cells #[.string ((rd_T87 l0 x10_1).f0), .string ((rd_T87 l0 x10_1).f1.f0), .int .i64 ((rd_T87 l0 x10_1).f1.f1), .int .u8 ((rd_T87 l0 x10_1).f1.f2), .bool ((rd_T87 l0 x10_1).f1.f3), (.slice A321_5 ((rd_T87 l0 x10_1).f1.f4).length c321_5), .string ((rd_T87 l0 x10_1).f1.f5), .string ((rd_T87 l0 x10_1).f1.f6), .int .i64 ((rd_T87 l0 x10_1).f2), .int .i64 ((rd_T87 l0 x10_1).f3)] 87 (0, 0))) ∧ Aside0 (Below w.heap.size w wc))
            case first =>
              have H := HC6.out
              clear HC6
              by_cases c9 : ((rd_T87 l0 x10_1).f3) < 0
              · rw [if_pos c9] at H
                have c9b0 : decide (((rd_T87 l0 x10_1).f3) < 0) = true := decide_eq_true c9
                clear c9
                (first | rw [c9b0] | (simp only [i64_w, i32_w]; rw [c9b0]) | skip)
                have H' := Aside0.mk H
                clear H
                have hcz10_0 : w7.cell? ⟨gb322, 0, none⟩ = some (.string (⟨#[]⟩ : ByteArray)) := (blk_cell BK322.out 0).trans rfl
                have hcz10_1 : w7.cell? ⟨gb322, 1, none⟩ = some (.string (⟨#[]⟩ : ByteArray)) := (blk_cell BK322.out 1).trans rfl
                have hcz10_2 : w7.cell? ⟨gb322, 2, none⟩ = some (.int .i64 0) := (blk_cell BK322.out 2).trans rfl
                have hcz10_3 : w7.cell? ⟨gb322, 3, none⟩ = some (.int .u8 0) := (blk_cell BK322.out 3).trans rfl
                have hcz10_4 : w7.cell? ⟨gb322, 4, none⟩ = some (.bool false) := (blk_cell BK322.out 4).trans rfl
                have hcz10_5 : w7.cell? ⟨gb322, 5, none⟩ = some (.slice none 0 0) := (blk_cell BK322.out 5).trans rfl
                have hcz10_6 : w7.cell? ⟨gb322, 6, none⟩ = some (.string (⟨#[]⟩ : ByteArray)) := (blk_cell BK322.out 6).trans rfl
                have hcz10_7 : w7.cell? ⟨gb322, 7, none⟩ = some (.string (⟨#[]⟩ : ByteArray)) := (blk_cell BK322.out 7).trans rfl
                have hcz10_8 : w7.cell? ⟨gb322, 8, none⟩ = some (.int .i64 0) := (blk_cell BK322.out 8).trans rfl
                have hcz10_9 : w7.cell? ⟨gb322, 9, none⟩ = some (.int .i64 0) := (blk_cell BK322.out 9).trans rfl
                have hfz10_0 := blk_frozen BK322.out 0
                have hfz10_1 := blk_frozen BK322.out 1
                have hfz10_2 := blk_frozen BK322.out 2
                have hfz10_3 := blk_frozen BK322.out 3
                have hfz10_4 := blk_frozen BK322.out 4
                have hfz10_5 := blk_frozen BK322.out 5
                have hfz10_6 := blk_frozen BK322.out 6
                have hfz10_7 := blk_frozen BK322.out 7
                have hfz10_8 := blk_frozen BK322.out 8
                have hfz10_9 := blk_frozen BK322.out 9
                go_wp2
                repeat (go_quiet (fail); try go_wp2)
                go_meet
                case rel => exact ⟨_, (true), (by first | rfl | (simp; done) | (simp [*]; done)), H', ⟨by have := HK1.out; first | omega | exact Nat.le_refl _⟩, ⟨by (with_reducible repeat (first | refine blk_drewN ?_ _ | refine blk_drew ?_ | refine blk_alloc ?_ _)); refine blk_put (cs := #[.string ((rd_T87 l0 x10_1).f0), .string ((rd_T87 l0 x10_1).f1.f0), .int .i64 ((rd_T87 l0 x10_1).f1.f1), .int .u8 ((rd_T87 l0 x10_1).f1.f2), .bool ((rd_T87 l0 x10_1).f1.f3), .slice A321_5 ((rd_T87 l0 x10_1).f1.f4).length c321_5, .string ((rd_T87 l0 x10_1).f1.f5), .string ((rd_T87 l0 x10_1).f1.f6), .int .i64 ((rd_T87 l0 x10_1).f2), .int .i64 0]) ?_ 9 _ rfl; (with_reducible repeat (first | refine blk_drewN ?_ _ | refine blk_drew ?_ | refine blk_alloc ?_ _)); refine blk_put (cs := #[.string ((rd_T87 l0 x10_1).f0), .string ((rd_T87 l0 x10_1).f1.f0), .int .i64 ((rd_T87 l0 x10_1).f1.f1), .int .u8 ((rd_T87 l0 x10_1).f1.f2), .bool ((rd_T87 l0 x10_1).f1.f3), .slice A321_5 ((rd_T87 l0 x10_1).f1.f4).length c321_5, .string ((rd_T87 l0 x10_1).f1.f5), .string ((rd_T87 l0 x10_1).f1.f6), .int .i64 0, .int .i64 0]) ?_ 8 _ rfl; (with_reducible repeat (first | refine blk_drewN ?_ _ | refine blk_drew ?_ | refine blk_alloc ?_ _)); refine blk_put (cs := #[.string ((rd_T87 l0 x10_1).f0), .string ((rd_T87 l0 x10_1).f1.f0), .int .i64 ((rd_T87 l0 x10_1).f1.f1), .int .u8 ((rd_T87 l0 x10_1).f1.f2), .bool ((rd_T87 l0 x10_1).f1.f3), .slice A321_5 ((rd_T87 l0 x10_1).f1.f4).length c321_5, .string ((rd_T87 l0 x10_1).f1.f5), .string (⟨#[]⟩ : ByteArray), .int .i64 0, .int .i64 0]) ?_ 7 _ rfl; (with_reducible repeat (first | refine blk_drewN ?_ _ | refine blk_drew ?_ | refine blk_alloc ?_ _)); refine blk_put (cs := #[.string ((rd_T87 l0 x10_1).f0), .string ((rd_T87 l0 x10_1).f1.f0), .int .i64 ((rd_T87 l0 x10_1).f1.f1), .int .u8 ((rd_T87 l0 x10_1).f1.f2), .bool ((rd_T87 l0 x10_1).f1.f3), .slice A321_5 ((rd_T87 l0 x10_1).f1.f4).length c321_5, .string (⟨#[]⟩ : ByteArray), .string (⟨#[]⟩ : ByteArray), .int .i64 0, .int .i64 0]) ?_ 6 _ rfl; (with_reducible repeat (first | refine blk_drewN ?_ _ | refine blk_drew ?_ | refine blk_alloc ?_ _)); refine blk_put (cs := #[.string ((rd_T87 l0 x10_1).f0), .string ((rd_T87 l0 x10_1).f1.f0), .int .i64 ((rd_T87 l0 x10_1).f1.f1), .int .u8 ((rd_T87 l0 x10_1).f1.f2), .bool ((rd_T87 l0 x10_1).f1.f3), .slice none 0 0, .string (⟨#[]⟩ : ByteArray), .string (⟨#[]⟩ : ByteArray), .int .i64 0, .int .i64 0]) ?_ 5 _ rfl; (with_reducible repeat (first | refine blk_drewN ?_ _ | refine blk_drew ?_ | refine blk_alloc ?_ _)); refine blk_put (cs := #[.string ((rd_T87 l0 x10_1).f0), .string ((rd_T87 l0 x10_1).f1.f0), .int .i64 ((rd_T87 l0 x10_1).f1.f1), .int .u8 ((rd_T87 l0 x10_1).f1.f2), .bool false, .slice none 0 0, .string (⟨#[]⟩ : ByteArray), .string (⟨#[]⟩ : ByteArray), .int .i64 0, .int .i64 0]) ?_ 4 _ rfl; (with_reducible repeat (first | refine blk_drewN ?_ _ | refine blk_drew ?_ | refine blk_alloc ?_ _)); refine blk_put (cs := #[.string ((rd_T87 l0 x10_1).f0), .string ((rd_T87 l0 x10_1).f1.f0), .int .i64 ((rd_T87 l0 x10_1).f1.f1), .int .u8 0, .bool false, .slice none 0 0, .string (⟨#[]⟩ : ByteArray), .string (⟨#[]⟩ : ByteArray), .int .i64 0, .int .i64 0]) ?_ 3 _ rfl; (with_reducible repeat (first | refine blk_drewN ?_ _ | refine blk_drew ?_ | refine blk_alloc ?_ _)); refine blk_put (cs := #[.string ((rd_T87 l0 x10_1).f0), .string ((rd_T87 l0 x10_1).f1.f0), .int .i64 0, .int .u8 0, .bool false, .slice none 0 0, .string (⟨#[]⟩ : ByteArray), .string (⟨#[]⟩ : ByteArray), .int .i64 0, .int .i64 0]) ?_ 2 _ rfl; (with_reducible repeat (first | refine blk_drewN ?_ _ | refine blk_drew ?_ | refine blk_alloc ?_ _)); refine blk_put (cs := #[.string ((rd_T87 l0 x10_1).f0), .string (⟨#[]⟩ : ByteArray), .int .i64 0, .int .u8 0, .bool false, .slice none 0 0, .string (⟨#[]⟩ : ByteArray), .string (⟨#[]⟩ : ByteArray), .int .i64 0, .int .i64 0]) ?_ 1 _ rfl; (with_reducible repeat (first | refine blk_drewN ?_ _ | refine blk_drew ?_ | refine blk_alloc ?_ _)); refine blk_put (cs := #[.string (⟨#[]⟩ : ByteArray), .string (⟨#[]⟩ : ByteArray), .int .i64 0, .int .u8 0, .bool false, .slice none 0 0, .string (⟨#[]⟩ : ByteArray), .string (⟨#[]⟩ : ByteArray), .int .i64 0, .int .i64 0]) ?_ 0 _ rfl; (with_reducible repeat (first | refine blk_drewN ?_ _ | refine blk_drew ?_ | refine blk_alloc ?_ _)); exact BK322.out⟩, ⟨by repeat (first | (with_reducible first | exact HB.out | apply below_alloc | apply pw_below_drewN | apply below_drew1 | refine below_set ?_ GE322.out) | exact HB.out)⟩⟩
              · rw [if_neg c9] at H
                have c9b0 : decide (((rd_T87 l0 x10_1).f3) < 0) = false := decide_eq_false c9
                clear c9
                (first | rw [c9b0] | (simp only [i64_w, i32_w]; rw [c9b0]) | skip)
                have H' := Aside0.mk H
                clear H
                have hcz11_0 : w7.cell? ⟨gb322, 0, none⟩ = some (.string (⟨#[]⟩ : ByteArray)) := (blk_cell BK322.out 0).trans rfl
                have hcz11_1 : w7.cell? ⟨gb322, 1, none⟩ = some (.string (⟨#[]⟩ : ByteArray)) := (blk_cell BK322.out 1).trans rfl
                have hcz11_2 : w7.cell? ⟨gb322, 2, none⟩ = some (.int .i64 0) := (blk_cell BK322.out 2).trans rfl
                have hcz11_3 : w7.cell? ⟨gb322, 3, none⟩ = some (.int .u8 0) := (blk_cell BK322.out 3).trans rfl
                have hcz11_4 : w7.cell? ⟨gb322, 4, none⟩ = some (.bool false) := (blk_cell BK322.out 4).trans rfl
                have hcz11_5 : w7.cell? ⟨gb322, 5, none⟩ = some (.slice none 0 0) := (blk_cell BK322.out 5).trans rfl
                have hcz11_6 : w7.cell? ⟨gb322, 6, none⟩ = some (.string (⟨#[]⟩ : ByteArray)) := (blk_cell BK322.out 6).trans rfl
                have hcz11_7 : w7.cell? ⟨gb322, 7, none⟩ = some (.string (⟨#[]⟩ : ByteArray)) := (blk_cell BK322.out 7).trans rfl
                have hcz11_8 : w7.cell? ⟨gb322, 8, none⟩ = some (.int .i64 0) := (blk_cell BK322.out 8).trans rfl
                have hcz11_9 : w7.cell? ⟨gb322, 9, none⟩ = some (.int .i64 0) := (blk_cell BK322.out 9).trans rfl
                have hfz11_0 := blk_frozen BK322.out 0
                have hfz11_1 := blk_frozen BK322.out 1
                have hfz11_2 := blk_frozen BK322.out 2
                have hfz11_3 := blk_frozen BK322.out 3
                have hfz11_4 := blk_frozen BK322.out 4
                have hfz11_5 := blk_frozen BK322.out 5
                have hfz11_6 := blk_frozen BK322.out 6
                have hfz11_7 := blk_frozen BK322.out 7
                have hfz11_8 := blk_frozen BK322.out 8
                have hfz11_9 := blk_frozen BK322.out 9
                go_wp2
                repeat (go_quiet (fail); try go_wp2)
                go_meet
                case rel => exact ⟨_, (decide (((rd_T87 l0 x10_1).f3) > a1)), (by first | rfl | (simp; done) | (simp [*]; done)), H', ⟨by have := HK1.out; first | omega | exact Nat.le_refl _⟩, ⟨by (with_reducible repeat (first | refine blk_drewN ?_ _ | refine blk_drew ?_ | refine blk_alloc ?_ _)); refine blk_put (cs := #[.string ((rd_T87 l0 x10_1).f0), .string ((rd_T87 l0 x10_1).f1.f0), .int .i64 ((rd_T87 l0 x10_1).f1.f1), .int .u8 ((rd_T87 l0 x10_1).f1.f2), .bool ((rd_T87 l0 x10_1).f1.f3), .slice A321_5 ((rd_T87 l0 x10_1).f1.f4).length c321_5, .string ((rd_T87 l0 x10_1).f1.f5), .string ((rd_T87 l0 x10_1).f1.f6), .int .i64 ((rd_T87 l0 x10_1).f2), .int .i64 0]) ?_ 9 _ rfl; (with_reducible repeat (first | refine blk_drewN ?_ _ | refine blk_drew ?_ | refine blk_alloc ?_ _)); refine blk_put (cs := #[.string ((rd_T87 l0 x10_1).f0), .string ((rd_T87 l0 x10_1).f1.f0), .int .i64 ((rd_T87 l0 x10_1).f1.f1), .int .u8 ((rd_T87 l0 x10_1).f1.f2), .bool ((rd_T87 l0 x10_1).f1.f3), .slice A321_5 ((rd_T87 l0 x10_1).f1.f4).length c321_5, .string ((rd_T87 l0 x10_1).f1.f5), .string ((rd_T87 l0 x10_1).f1.f6), .int .i64 0, .int .i64 0]) ?_ 8 _ rfl; (with_reducible repeat (first | refine blk_drewN ?_ _ | refine blk_drew ?_ | refine blk_alloc ?_ _)); refine blk_put (cs := #[.string ((rd_T87 l0 x10_1).f0), .string ((rd_T87 l0 x10_1).f1.f0), .int .i64 ((rd_T87 l0 x10_1).f1.f1), .int .u8 ((rd_T87 l0 x10_1).f1.f2), .bool ((rd_T87 l0 x10_1).f1.f3), .slice A321_5 ((rd_T87 l0 x10_1).f1.f4).length c321_5, .string ((rd_T87 l0 x10_1).f1.f5), .string (⟨#[]⟩ : ByteArray), .int .i64 0, .int .i64 0]) ?_ 7 _ rfl; (with_reducible repeat (first | refine blk_drewN ?_ _ | refine blk_drew ?_ | refine blk_alloc ?_ _)); refine blk_put (cs := #[.string ((rd_T87 l0 x10_1).f0), .string ((rd_T87 l0 x10_1).f1.f0), .int .i64 ((rd_T87 l0 x10_1).f1.f1), .int .u8 ((rd_T87 l0 x10_1).f1.f2), .bool ((rd_T87 l0 x10_1).f1.f3), .slice A321_5 ((rd_T87 l0 x10_1).f1.f4).length c321_5, .string (⟨#[]⟩ : ByteArray), .string (⟨#[]⟩ : ByteArray), .int .i64 0, .int .i64 0]) ?_ 6 _ rfl; (with_reducible repeat (first | refine blk_drewN ?_ _ | refine blk_drew ?_ | refine blk_alloc ?_ _)); refine blk_put (cs := #[.string ((rd_T87 l0 x10_1).f0), .string ((rd_T87 l0 x10_1).f1.f0), .int .i64 ((rd_T87 l0 x10_1).f1.f1), .int .u8 ((rd_T87 l0 x10_1).f1.f2), .bool ((rd_T87 l0 x10_1).f1.f3), .slice none 0 0, .string (⟨#[]⟩ : ByteArray), .string (⟨#[]⟩ : ByteArray), .int .i64 0, .int .i64 0]) ?_ 5 _ rfl; (with_reducible repeat (first | refine blk_drewN ?_ _ | refine blk_drew ?_ | refine blk_alloc ?_ _)); refine blk_put (cs := #[.string ((rd_T87 l0 x10_1).f0), .string ((rd_T87 l0 x10_1).f1.f0), .int .i64 ((rd_T87 l0 x10_1).f1.f1), .int .u8 ((rd_T87 l0 x10_1).f1.f2), .bool false, .slice none 0 0, .string (⟨#[]⟩ : ByteArray), .string (⟨#[]⟩ : ByteArray), .int .i64 0, .int .i64 0]) ?_ 4 _ rfl; (with_reducible repeat (first | refine blk_drewN ?_ _ | refine blk_drew ?_ | refine blk_alloc ?_ _)); refine blk_put (cs := #[.string ((rd_T87 l0 x10_1).f0), .string ((rd_T87 l0 x10_1).f1.f0), .int .i64 ((rd_T87 l0 x10_1).f1.f1), .int .u8 0, .bool false, .slice none 0 0, .string (⟨#[]⟩ : ByteArray), .string (⟨#[]⟩ : ByteArray), .int .i64 0, .int .i64 0]) ?_ 3 _ rfl; (with_reducible repeat (first | refine blk_drewN ?_ _ | refine blk_drew ?_ | refine blk_alloc ?_ _)); refine blk_put (cs := #[.string ((rd_T87 l0 x10_1).f0), .string ((rd_T87 l0 x10_1).f1.f0), .int .i64 0, .int .u8 0, .bool false, .slice none 0 0, .string (⟨#[]⟩ : ByteArray), .string (⟨#[]⟩ : ByteArray), .int .i64 0, .int .i64 0]) ?_ 2 _ rfl; (with_reducible repeat (first | refine blk_drewN ?_ _ | refine blk_drew ?_ | refine blk_alloc ?_ _)); refine blk_put (cs := #[.string ((rd_T87 l0 x10_1).f0), .string (⟨#[]⟩ : ByteArray), .int .i64 0, .int .u8 0, .bool false, .slice none 0 0, .string (⟨#[]⟩ : ByteArray), .string (⟨#[]⟩ : ByteArray), .int .i64 0, .int .i64 0]) ?_ 1 _ rfl; (with_reducible repeat (first | refine blk_drewN ?_ _ | refine blk_drew ?_ | refine blk_alloc ?_ _)); refine blk_put (cs := #[.string (⟨#[]⟩ : ByteArray), .string (⟨#[]⟩ : ByteArray), .int .i64 0, .int .u8 0, .bool false, .slice none 0 0, .string (⟨#[]⟩ : ByteArray), .string (⟨#[]⟩ : ByteArray), .int .i64 0, .int .i64 0]) ?_ 0 _ rfl; (with_reducible repeat (first | refine blk_drewN ?_ _ | refine blk_drew ?_ | refine blk_alloc ?_ _)); exact BK322.out⟩, ⟨by repeat (first | (with_reducible first | exact HB.out | apply below_alloc | apply pw_below_drewN | apply below_drew1 | refine below_set ?_ GE322.out) | exact HB.out)⟩⟩
            case rest =>
              clear HC6
              try clear p2
              try clear c3
              try clear c3b0
              try clear p3
              try clear q3
              try clear hx3
              try clear c4
              try clear c4b0
              try clear c5
              try clear c5b0
              try clear c9
              try clear c9b0
              try clear hcz10_0
              try clear hcz10_1
              try clear hcz10_2
              try clear hcz10_3
              try clear hcz10_4
              try clear hcz10_5
              try clear hcz10_6
              try clear hcz10_7
              try clear hcz10_8
              try clear hcz10_9
              try clear hcz11_0
              try clear hcz11_1
              try clear hcz11_2
              try clear hcz11_3
              try clear hcz11_4
              try clear hcz11_5
              try clear hcz11_6
              try clear hcz11_7
              try clear hcz11_8
              try clear hcz11_9
              try clear hcz8_0
              try clear hcz8_1
              try clear hcz8_2
              try clear hcz8_3
              try clear hcz8_4
              try clear hcz8_5
              try clear hcz8_6
              try clear hcz8_7
              try clear hcz8_8
              try clear hcz8_9
              try clear hfz10_0
              try clear hfz10_1
              try clear hfz10_2
              try clear hfz10_3
              try clear hfz10_4
              try clear hfz10_5
              try clear hfz10_6
              try clear hfz10_7
              try clear hfz10_8
              try clear hfz10_9
              try clear hfz11_0
              try clear hfz11_1
              try clear hfz11_2
              try clear hfz11_3
              try clear hfz11_4
              try clear hfz11_5
              try clear hfz11_6
              try clear hfz11_7
              try clear hfz11_8
              try clear hfz11_9
              try clear hfz8_0
              try clear hfz8_1
              try clear hfz8_2
              try clear hfz8_3
              try clear hfz8_4
              try clear hfz8_5
              try clear hfz8_6
              try clear hfz8_7
              try clear hfz8_8
              try clear hfz8_9
              try clear hx321_0
              try clear hx321_1
              try clear hx321_2
              try clear hx321_3
              try clear hx321_4
              try clear hx321_5
              try clear hx321_6
              try clear hx321_7
              try clear hx321_8
              try clear hx321_9
              try clear p2
              try clear p321
              try clear q321
              obtain ⟨kq, x23_5, rfl, HA, HJ5, BK322, HB⟩ := hcut
              cases kq with
              | zero => exact absurd HA.out (by simp [switchboardref22_first.j1])
              | succ kj5 =>
                have H := HA.out
                clear HA
                simp only [switchboardref22_first.j1] at H
                by_cases c12 : x23_5 = true
                · subst c12
                  have H1 : (switchboardref22_first.l0 kj5 l0 a1 x5_1 l0 (l0.length : Int) (wrap64 (x10_1 + 1))) = some r := by rw [if_pos rfl] at H; exact H
                  clear H
                  have H := H1
                  clear H1
                  have H' := Aside0.mk H
                  clear H
                  go_wp2
                  repeat (go_quiet (fail); try go_wp2)
                  go_roundg kj5
                  case measure => have := HK1.out; have := HJ5.out; omega
                  case rel => exact ⟨(x5_1), (wrap64 (x10_1 + 1)), (by first | rfl | (simp; done) | (simp [*]; done)), (by first | rfl | (simp; done) | (simp [*]; done)), H', ⟨by have := HK1.out; have := HJ5.out; omega⟩, ⟨by repeat (first | (with_reducible first | exact HB.out | apply below_alloc | apply pw_below_drewN | apply below_drew1 | refine below_set ?_ GE322.out) | exact HB.out)⟩⟩
                · replace c12 := Bool.eq_false_iff.mpr c12
                  subst c12
                  have H1 : (if x5_1 < 0 then (switchboardref22_first.l0 kj5 l0 a1 x10_1 l0 (l0.length : Int) (wrap64 (x10_1 + 1))) else (if 0 ≤ x5_1 then (if x5_1 < (l0.length : Int) then (if ((rd_T87 l0 x10_1).f3) < ((rd_T87 l0 x5_1).f3) then (switchboardref22_first.l0 kj5 l0 a1 x10_1 l0 (l0.length : Int) (wrap64 (x10_1 + 1))) else (if ((rd_T87 l0 x10_1).f3) = ((rd_T87 l0 x5_1).f3) then (if (Op.bytesLess ((rd_T87 l0 x10_1).f0).toList (((rd_T87 l0 x5_1).f0).toList)) = true then (switchboardref22_first.l0 kj5 l0 a1 x10_1 l0 (l0.length : Int) (wrap64 (x10_1 + 1))) else (switchboardref22_first.l0 kj5 l0 a1 x5_1 l0 (l0.length : Int) (wrap64 (x10_1 + 1)))) else (switchboardref22_first.l0 kj5 l0 a1 x5_1 l0 (l0.length : Int) (wrap64 (x10_1 + 1))))) else (none)) else (none))) = some r := by rw [if_neg (show ¬ (false = true) by decide)] at H; exact H
                  clear H
                  have H := H1
                  clear H1
                  by_cases c13 : x5_1 < 0
                  · rw [if_pos c13] at H
                    have c13b0 : decide (x5_1 < 0) = true := decide_eq_true c13
                    clear c13
                    have H' := Aside0.mk H
                    clear H
                    go_wp2
                    repeat (go_quiet (fail); try go_wp2)
                    go_roundg kj5
                    case measure => have := HK1.out; have := HJ5.out; omega
                    case rel => exact ⟨(x10_1), (wrap64 (x10_1 + 1)), (by first | rfl | (simp; done) | (simp [*]; done)), (by first | rfl | (simp; done) | (simp [*]; done)), H', ⟨by have := HK1.out; have := HJ5.out; omega⟩, ⟨by repeat (first | (with_reducible first | exact HB.out | apply below_alloc | apply pw_below_drewN | apply below_drew1 | refine below_set ?_ GE322.out) | exact HB.out)⟩⟩
                  · rw [if_neg c13] at H
                    have c13b0 : decide (x5_1 < 0) = false := decide_eq_false c13
                    clear c13
                    by_cases c14 : 0 ≤ x5_1
                    · rw [if_pos c14] at H
                      have c14b0 : decide (0 ≤ x5_1) = true := decide_eq_true c14
                      clear c14
                      by_cases c15 : x5_1 < (l0.length : Int)
                      · rw [if_pos c15] at H
                        have c15b0 : decide (x5_1 < (l0.length : Int)) = true := decide_eq_true c15
                        clear c15
                        by_cases c16 : ((rd_T87 l0 x10_1).f3) < ((rd_T87 l0 x5_1).f3)
                        · rw [if_pos c16] at H
                          have c16b0 : decide (((rd_T87 l0 x10_1).f3) < ((rd_T87 l0 x5_1).f3)) = true := decide_eq_true c16
                          clear c16
                          have H' := Aside0.mk H
                          clear H
                          have hcz17_0 : wc.cell? ⟨gb322, 0, none⟩ = some (.string ((rd_T87 l0 x10_1).f0)) := (blk_cell BK322.out 0).trans rfl
                          have hcz17_1 : wc.cell? ⟨gb322, 1, none⟩ = some (.string ((rd_T87 l0 x10_1).f1.f0)) := (blk_cell BK322.out 1).trans rfl
                          have hcz17_2 : wc.cell? ⟨gb322, 2, none⟩ = some (.int .i64 ((rd_T87 l0 x10_1).f1.f1)) := (blk_cell BK322.out 2).trans rfl
                          have hcz17_3 : wc.cell? ⟨gb322, 3, none⟩ = some (.int .u8 ((rd_T87 l0 x10_1).f1.f2)) := (blk_cell BK322.out 3).trans rfl
                          have hcz17_4 : wc.cell? ⟨gb322, 4, none⟩ = some (.bool ((rd_T87 l0 x10_1).f1.f3)) := (blk_cell BK322.out 4).trans rfl
                          have hcz17_5 : wc.cell? ⟨gb322, 5, none⟩ = some (.slice A321_5 ((rd_T87 l0 x10_1).f1.f4).length c321_5) := (blk_cell BK322.out 5).trans rfl
                          have hcz17_6 : wc.cell? ⟨gb322, 6, none⟩ = some (.string ((rd_T87 l0 x10_1).f1.f5)) := (blk_cell BK322.out 6).trans rfl
                          have hcz17_7 : wc.cell? ⟨gb322, 7, none⟩ = some (.string ((rd_T87 l0 x10_1).f1.f6)) := (blk_cell BK322.out 7).trans rfl
                          have hcz17_8 : wc.cell? ⟨gb322, 8, none⟩ = some (.int .i64 ((rd_T87 l0 x10_1).f2)) := (blk_cell BK322.out 8).trans rfl
                          have hcz17_9 : wc.cell? ⟨gb322, 9, none⟩ = some (.int .i64 ((rd_T87 l0 x10_1).f3)) := (blk_cell BK322.out 9).trans rfl
                          have hfz17_0 := blk_frozen BK322.out 0
                          have hfz17_1 := blk_frozen BK322.out 1
                          have hfz17_2 := blk_frozen BK322.out 2
                          have hfz17_3 := blk_frozen BK322.out 3
                          have hfz17_4 := blk_frozen BK322.out 4
                          have hfz17_5 := blk_frozen BK322.out 5
                          have hfz17_6 := blk_frozen BK322.out 6
                          have hfz17_7 := blk_frozen BK322.out 7
                          have hfz17_8 := blk_frozen BK322.out 8
                          have hfz17_9 := blk_frozen BK322.out 9
                          have p323 : 0 ≤ (x5_1 : Int) := of_decide_eq_true (by first | (with_reducible assumption) | assumption)
                          have q323 : x5_1 < (l0.length : Int) := of_decide_eq_true (by first | (with_reducible assumption) | assumption)
                          obtain ⟨ad323, A323_5, c323_5, e323, hx323_0, hx323_1, hx323_2, hx323_3, hx323_4, hx323_5, hx323_6, hx323_7, hx323_8, hx323_9, hl323_5, hi323_5⟩ := at_T87 HR0.out x5_1 p323 q323
                          obtain rfl : ad321 = ad323 := (by injection e323)
                          replace hx323_0 := (HB.out.cell (World.block_lt_of_cell? w _ hx323_0)).trans hx323_0
                          replace hx323_1 := (HB.out.cell (World.block_lt_of_cell? w _ hx323_1)).trans hx323_1
                          replace hx323_2 := (HB.out.cell (World.block_lt_of_cell? w _ hx323_2)).trans hx323_2
                          replace hx323_3 := (HB.out.cell (World.block_lt_of_cell? w _ hx323_3)).trans hx323_3
                          replace hx323_4 := (HB.out.cell (World.block_lt_of_cell? w _ hx323_4)).trans hx323_4
                          replace hx323_5 := (HB.out.cell (World.block_lt_of_cell? w _ hx323_5)).trans hx323_5
                          replace hx323_6 := (HB.out.cell (World.block_lt_of_cell? w _ hx323_6)).trans hx323_6
                          replace hx323_7 := (HB.out.cell (World.block_lt_of_cell? w _ hx323_7)).trans hx323_7
                          replace hx323_8 := (HB.out.cell (World.block_lt_of_cell? w _ hx323_8)).trans hx323_8
                          replace hx323_9 := (HB.out.cell (World.block_lt_of_cell? w _ hx323_9)).trans hx323_9
                          have HR323_5 := Aside0.mk hi323_5
                          have HC323_5 := Aside0.mk hl323_5
                          clear hi323_5 hl323_5
                          replace p323 := eq_true p323
                          replace q323 := eq_true q323
                          go_wp2
                          repeat (go_quiet (fail); try go_wp2)
                          go_roundg kj5
                          case measure => have := HK1.out; have := HJ5.out; omega
                          case rel => exact ⟨(x10_1), (wrap64 (x10_1 + 1)), (by first | rfl | (simp; done) | (simp [*]; done)), (by first | rfl | (simp; done) | (simp [*]; done)), H', ⟨by have := HK1.out; have := HJ5.out; omega⟩, ⟨by repeat (first | (with_reducible first | exact HB.out | apply below_alloc | apply pw_below_drewN | apply below_drew1 | refine below_set ?_ GE322.out) | exact HB.out)⟩⟩
                        · rw [if_neg c16] at H
                          have c16b0 : decide (((rd_T87 l0 x10_1).f3) < ((rd_T87 l0 x5_1).f3)) = false := decide_eq_false c16
                          clear c16
                          by_cases c18 : ((rd_T87 l0 x10_1).f3) = ((rd_T87 l0 x5_1).f3)
                          · rw [if_pos c18] at H
                            have c18b0 : (((rd_T87 l0 x10_1).f3) == ((rd_T87 l0 x5_1).f3)) = true := beq_iff_eq.mpr c18
                            have c18b1 : (((rd_T87 l0 x10_1).f3) != ((rd_T87 l0 x5_1).f3)) = false := bne_eq_false_iff_eq.mpr c18
                            clear c18
                            by_cases c19 : (Op.bytesLess ((rd_T87 l0 x10_1).f0).toList (((rd_T87 l0 x5_1).f0).toList)) = true
                            · rw [if_pos c19] at H
                              have c19b0 : (Op.bytesLess ((rd_T87 l0 x10_1).f0).toList (((rd_T87 l0 x5_1).f0).toList)) = true := c19
                              clear c19
                              have H' := Aside0.mk H
                              clear H
                              have hcz20_0 : wc.cell? ⟨gb322, 0, none⟩ = some (.string ((rd_T87 l0 x10_1).f0)) := (blk_cell BK322.out 0).trans rfl
                              have hcz20_1 : wc.cell? ⟨gb322, 1, none⟩ = some (.string ((rd_T87 l0 x10_1).f1.f0)) := (blk_cell BK322.out 1).trans rfl
                              have hcz20_2 : wc.cell? ⟨gb322, 2, none⟩ = some (.int .i64 ((rd_T87 l0 x10_1).f1.f1)) := (blk_cell BK322.out 2).trans rfl
                              have hcz20_3 : wc.cell? ⟨gb322, 3, none⟩ = some (.int .u8 ((rd_T87 l0 x10_1).f1.f2)) := (blk_cell BK322.out 3).trans rfl
                              have hcz20_4 : wc.cell? ⟨gb322, 4, none⟩ = some (.bool ((rd_T87 l0 x10_1).f1.f3)) := (blk_cell BK322.out 4).trans rfl
                              have hcz20_5 : wc.cell? ⟨gb322, 5, none⟩ = some (.slice A321_5 ((rd_T87 l0 x10_1).f1.f4).length c321_5) := (blk_cell BK322.out 5).trans rfl
                              have hcz20_6 : wc.cell? ⟨gb322, 6, none⟩ = some (.string ((rd_T87 l0 x10_1).f1.f5)) := (blk_cell BK322.out 6).trans rfl
                              have hcz20_7 : wc.cell? ⟨gb322, 7, none⟩ = some (.string ((rd_T87 l0 x10_1).f1.f6)) := (blk_cell BK322.out 7).trans rfl
                              have hcz20_8 : wc.cell? ⟨gb322, 8, none⟩ = some (.int .i64 ((rd_T87 l0 x10_1).f2)) := (blk_cell BK322.out 8).trans rfl
                              have hcz20_9 : wc.cell? ⟨gb322, 9, none⟩ = some (.int .i64 ((rd_T87 l0 x10_1).f3)) := (blk_cell BK322.out 9).trans rfl
                              have hfz20_0 := blk_frozen BK322.out 0
                              have hfz20_1 := blk_frozen BK322.out 1
                              have hfz20_2 := blk_frozen BK322.out 2
                              have hfz20_3 := blk_frozen BK322.out 3
                              have hfz20_4 := blk_frozen BK322.out 4
                              have hfz20_5 := blk_frozen BK322.out 5
                              have hfz20_6 := blk_frozen BK322.out 6
                              have hfz20_7 := blk_frozen BK322.out 7
                              have hfz20_8 := blk_frozen BK322.out 8
                              have hfz20_9 := blk_frozen BK322.out 9
                              have p323 : 0 ≤ (x5_1 : Int) := of_decide_eq_true (by first | (with_reducible assumption) | assumption)
                              have q323 : x5_1 < (l0.length : Int) := of_decide_eq_true (by first | (with_reducible assumption) | assumption)
                              obtain ⟨ad323, A323_5, c323_5, e323, hx323_0, hx323_1, hx323_2, hx323_3, hx323_4, hx323_5, hx323_6, hx323_7, hx323_8, hx323_9, hl323_5, hi323_5⟩ := at_T87 HR0.out x5_1 p323 q323
                              obtain rfl : ad321 = ad323 := (by injection e323)
                              replace hx323_0 := (HB.out.cell (World.block_lt_of_cell? w _ hx323_0)).trans hx323_0
                              replace hx323_1 := (HB.out.cell (World.block_lt_of_cell? w _ hx323_1)).trans hx323_1
                              replace hx323_2 := (HB.out.cell (World.block_lt_of_cell? w _ hx323_2)).trans hx323_2
                              replace hx323_3 := (HB.out.cell (World.block_lt_of_cell? w _ hx323_3)).trans hx323_3
                              replace hx323_4 := (HB.out.cell (World.block_lt_of_cell? w _ hx323_4)).trans hx323_4
                              replace hx323_5 := (HB.out.cell (World.block_lt_of_cell? w _ hx323_5)).trans hx323_5
                              replace hx323_6 := (HB.out.cell (World.block_lt_of_cell? w _ hx323_6)).trans hx323_6
                              replace hx323_7 := (HB.out.cell (World.block_lt_of_cell? w _ hx323_7)).trans hx323_7
                              replace hx323_8 := (HB.out.cell (World.block_lt_of_cell? w _ hx323_8)).trans hx323_8
                              replace hx323_9 := (HB.out.cell (World.block_lt_of_cell? w _ hx323_9)).trans hx323_9
                              have HR323_5 := Aside0.mk hi323_5
                              have HC323_5 := Aside0.mk hl323_5
                              clear hi323_5 hl323_5
                              replace p323 := eq_true p323
                              replace q323 := eq_true q323
                              have p324 : 0 ≤ (x5_1 : Int) := of_decide_eq_true (by first | (with_reducible assumption) | assumption)
                              have q324 : x5_1 < (l0.length : Int) := of_decide_eq_true (by first | (with_reducible assumption) | assumption)
                              obtain ⟨ad324, A324_5, c324_5, e324, hx324_0, hx324_1, hx324_2, hx324_3, hx324_4, hx324_5, hx324_6, hx324_7, hx324_8, hx324_9, hl324_5, hi324_5⟩ := at_T87 HR0.out x5_1 p324 q324
                              obtain rfl : ad321 = ad324 := (by injection e324)
                              replace hx324_0 := (HB.out.cell (World.block_lt_of_cell? w _ hx324_0)).trans hx324_0
                              replace hx324_1 := (HB.out.cell (World.block_lt_of_cell? w _ hx324_1)).trans hx324_1
                              replace hx324_2 := (HB.out.cell (World.block_lt_of_cell? w _ hx324_2)).trans hx324_2
                              replace hx324_3 := (HB.out.cell (World.block_lt_of_cell? w _ hx324_3)).trans hx324_3
                              replace hx324_4 := (HB.out.cell (World.block_lt_of_cell? w _ hx324_4)).trans hx324_4
                              replace hx324_5 := (HB.out.cell (World.block_lt_of_cell? w _ hx324_5)).trans hx324_5
                              replace hx324_6 := (HB.out.cell (World.block_lt_of_cell? w _ hx324_6)).trans hx324_6
                              replace hx324_7 := (HB.out.cell (World.block_lt_of_cell? w _ hx324_7)).trans hx324_7
                              replace hx324_8 := (HB.out.cell (World.block_lt_of_cell? w _ hx324_8)).trans hx324_8
                              replace hx324_9 := (HB.out.cell (World.block_lt_of_cell? w _ hx324_9)).trans hx324_9
                              have HR324_5 := Aside0.mk hi324_5
                              have HC324_5 := Aside0.mk hl324_5
                              clear hi324_5 hl324_5
                              replace p324 := eq_true p324
                              replace q324 := eq_true q324
                              have ea_ := Option.some.inj (hx323_5.symm.trans hx324_5)
                              injection ea_ with ea_ en_ ec_
                              subst ea_
                              subst ec_
                              clear en_
                              have p325 : 0 ≤ (x5_1 : Int) := of_decide_eq_true (by first | (with_reducible assumption) | assumption)
                              have q325 : x5_1 < (l0.length : Int) := of_decide_eq_true (by first | (with_reducible assumption) | assumption)
                              obtain ⟨ad325, A325_5, c325_5, e325, hx325_0, hx325_1, hx325_2, hx325_3, hx325_4, hx325_5, hx325_6, hx325_7, hx325_8, hx325_9, hl325_5, hi325_5⟩ := at_T87 HR0.out x5_1 p325 q325
                              obtain rfl : ad321 = ad325 := (by injection e325)
                              replace hx325_0 := (HB.out.cell (World.block_lt_of_cell? w _ hx325_0)).trans hx325_0
                              replace hx325_1 := (HB.out.cell (World.block_lt_of_cell? w _ hx325_1)).trans hx325_1
                              replace hx325_2 := (HB.out.cell (World.block_lt_of_cell? w _ hx325_2)).trans hx325_2
                              replace hx325_3 := (HB.out.cell (World.block_lt_of_cell? w _ hx325_3)).trans hx325_3
                              replace hx325_4 := (HB.out.cell (World.block_lt_of_cell? w _ hx325_4)).trans hx325_4
                              replace hx325_5 := (HB.out.cell (World.block_lt_of_cell? w _ hx325_5)).trans hx325_5
                              replace hx325_6 := (HB.out.cell (World.block_lt_of_cell? w _ hx325_6)).trans hx325_6
                              replace hx325_7 := (HB.out.cell (World.block_lt_of_cell? w _ hx325_7)).trans hx325_7
                              replace hx325_8 := (HB.out.cell (World.block_lt_of_cell? w _ hx325_8)).trans hx325_8
                              replace hx325_9 := (HB.out.cell (World.block_lt_of_cell? w _ hx325_9)).trans hx325_9
                              have HR325_5 := Aside0.mk hi325_5
                              have HC325_5 := Aside0.mk hl325_5
                              clear hi325_5 hl325_5
                              replace p325 := eq_true p325
                              replace q325 := eq_true q325
                              have ea_ := Option.some.inj (hx323_5.symm.trans hx325_5)
                              injection ea_ with ea_ en_ ec_
                              subst ea_
                              subst ec_
                              clear en_
                              go_wp2
                              repeat (go_quiet (fail); try go_wp2)
                              go_roundg kj5
                              case measure => have := HK1.out; have := HJ5.out; omega
                              case rel => exact ⟨(x10_1), (wrap64 (x10_1 + 1)), (by first | rfl | (simp; done) | (simp [*]; done)), (by first | rfl | (simp; done) | (simp [*]; done)), H', ⟨by have := HK1.out; have := HJ5.out; omega⟩, ⟨by repeat (first | (with_reducible first | exact HB.out | apply below_alloc | apply pw_below_drewN | apply below_drew1 | refine below_set ?_ GE322.out) | exact HB.out)⟩⟩
                            · rw [if_neg c19] at H
                              have c19b0 : (Op.bytesLess ((rd_T87 l0 x10_1).f0).toList (((rd_T87 l0 x5_1).f0).toList)) = false := by simpa using c19
                              clear c19
                              have H' := Aside0.mk H
                              clear H
                              have hcz21_0 : wc.cell? ⟨gb322, 0, none⟩ = some (.string ((rd_T87 l0 x10_1).f0)) := (blk_cell BK322.out 0).trans rfl
                              have hcz21_1 : wc.cell? ⟨gb322, 1, none⟩ = some (.string ((rd_T87 l0 x10_1).f1.f0)) := (blk_cell BK322.out 1).trans rfl
                              have hcz21_2 : wc.cell? ⟨gb322, 2, none⟩ = some (.int .i64 ((rd_T87 l0 x10_1).f1.f1)) := (blk_cell BK322.out 2).trans rfl
                              have hcz21_3 : wc.cell? ⟨gb322, 3, none⟩ = some (.int .u8 ((rd_T87 l0 x10_1).f1.f2)) := (blk_cell BK322.out 3).trans rfl
                              have hcz21_4 : wc.cell? ⟨gb322, 4, none⟩ = some (.bool ((rd_T87 l0 x10_1).f1.f3)) := (blk_cell BK322.out 4).trans rfl
                              have hcz21_5 : wc.cell? ⟨gb322, 5, none⟩ = some (.slice A321_5 ((rd_T87 l0 x10_1).f1.f4).length c321_5) := (blk_cell BK322.out 5).trans rfl
                              have hcz21_6 : wc.cell? ⟨gb322, 6, none⟩ = some (.string ((rd_T87 l0 x10_1).f1.f5)) := (blk_cell BK322.out 6).trans rfl
                              have hcz21_7 : wc.cell? ⟨gb322, 7, none⟩ = some (.string ((rd_T87 l0 x10_1).f1.f6)) := (blk_cell BK322.out 7).trans rfl
                              have hcz21_8 : wc.cell? ⟨gb322, 8, none⟩ = some (.int .i64 ((rd_T87 l0 x10_1).f2)) := (blk_cell BK322.out 8).trans rfl
                              have hcz21_9 : wc.cell? ⟨gb322, 9, none⟩ = some (.int .i64 ((rd_T87 l0 x10_1).f3)) := (blk_cell BK322.out 9).trans rfl
                              have hfz21_0 := blk_frozen BK322.out 0
                              have hfz21_1 := blk_frozen BK322.out 1
                              have hfz21_2 := blk_frozen BK322.out 2
                              have hfz21_3 := blk_frozen BK322.out 3
                              have hfz21_4 := blk_frozen BK322.out 4
                              have hfz21_5 := blk_frozen BK322.out 5
                              have hfz21_6 := blk_frozen BK322.out 6
                              have hfz21_7 := blk_frozen BK322.out 7
                              have hfz21_8 := blk_frozen BK322.out 8
                              have hfz21_9 := blk_frozen BK322.out 9
                              have p323 : 0 ≤ (x5_1 : Int) := of_decide_eq_true (by first | (with_reducible assumption) | assumption)
                              have q323 : x5_1 < (l0.length : Int) := of_decide_eq_true (by first | (with_reducible assumption) | assumption)
                              obtain ⟨ad323, A323_5, c323_5, e323, hx323_0, hx323_1, hx323_2, hx323_3, hx323_4, hx323_5, hx323_6, hx323_7, hx323_8, hx323_9, hl323_5, hi323_5⟩ := at_T87 HR0.out x5_1 p323 q323
                              obtain rfl : ad321 = ad323 := (by injection e323)
                              replace hx323_0 := (HB.out.cell (World.block_lt_of_cell? w _ hx323_0)).trans hx323_0
                              replace hx323_1 := (HB.out.cell (World.block_lt_of_cell? w _ hx323_1)).trans hx323_1
                              replace hx323_2 := (HB.out.cell (World.block_lt_of_cell? w _ hx323_2)).trans hx323_2
                              replace hx323_3 := (HB.out.cell (World.block_lt_of_cell? w _ hx323_3)).trans hx323_3
                              replace hx323_4 := (HB.out.cell (World.block_lt_of_cell? w _ hx323_4)).trans hx323_4
                              replace hx323_5 := (HB.out.cell (World.block_lt_of_cell? w _ hx323_5)).trans hx323_5
                              replace hx323_6 := (HB.out.cell (World.block_lt_of_cell? w _ hx323_6)).trans hx323_6
                              replace hx323_7 := (HB.out.cell (World.block_lt_of_cell? w _ hx323_7)).trans hx323_7
                              replace hx323_8 := (HB.out.cell (World.block_lt_of_cell? w _ hx323_8)).trans hx323_8
                              replace hx323_9 := (HB.out.cell (World.block_lt_of_cell? w _ hx323_9)).trans hx323_9
                              have HR323_5 := Aside0.mk hi323_5
                              have HC323_5 := Aside0.mk hl323_5
                              clear hi323_5 hl323_5
                              replace p323 := eq_true p323
                              replace q323 := eq_true q323
                              have p324 : 0 ≤ (x5_1 : Int) := of_decide_eq_true (by first | (with_reducible assumption) | assumption)
                              have q324 : x5_1 < (l0.length : Int) := of_decide_eq_true (by first | (with_reducible assumption) | assumption)
                              obtain ⟨ad324, A324_5, c324_5, e324, hx324_0, hx324_1, hx324_2, hx324_3, hx324_4, hx324_5, hx324_6, hx324_7, hx324_8, hx324_9, hl324_5, hi324_5⟩ := at_T87 HR0.out x5_1 p324 q324
                              obtain rfl : ad321 = ad324 := (by injection e324)
                              replace hx324_0 := (HB.out.cell (World.block_lt_of_cell? w _ hx324_0)).trans hx324_0
                              replace hx324_1 := (HB.out.cell (World.block_lt_of_cell? w _ hx324_1)).trans hx324_1
                              replace hx324_2 := (HB.out.cell (World.block_lt_of_cell? w _ hx324_2)).trans hx324_2
                              replace hx324_3 := (HB.out.cell (World.block_lt_of_cell? w _ hx324_3)).trans hx324_3
                              replace hx324_4 := (HB.out.cell (World.block_lt_of_cell? w _ hx324_4)).trans hx324_4
                              replace hx324_5 := (HB.out.cell (World.block_lt_of_cell? w _ hx324_5)).trans hx324_5
                              replace hx324_6 := (HB.out.cell (World.block_lt_of_cell? w _ hx324_6)).trans hx324_6
                              replace hx324_7 := (HB.out.cell (World.block_lt_of_cell? w _ hx324_7)).trans hx324_7
                              replace hx324_8 := (HB.out.cell (World.block_lt_of_cell? w _ hx324_8)).trans hx324_8
                              replace hx324_9 := (HB.out.cell (World.block_lt_of_cell? w _ hx324_9)).trans hx324_9
                              have HR324_5 := Aside0.mk hi324_5
                              have HC324_5 := Aside0.mk hl324_5
                              clear hi324_5 hl324_5
                              replace p324 := eq_true p324
                              replace q324 := eq_true q324
                              have ea_ := Option.some.inj (hx323_5.symm.trans hx324_5)
                              injection ea_ with ea_ en_ ec_
                              subst ea_
                              subst ec_
                              clear en_
                              have p325 : 0 ≤ (x5_1 : Int) := of_decide_eq_true (by first | (with_reducible assumption) | assumption)
                              have q325 : x5_1 < (l0.length : Int) := of_decide_eq_true (by first | (with_reducible assumption) | assumption)
                              obtain ⟨ad325, A325_5, c325_5, e325, hx325_0, hx325_1, hx325_2, hx325_3, hx325_4, hx325_5, hx325_6, hx325_7, hx325_8, hx325_9, hl325_5, hi325_5⟩ := at_T87 HR0.out x5_1 p325 q325
                              obtain rfl : ad321 = ad325 := (by injection e325)
                              replace hx325_0 := (HB.out.cell (World.block_lt_of_cell? w _ hx325_0)).trans hx325_0
                              replace hx325_1 := (HB.out.cell (World.block_lt_of_cell? w _ hx325_1)).trans hx325_1
                              replace hx325_2 := (HB.out.cell (World.block_lt_of_cell? w _ hx325_2)).trans hx325_2
                              replace hx325_3 := (HB.out.cell (World.block_lt_of_cell? w _ hx325_3)).trans hx325_3
                              replace hx325_4 := (HB.out.cell (World.block_lt_of_cell? w _ hx325_4)).trans hx325_4
                              replace hx325_5 := (HB.out.cell (World.block_lt_of_cell? w _ hx325_5)).trans hx325_5
                              replace hx325_6 := (HB.out.cell (World.block_lt_of_cell? w _ hx325_6)).trans hx325_6
                              replace hx325_7 := (HB.out.cell (World.block_lt_of_cell? w _ hx325_7)).trans hx325_7
                              replace hx325_8 := (HB.out.cell (World.block_lt_of_cell? w _ hx325_8)).trans hx325_8
                              replace hx325_9 := (HB.out.cell (World.block_lt_of_cell? w _ hx325_9)).trans hx325_9
                              have HR325_5 := Aside0.mk hi325_5
                              have HC325_5 := Aside0.mk hl325_5
                              clear hi325_5 hl325_5
                              replace p325 := eq_true p325
                              replace q325 := eq_true q325
                              have ea_ := Option.some.inj (hx323_5.symm.trans hx325_5)
                              injection ea_ with ea_ en_ ec_
                              subst ea_
                              subst ec_
                              clear en_
                              go_wp2
                              repeat (go_quiet (fail); try go_wp2)
                              go_roundg kj5
                              case measure => have := HK1.out; have := HJ5.out; omega
                              case rel => exact ⟨(x5_1), (wrap64 (x10_1 + 1)), (by first | rfl | (simp; done) | (simp [*]; done)), (by first | rfl | (simp; done) | (simp [*]; done)), H', ⟨by have := HK1.out; have := HJ5.out; omega⟩, ⟨by repeat (first | (with_reducible first | exact HB.out | apply below_alloc | apply pw_below_drewN | apply below_drew1 | refine below_set ?_ GE322.out) | exact HB.out)⟩⟩
                          · rw [if_neg c18] at H
                            have c18b0 : (((rd_T87 l0 x10_1).f3) == ((rd_T87 l0 x5_1).f3)) = false := beq_eq_false_iff_ne.mpr c18
                            have c18b1 : (((rd_T87 l0 x10_1).f3) != ((rd_T87 l0 x5_1).f3)) = true := bne_iff_ne.mpr c18
                            have H' := Aside0.mk H
                            clear H
                            have hcz22_0 : wc.cell? ⟨gb322, 0, none⟩ = some (.string ((rd_T87 l0 x10_1).f0)) := (blk_cell BK322.out 0).trans rfl
                            have hcz22_1 : wc.cell? ⟨gb322, 1, none⟩ = some (.string ((rd_T87 l0 x10_1).f1.f0)) := (blk_cell BK322.out 1).trans rfl
                            have hcz22_2 : wc.cell? ⟨gb322, 2, none⟩ = some (.int .i64 ((rd_T87 l0 x10_1).f1.f1)) := (blk_cell BK322.out 2).trans rfl
                            have hcz22_3 : wc.cell? ⟨gb322, 3, none⟩ = some (.int .u8 ((rd_T87 l0 x10_1).f1.f2)) := (blk_cell BK322.out 3).trans rfl
                            have hcz22_4 : wc.cell? ⟨gb322, 4, none⟩ = some (.bool ((rd_T87 l0 x10_1).f1.f3)) := (blk_cell BK322.out 4).trans rfl
                            have hcz22_5 : wc.cell? ⟨gb322, 5, none⟩ = some (.slice A321_5 ((rd_T87 l0 x10_1).f1.f4).length c321_5) := (blk_cell BK322.out 5).trans rfl
                            have hcz22_6 : wc.cell? ⟨gb322, 6, none⟩ = some (.string ((rd_T87 l0 x10_1).f1.f5)) := (blk_cell BK322.out 6).trans rfl
                            have hcz22_7 : wc.cell? ⟨gb322, 7, none⟩ = some (.string ((rd_T87 l0 x10_1).f1.f6)) := (blk_cell BK322.out 7).trans rfl
                            have hcz22_8 : wc.cell? ⟨gb322, 8, none⟩ = some (.int .i64 ((rd_T87 l0 x10_1).f2)) := (blk_cell BK322.out 8).trans rfl
                            have hcz22_9 : wc.cell? ⟨gb322, 9, none⟩ = some (.int .i64 ((rd_T87 l0 x10_1).f3)) := (blk_cell BK322.out 9).trans rfl
                            have hfz22_0 := blk_frozen BK322.out 0
                            have hfz22_1 := blk_frozen BK322.out 1
                            have hfz22_2 := blk_frozen BK322.out 2
                            have hfz22_3 := blk_frozen BK322.out 3
                            have hfz22_4 := blk_frozen BK322.out 4
                            have hfz22_5 := blk_frozen BK322.out 5
                            have hfz22_6 := blk_frozen BK322.out 6
                            have hfz22_7 := blk_frozen BK322.out 7
                            have hfz22_8 := blk_frozen BK322.out 8
                            have hfz22_9 := blk_frozen BK322.out 9
                            have p323 : 0 ≤ (x5_1 : Int) := of_decide_eq_true (by first | (with_reducible assumption) | assumption)
                            have q323 : x5_1 < (l0.length : Int) := of_decide_eq_true (by first | (with_reducible assumption) | assumption)
                            obtain ⟨ad323, A323_5, c323_5, e323, hx323_0, hx323_1, hx323_2, hx323_3, hx323_4, hx323_5, hx323_6, hx323_7, hx323_8, hx323_9, hl323_5, hi323_5⟩ := at_T87 HR0.out x5_1 p323 q323
                            obtain rfl : ad321 = ad323 := (by injection e323)
                            replace hx323_0 := (HB.out.cell (World.block_lt_of_cell? w _ hx323_0)).trans hx323_0
                            replace hx323_1 := (HB.out.cell (World.block_lt_of_cell? w _ hx323_1)).trans hx323_1
                            replace hx323_2 := (HB.out.cell (World.block_lt_of_cell? w _ hx323_2)).trans hx323_2
                            replace hx323_3 := (HB.out.cell (World.block_lt_of_cell? w _ hx323_3)).trans hx323_3
                            replace hx323_4 := (HB.out.cell (World.block_lt_of_cell? w _ hx323_4)).trans hx323_4
                            replace hx323_5 := (HB.out.cell (World.block_lt_of_cell? w _ hx323_5)).trans hx323_5
                            replace hx323_6 := (HB.out.cell (World.block_lt_of_cell? w _ hx323_6)).trans hx323_6
                            replace hx323_7 := (HB.out.cell (World.block_lt_of_cell? w _ hx323_7)).trans hx323_7
                            replace hx323_8 := (HB.out.cell (World.block_lt_of_cell? w _ hx323_8)).trans hx323_8
                            replace hx323_9 := (HB.out.cell (World.block_lt_of_cell? w _ hx323_9)).trans hx323_9
                            have HR323_5 := Aside0.mk hi323_5
                            have HC323_5 := Aside0.mk hl323_5
                            clear hi323_5 hl323_5
                            replace p323 := eq_true p323
                            replace q323 := eq_true q323
                            have p324 : 0 ≤ (x5_1 : Int) := of_decide_eq_true (by first | (with_reducible assumption) | assumption)
                            have q324 : x5_1 < (l0.length : Int) := of_decide_eq_true (by first | (with_reducible assumption) | assumption)
                            obtain ⟨ad324, A324_5, c324_5, e324, hx324_0, hx324_1, hx324_2, hx324_3, hx324_4, hx324_5, hx324_6, hx324_7, hx324_8, hx324_9, hl324_5, hi324_5⟩ := at_T87 HR0.out x5_1 p324 q324
                            obtain rfl : ad321 = ad324 := (by injection e324)
                            replace hx324_0 := (HB.out.cell (World.block_lt_of_cell? w _ hx324_0)).trans hx324_0
                            replace hx324_1 := (HB.out.cell (World.block_lt_of_cell? w _ hx324_1)).trans hx324_1
                            replace hx324_2 := (HB.out.cell (World.block_lt_of_cell? w _ hx324_2)).trans hx324_2
                            replace hx324_3 := (HB.out.cell (World.block_lt_of_cell? w _ hx324_3)).trans hx324_3
                            replace hx324_4 := (HB.out.cell (World.block_lt_of_cell? w _ hx324_4)).trans hx324_4
                            replace hx324_5 := (HB.out.cell (World.block_lt_of_cell? w _ hx324_5)).trans hx324_5
                            replace hx324_6 := (HB.out.cell (World.block_lt_of_cell? w _ hx324_6)).trans hx324_6
                            replace hx324_7 := (HB.out.cell (World.block_lt_of_cell? w _ hx324_7)).trans hx324_7
                            replace hx324_8 := (HB.out.cell (World.block_lt_of_cell? w _ hx324_8)).trans hx324_8
                            replace hx324_9 := (HB.out.cell (World.block_lt_of_cell? w _ hx324_9)).trans hx324_9
                            have HR324_5 := Aside0.mk hi324_5
                            have HC324_5 := Aside0.mk hl324_5
                            clear hi324_5 hl324_5
                            replace p324 := eq_true p324
                            replace q324 := eq_true q324
                            have ea_ := Option.some.inj (hx323_5.symm.trans hx324_5)
                            injection ea_ with ea_ en_ ec_
                            subst ea_
                            subst ec_
                            clear en_
                            go_wp2
                            repeat (go_quiet (fail); try go_wp2)
                            go_roundg kj5
                            case measure => have := HK1.out; have := HJ5.out; omega
                            case rel => exact ⟨(x5_1), (wrap64 (x10_1 + 1)), (by first | rfl | (simp; done) | (simp [*]; done)), (by first | rfl | (simp; done) | (simp [*]; done)), H', ⟨by have := HK1.out; have := HJ5.out; omega⟩, ⟨by repeat (first | (with_reducible first | exact HB.out | apply below_alloc | apply pw_below_drewN | apply below_drew1 | refine below_set ?_ GE322.out) | exact HB.out)⟩⟩
                      · rw [if_neg c15] at H
                        exact absurd H (by simp)
                    · rw [if_neg c14] at H
                      exact absurd H (by simp)
          · rw [if_neg c5] at H
            exact absurd H (by simp)
        · rw [if_neg c4] at H
          exact absurd H (by simp)
      · rw [if_neg c3] at H
        have c3b0 : decide (x10_1 < (l0.length : Int)) = false := decide_eq_false c3
        clear c3
        obtain rfl := Option.some.inj H
        go_wp2
        repeat (go_quiet (fail); try go_wp2)
        go_ret
        exact ⟨by first | rfl | (simp [errW_none, errW_some] <;> rfl) | (simp [*, errW_none, errW_some] <;> rfl), by repeat (first | (with_reducible first | exact HB.out | apply below_alloc | apply pw_below_drewN | apply below_drew1) | exact HB.out)⟩
end Go.Proofs.Ytegnmdnflmlioaa.PWillPlays
