import Derived.Test.YtegnmdnflmlioaaPWillPlaysx0
import Derived.Test.YtegnmdnflmlioaaP9
namespace Go.Proofs.Ytegnmdnflmlioaa.PWillPlays
open Go.RowKit Go.Proofs.YtegnmdnflmlioaaW.PrintWords Go.Proofs.YtegnmdnflmlioaaW.PrintLast Go.Proofs.YtegnmdnflmlioaaW.PrintMore
attribute [local go_sem] max2_int min2_int max_two min_two max_three min_three max_four min_four
set_option linter.unusedVariables false
set_option linter.unusedSimpArgs false
def switchboardlaw22_told.f (k : Nat) (l0_0 : List (S29)) (a0_1 : ByteArray) (a0_2 : ByteArray) (a0_3 : Int) (a0_4 : Bool) : Option ((List (S100)) × ByteArray × ByteArray × Int × Bool) := (switchboardlaw03_Told.f k l0_0).bind fun t309 => (some (t309, a0_1, a0_2, a0_3, a0_4))
theorem switchboardlaw22_told.mono : ∀ a0 a1 a2 a3 a4 k, LeO (switchboardlaw22_told.f k a0 a1 a2 a3 a4) (switchboardlaw22_told.f (k + 1) a0 a1 a2 a3 a4) := by
  intro a0 a1 a2 a3 a4 k
  unfold switchboardlaw22_told.f
  repeat' first
      | (with_reducible exact switchboardlaw03_Told.mono _ _)
      | (with_reducible exact LeO.refl _)
      | (with_reducible exact LeO.none _)
      | (with_reducible refine LeO.ite ?_ ?_)
      | (with_reducible refine LeO.bind ?_ (fun _ => ?_))
      | exact switchboardlaw03_Told.mono _ _
      | exact LeO.none _
      | refine LeO.ite ?_ ?_
      | refine LeO.bind ?_ (fun _ => ?_)
def switchboardlaw22_told.T1 : Bool × List (List Nat × List Nat) := (true, [([], []), ([0], [0]), ([1], [1]), ([], []), ([3], [3]), ([], []), ([5], [5]), ([], []), ([7], [7]), ([], []), ([9], [9]), ([2, 4, 6, 8, 10], [2, 4, 6, 8, 10]), ([11, 2, 0, 1, 2, 3, 4, 5, 6, 7, 8, 9, 10, 11], [11])])
def switchboardlaw22_told.B1 : List Nat := [0, 1, 3, 0, 8, 0, 32, 0, 128, 0, 512, 2047, 4095]
theorem switchboardlaw22_told.tab1 : rtab .any (opsOf Try.f15 1) = switchboardlaw22_told.T1 := by kernel_rfl
theorem switchboardlaw22_told.bits1 : waitsOk switchboardlaw22_told.T1.2 switchboardlaw22_told.B1 = true := by kernel_rfl
set_option maxHeartbeats 8000000 in
set_option maxRecDepth 100000 in
theorem switchboardlaw22_told.calls (k : Nat) (A0_0 : Option Addr) (c0_0 : Nat) (l0_0 : List (S29)) (a0_1 : ByteArray) (a0_2 : ByteArray) (a0_3 : Int) (a0_4 : Bool) (r1 : List (S100)) (r2 : ByteArray) (r3 : ByteArray) (r4 : Int) (r5 : Bool) (w : World) (hr0_0 : Kd.C k29 w A0_0 l0_0.length l0_0) (hc0_0 : l0_0.length ≤ c0_0) (h : switchboardlaw22_told.f k l0_0 a0_1 a0_2 a0_3 a0_4 = some (r1, r2, r3, r4, r5)) :
    Calls Try.prog 15 #[.agg #[.slice A0_0 l0_0.length c0_0, .string a0_1, .string a0_2, .int .u8 a0_3, .bool a0_4]] w fun e w' => ∃ v0_ : Value, e = .returned (.agg #[v0_, .string r2, .string r3, .int .u8 r4, .bool r5]) ∧ Kd.R k100 100 w' w.heap.size (fun _ => True) v0_ r1 ∧ Below w.heap.size w w' := by
  have hu33 := Try.underlying33
  have hu50 := Try.underlying50
  have HR0_0 := Aside0.mk hr0_0
  have HC0_0 := Aside0.mk hc0_0
  clear hr0_0 hc0_0
  have HB := Aside0.mk (Below.refl w.heap.size w)
  have H : ((switchboardlaw03_Told.f k l0_0).bind fun t309 => (some (t309, a0_1, a0_2, a0_3, a0_4))) = some (r1, r2, r3, r4, r5) := h
  clear h
  replace H := Option.bind_eq_some_iff.mp H
  obtain ⟨t309, A20, H⟩ := H
  replace H : (some (t309, a0_1, a0_2, a0_3, a0_4)) = some (r1, r2, r3, r4, r5) := H
  have A2 := Aside0.mk A20
  clear A20
  simp only [Option.some.injEq, Prod.mk.injEq] at H
  obtain ⟨rfl, rfl, rfl, rfl, rfl⟩ := H
  go_enter Try.func15, Try.ntmps15
  try go_wp2_with (first | ((with_reducible refine gate_dst (N := 1) rfl ?_); refine box_event ?hg (N := 1) ?hd (cs := #[.slice A0_0 l0_0.length c0_0, .string a0_1, .string a0_2, .int .u8 a0_3, .bool a0_4]) (t := 33) ?hr ?_; (case hd => rfl); (case hg => rfl); (case hr => first | (go_simp; done) | (go_simp; rfl)); intro gb307 hg w3 hbox hb; have n0_ := Aside0.mk (below_step (by repeat (first | (with_reducible first | exact HB.out | apply below_alloc | apply pw_below_drewN | apply below_drew1) | exact HB.out)) hb); have n1_ := Aside0.mk (hbox); have n2_ := Aside0.mk ((by rw [hg]; exact (below_size (by repeat (first | (with_reducible first | exact HB.out | apply below_alloc | apply pw_below_drewN | apply below_drew1) | exact HB.out))) : w.heap.size ≤ gb307)); have n3_ := Aside0.mk ((by rw [hg]; exact (below_size (by repeat (first | (with_reducible first | exact HB.out | apply below_alloc | apply pw_below_drewN | apply below_drew1) | exact HB.out))) : w.heap.size ≤ gb307)); clear HB; have HB := n0_; have BK307 := n1_; have GW307 := n2_; have GE307 := n3_; clear n0_ n1_ n2_ n3_; clear hb hbox hg) | ((with_reducible refine gate_dst (N := 2) rfl ?_); refine box_event ?hg (N := 2) ?hd (cs := #[.slice none 0 0, .string (⟨#[]⟩ : ByteArray), .string (⟨#[]⟩ : ByteArray), .int .u8 0, .bool false]) (t := 50) ?hr ?_; (case hd => rfl); (case hg => rfl); (case hr => first | (go_simp; done) | (go_simp; rfl)); intro gb308 hg w4 hbox hb; have n0_ := Aside0.mk (blk_below (g := gb307) (o := .cells #[.slice A0_0 l0_0.length c0_0, .string a0_1, .string a0_2, .int .u8 a0_3, .bool a0_4] 33 (0, 0)) (by (with_reducible repeat (first | refine blk_drewN ?_ _ | refine blk_drew ?_ | refine blk_alloc ?_ _)); exact BK307.out) hb); have n1_ := Aside0.mk (below_step (by repeat (first | (with_reducible first | exact HB.out | apply below_alloc | apply pw_below_drewN | apply below_drew1 | refine below_set ?_ GE307.out) | exact HB.out)) hb); have n2_ := Aside0.mk (hbox); have n3_ := Aside0.mk ((by rw [hg]; exact (below_size (by repeat (first | (with_reducible first | exact HB.out | apply below_alloc | apply pw_below_drewN | apply below_drew1 | refine below_set ?_ GE307.out) | exact HB.out))) : w.heap.size ≤ gb308)); have n4_ := Aside0.mk ((by rw [hg]; exact (below_size (by repeat (first | (with_reducible first | exact HB.out | apply below_alloc | apply pw_below_drewN | apply below_drew1 | refine below_set ?_ GE307.out) | exact HB.out))) : w.heap.size ≤ gb308)); have n5_ := Aside0.mk ((by rw [hg]; exact Nat.ne_of_lt (blk_lt (g := gb307) (o := .cells #[.slice A0_0 l0_0.length c0_0, .string a0_1, .string a0_2, .int .u8 a0_3, .bool a0_4] 33 (0, 0)) (by (with_reducible repeat (first | refine blk_drewN ?_ _ | refine blk_drew ?_ | refine blk_alloc ?_ _)); exact BK307.out)) : gb307 ≠ gb308)); have n6_ := Aside0.mk ((by rw [hg]; exact Nat.ne_of_gt (blk_lt (g := gb307) (o := .cells #[.slice A0_0 l0_0.length c0_0, .string a0_1, .string a0_2, .int .u8 a0_3, .bool a0_4] 33 (0, 0)) (by (with_reducible repeat (first | refine blk_drewN ?_ _ | refine blk_drew ?_ | refine blk_alloc ?_ _)); exact BK307.out)) : gb308 ≠ gb307)); clear BK307; clear HB; have BK307 := n0_; have HB := n1_; have BK308 := n2_; have GW308 := n3_; have GE308 := n4_; have NB307_308 := n5_; have NB308_307 := n6_; clear n0_ n1_ n2_ n3_ n4_ n5_ n6_; clear hb hbox hg))
  have n0_ := Aside0.mk (blk_drew BK307.out)
  have n1_ := Aside0.mk (blk_drew BK308.out)
  have n2_ := Aside0.mk (below_drew1 HB.out)
  clear BK307
  clear BK308
  clear HB
  have BK307 := n0_
  have BK308 := n1_
  have HB := n2_
  clear n0_ n1_ n2_
  refine start_ (n := 13) (S := fun w' => w'.cell? ⟨gb307, 0, none⟩ = some (.slice A0_0 l0_0.length c0_0) ∧ w'.cell? ⟨gb307, 1, none⟩ = some (.string a0_1) ∧ w'.cell? ⟨gb307, 2, none⟩ = some (.string a0_2) ∧ w'.cell? ⟨gb307, 3, none⟩ = some (.int .u8 a0_3) ∧ w'.cell? ⟨gb307, 4, none⟩ = some (.bool a0_4)) (ds := []) #[false, false, false, false, false, false, false, false, false, false, false, false, false] (by kernel_rfl) rfl rfl ⟨(blk_cell BK307.out 0).trans rfl, (blk_cell BK307.out 1).trans rfl, (blk_cell BK307.out 2).trans rfl, (blk_cell BK307.out 3).trans rfl, (blk_cell BK307.out 4).trans rfl⟩ (fun hHeld => ?_); refine with_tabW switchboardlaw22_told.tab1 switchboardlaw22_told.bits1 (fun HT_ HW_ => ?_)
  generalize w4.drew = w5 at BK307 BK308 HB hHeld ⊢
  refine pure_ (i := 0) (N := some 3) (v := ?_) (a' := ?_) #[true, false, false, false, false, false, false, false, false, false, false, false, false] rfl rfl (any_of HT_.out (by kernel_rfl)) (fun _ _ _ h => h) (Or.inl ⟨by rfl, ?_⟩) ?_ ?_
  rotate_left
  · intro w'
    go_simp
    with_reducible rfl
  rotate_left
  · simp only [Act.put, List.setIfInBounds_toArray, List.set_cons_zero, List.set_cons_succ, i64_w, i32_w]
    rfl
  refine pure_ (i := 3) (N := some 6) (v := ?_) (a' := ?_) #[true, false, false, true, false, false, false, false, false, false, false, false, false] rfl rfl (any_of HT_.out (by kernel_rfl)) (fun _ _ _ h => h) (Or.inl ⟨by rfl, ?_⟩) ?_ ?_
  rotate_left
  · intro w'
    go_simp
    with_reducible rfl
  rotate_left
  · simp only [Act.put, List.setIfInBounds_toArray, List.set_cons_zero, List.set_cons_succ, i64_w, i32_w]
    rfl
  refine pure_ (i := 5) (N := some 8) (v := ?_) (a' := ?_) #[true, false, false, true, false, true, false, false, false, false, false, false, false] rfl rfl (any_of HT_.out (by kernel_rfl)) (fun _ _ _ h => h) (Or.inl ⟨by rfl, ?_⟩) ?_ ?_
  rotate_left
  · intro w'
    go_simp
    with_reducible rfl
  rotate_left
  · simp only [Act.put, List.setIfInBounds_toArray, List.set_cons_zero, List.set_cons_succ, i64_w, i32_w]
    rfl
  refine pure_ (i := 7) (N := some 10) (v := ?_) (a' := ?_) #[true, false, false, true, false, true, false, true, false, false, false, false, false] rfl rfl (any_of HT_.out (by kernel_rfl)) (fun _ _ _ h => h) (Or.inl ⟨by rfl, ?_⟩) ?_ ?_
  rotate_left
  · intro w'
    go_simp
    with_reducible rfl
  rotate_left
  · simp only [Act.put, List.setIfInBounds_toArray, List.set_cons_zero, List.set_cons_succ, i64_w, i32_w]
    rfl
  refine pure_ (i := 9) (N := some 12) (v := ?_) (a' := ?_) #[true, false, false, true, false, true, false, true, false, true, false, false, false] rfl rfl (any_of HT_.out (by kernel_rfl)) (fun _ _ _ h => h) (Or.inl ⟨by rfl, ?_⟩) ?_ ?_
  rotate_left
  · intro w'
    go_simp
    with_reducible rfl
  rotate_left
  · simp only [Act.put, List.setIfInBounds_toArray, List.set_cons_zero, List.set_cons_succ, i64_w, i32_w]
    rfl
  refine take_ (i := 1) (N := some 4) (v := ?_) (a' := ?_) #[true, true, false, true, false, true, false, true, false, true, false, false, false] rfl rfl (take_ofW HT_.out HW_.out (by kernel_rfl)) (fun _ _ _ h => h) (Or.inl ⟨by rfl, ?_⟩) hHeld ?_ ?_
  rotate_left
  · rintro w' ⟨s0, s1, s2, s3, s4⟩
    go_simp
    with_reducible rfl
  rotate_left
  · simp only [Act.put, List.setIfInBounds_toArray, List.set_cons_zero, List.set_cons_succ, i64_w, i32_w]
    rfl
  refine take_ (i := 4) (N := some 7) (v := ?_) (a' := ?_) #[true, true, false, true, true, true, false, true, false, true, false, false, false] rfl rfl (take_ofW HT_.out HW_.out (by kernel_rfl)) (fun _ _ _ h => h) (Or.inl ⟨by rfl, ?_⟩) hHeld ?_ ?_
  rotate_left
  · rintro w' ⟨s0, s1, s2, s3, s4⟩
    go_simp
    with_reducible rfl
  rotate_left
  · simp only [Act.put, List.setIfInBounds_toArray, List.set_cons_zero, List.set_cons_succ, i64_w, i32_w]
    rfl
  refine take_ (i := 6) (N := some 9) (v := ?_) (a' := ?_) #[true, true, false, true, true, true, true, true, false, true, false, false, false] rfl rfl (take_ofW HT_.out HW_.out (by kernel_rfl)) (fun _ _ _ h => h) (Or.inl ⟨by rfl, ?_⟩) hHeld ?_ ?_
  rotate_left
  · rintro w' ⟨s0, s1, s2, s3, s4⟩
    go_simp
    with_reducible rfl
  rotate_left
  · simp only [Act.put, List.setIfInBounds_toArray, List.set_cons_zero, List.set_cons_succ, i64_w, i32_w]
    rfl
  refine take_ (i := 8) (N := some 11) (v := ?_) (a' := ?_) #[true, true, false, true, true, true, true, true, true, true, false, false, false] rfl rfl (take_ofW HT_.out HW_.out (by kernel_rfl)) (fun _ _ _ h => h) (Or.inl ⟨by rfl, ?_⟩) hHeld ?_ ?_
  rotate_left
  · rintro w' ⟨s0, s1, s2, s3, s4⟩
    go_simp
    with_reducible rfl
  rotate_left
  · simp only [Act.put, List.setIfInBounds_toArray, List.set_cons_zero, List.set_cons_succ, i64_w, i32_w]
    rfl
  refine take_ (i := 10) (N := some 13) (v := ?_) (a' := ?_) #[true, true, false, true, true, true, true, true, true, true, true, false, false] rfl rfl (take_ofW HT_.out HW_.out (by kernel_rfl)) (fun _ _ _ h => h) (Or.inl ⟨by rfl, ?_⟩) hHeld ?_ ?_
  rotate_left
  · rintro w' ⟨s0, s1, s2, s3, s4⟩
    go_simp
    with_reducible rfl
  rotate_left
  · simp only [Act.put, List.setIfInBounds_toArray, List.set_cons_zero, List.set_cons_succ, i64_w, i32_w]
    rfl
  refine one_ (i := 2) (N := some 5) #[true, true, true, true, true, true, true, true, true, true, true, false, false] rfl rfl (one_of HT_.out (by kernel_rfl)) (by decide) (fun K hK => ?_)
  refine goes_ Try.func33 (by kernel_rfl) rfl #[.slice A0_0 l0_0.length c0_0] (by rfl) rfl rfl (by (try simp only [List.map_toArray, List.map_cons, List.map_nil]); first | done | rfl | (simp only [List.length_drop, List.length_take]; rfl)) ?_
  with_reducible refine (switchboardlaw03_Told.calls k _ _ l0_0 t309 _ ?side1 ?side2 A2.out).mono ?_
  (case side1 => repeat (first | exact (Kd.C_below HR0_0.out HB.out) | (with_reducible refine Kd.C_alloc ?_ _) | (with_reducible refine Kd.C_drewN ?_ _) | (with_reducible refine Kd.C_drew ?_)))
  (case side2 => exact HC0_0.out)
  rintro e w6 ⟨v310, rfl, ho0, hb⟩
  refine ⟨_, rfl, ?_⟩
  have n0_ := Aside0.mk (Kd.R_lower ho0 (below_size (by repeat (first | (with_reducible first | exact HB.out | apply below_alloc | apply pw_below_drewN | apply below_drew1 | refine below_set ?_ GE307.out | refine below_set ?_ GE308.out) | exact HB.out))))
  have n1_ := Aside0.mk (blk_below (g := gb307) (o := .cells #[.slice A0_0 l0_0.length c0_0, .string a0_1, .string a0_2, .int .u8 a0_3, .bool a0_4] 33 (0, 0)) (by (with_reducible repeat (first | refine blk_drewN ?_ _ | refine blk_drew ?_ | refine blk_alloc ?_ _)); exact BK307.out) hb)
  have n2_ := Aside0.mk (blk_below (g := gb308) (o := .cells #[.slice none 0 0, .string (⟨#[]⟩ : ByteArray), .string (⟨#[]⟩ : ByteArray), .int .u8 0, .bool false] 50 (0, 0)) (by (with_reducible repeat (first | refine blk_drewN ?_ _ | refine blk_drew ?_ | refine blk_alloc ?_ _)); exact BK308.out) hb)
  have n3_ := Aside0.mk (below_step (by repeat (first | (with_reducible first | exact HB.out | apply below_alloc | apply pw_below_drewN | apply below_drew1 | refine below_set ?_ GE307.out | refine below_set ?_ GE308.out) | exact HB.out)) hb)
  clear BK307
  clear BK308
  clear HB
  have HO311 := n0_
  have BK307 := n1_
  have BK308 := n2_
  have HB := n3_
  clear n0_ n1_ n2_ n3_
  (try clear hb)
  (try clear hb2)
  (try clear hk)
  (try clear hi)
  (try clear ho0)
  obtain ⟨Ao7, co7, eo7⟩ := Kd.R_slice HO311.out
  (first | subst eo7 | (injection eo7 with f1_ f2_ f3_; have f4_ := f1_.symm; have f5_ := f3_.symm; clear f1_ f2_ f3_; subst f4_; subst f5_))
  refine hK.out _ _ ⟨(blk_cell BK307.out 0).trans rfl, (blk_cell BK307.out 1).trans rfl, (blk_cell BK307.out 2).trans rfl, (blk_cell BK307.out 3).trans rfl, (blk_cell BK307.out 4).trans rfl⟩ (fun hHeld => ?_)
  clear hK K
  refine norm_ (a' := ?_) ?_ ?_
  rotate_left
  · show Act.put _ (some 5) _ = _
    simp only [Act.put, List.setIfInBounds_toArray, List.set_cons_zero, List.set_cons_succ, i64_w, i32_w]
    rfl
  refine pure_ (i := 11) (N := some 14) (v := ?_) (a' := ?_) #[true, true, true, true, true, true, true, true, true, true, true, true, false] rfl rfl (any_of HT_.out (by kernel_rfl)) (fun _ _ _ h => h) (Or.inl ⟨by rfl, ?_⟩) ?_ ?_
  rotate_left
  · intro w'
    go_simp
    with_reducible rfl
  rotate_left
  · simp only [Act.put, List.setIfInBounds_toArray, List.set_cons_zero, List.set_cons_succ, i64_w, i32_w]
    rfl
  refine one_ (i := 12) (N := none) #[true, true, true, true, true, true, true, true, true, true, true, true, true] rfl rfl (one_of HT_.out (by kernel_rfl)) (by decide) (fun K hK => ?_)
  have hs8 : w6.cell? ⟨gb308, 0, none⟩ = some (.slice none 0 0) := (blk_cell BK308.out 0).trans rfl
  have hfs8 := blk_frozen BK308.out 0
  have hns8_0 := NB307_308.out
  have hms8_0 := NB308_307.out
  have hs9 : w6.cell? ⟨gb308, 1, none⟩ = some (.string (⟨#[]⟩ : ByteArray)) := (blk_cell BK308.out 1).trans rfl
  have hfs9 := blk_frozen BK308.out 1
  have hns9_0 := NB307_308.out
  have hms9_0 := NB308_307.out
  have hs10 : w6.cell? ⟨gb308, 2, none⟩ = some (.string (⟨#[]⟩ : ByteArray)) := (blk_cell BK308.out 2).trans rfl
  have hfs10 := blk_frozen BK308.out 2
  have hns10_0 := NB307_308.out
  have hms10_0 := NB308_307.out
  have hs11 : w6.cell? ⟨gb308, 3, none⟩ = some (.int .u8 0) := (blk_cell BK308.out 3).trans rfl
  have hfs11 := blk_frozen BK308.out 3
  have hns11_0 := NB307_308.out
  have hms11_0 := NB308_307.out
  have hs12 : w6.cell? ⟨gb308, 4, none⟩ = some (.bool false) := (blk_cell BK308.out 4).trans rfl
  have hfs12 := blk_frozen BK308.out 4
  have hns12_0 := NB307_308.out
  have hms12_0 := NB308_307.out
  refine skip_ (w1 := ?_) (by rfl) rfl ?_ ?_
  rotate_left
  · go_simp
    rfl
  refine hK.out _ _ ⟨((cell_far (p := ⟨gb308, _, none⟩) NB307_308.out _).trans (((cell_far (p := ⟨gb308, _, none⟩) NB307_308.out _).trans (((cell_far (p := ⟨gb308, _, none⟩) NB307_308.out _).trans (((cell_far (p := ⟨gb308, _, none⟩) NB307_308.out _).trans (((cell_far (p := ⟨gb308, _, none⟩) NB307_308.out _).trans (hHeld.1)))))))))), ((cell_far (p := ⟨gb308, _, none⟩) NB307_308.out _).trans (((cell_far (p := ⟨gb308, _, none⟩) NB307_308.out _).trans (((cell_far (p := ⟨gb308, _, none⟩) NB307_308.out _).trans (((cell_far (p := ⟨gb308, _, none⟩) NB307_308.out _).trans (((cell_far (p := ⟨gb308, _, none⟩) NB307_308.out _).trans (hHeld.2.1)))))))))), ((cell_far (p := ⟨gb308, _, none⟩) NB307_308.out _).trans (((cell_far (p := ⟨gb308, _, none⟩) NB307_308.out _).trans (((cell_far (p := ⟨gb308, _, none⟩) NB307_308.out _).trans (((cell_far (p := ⟨gb308, _, none⟩) NB307_308.out _).trans (((cell_far (p := ⟨gb308, _, none⟩) NB307_308.out _).trans (hHeld.2.2.1)))))))))), ((cell_far (p := ⟨gb308, _, none⟩) NB307_308.out _).trans (((cell_far (p := ⟨gb308, _, none⟩) NB307_308.out _).trans (((cell_far (p := ⟨gb308, _, none⟩) NB307_308.out _).trans (((cell_far (p := ⟨gb308, _, none⟩) NB307_308.out _).trans (((cell_far (p := ⟨gb308, _, none⟩) NB307_308.out _).trans (hHeld.2.2.2.1)))))))))), ((cell_far (p := ⟨gb308, _, none⟩) NB307_308.out _).trans (((cell_far (p := ⟨gb308, _, none⟩) NB307_308.out _).trans (((cell_far (p := ⟨gb308, _, none⟩) NB307_308.out _).trans (((cell_far (p := ⟨gb308, _, none⟩) NB307_308.out _).trans (((cell_far (p := ⟨gb308, _, none⟩) NB307_308.out _).trans (hHeld.2.2.2.2))))))))))⟩ (fun hHeld => ?_)
  clear hK K
  refine done_ (done_of HT_.out (by kernel_rfl)) ?_
  try go_wp2
  refine bodyPost_ret (results_cell_row rfl _ _ gb308 50 #[.slice Ao7 t309.length co7, .string a0_1, .string a0_2, .int .u8 a0_3, .bool a0_4] (0, 0) _ rfl (by (with_reducible repeat (first | refine blk_drewN ?_ _ | refine blk_drew ?_ | refine blk_alloc ?_ _)); refine blk_put (cs := #[.slice Ao7 t309.length co7, .string a0_1, .string a0_2, .int .u8 a0_3, .bool false]) ?_ 4 _ rfl; (with_reducible repeat (first | refine blk_drewN ?_ _ | refine blk_drew ?_ | refine blk_alloc ?_ _)); refine blk_put (cs := #[.slice Ao7 t309.length co7, .string a0_1, .string a0_2, .int .u8 0, .bool false]) ?_ 3 _ rfl; (with_reducible repeat (first | refine blk_drewN ?_ _ | refine blk_drew ?_ | refine blk_alloc ?_ _)); refine blk_put (cs := #[.slice Ao7 t309.length co7, .string a0_1, .string (⟨#[]⟩ : ByteArray), .int .u8 0, .bool false]) ?_ 2 _ rfl; (with_reducible repeat (first | refine blk_drewN ?_ _ | refine blk_drew ?_ | refine blk_alloc ?_ _)); refine blk_put (cs := #[.slice Ao7 t309.length co7, .string (⟨#[]⟩ : ByteArray), .string (⟨#[]⟩ : ByteArray), .int .u8 0, .bool false]) ?_ 1 _ rfl; (with_reducible repeat (first | refine blk_drewN ?_ _ | refine blk_drew ?_ | refine blk_alloc ?_ _)); refine blk_put (cs := #[.slice none 0 0, .string (⟨#[]⟩ : ByteArray), .string (⟨#[]⟩ : ByteArray), .int .u8 0, .bool false]) ?_ 0 _ rfl; (with_reducible repeat (first | refine blk_drewN ?_ _ | refine blk_drew ?_ | refine blk_alloc ?_ _)); exact BK308.out) Try.underlying50 rfl (by kernel_rfl)) rfl ?_
  exact ⟨_, by first | rfl | (simp [errW_none, errW_some] <;> rfl) | (simp [*, errW_none, errW_some] <;> rfl), by (with_reducible repeat (first | apply Kd.R_alloc | apply Kd.R_drewN | apply Kd.R_drew)); exact Kd.R_mono (Kd.R_far (p := ⟨gb308, 4, none⟩) (Kd.R_far (p := ⟨gb308, 3, none⟩) (Kd.R_far (p := ⟨gb308, 2, none⟩) (Kd.R_far (p := ⟨gb308, 1, none⟩) (Kd.R_far (p := ⟨gb308, 0, none⟩) (Kd.R_types HO311.out BK308.out (by decide)) (fun _ hk => hk.2) (.slice Ao7 t309.length co7)) (fun _ hk => hk.2) (.string a0_1)) (fun _ hk => hk.2) (.string a0_2)) (fun _ hk => hk.2) (.int .u8 a0_3)) (fun _ hk => hk.2) (.bool a0_4)) (fun _ hk => trivial), by repeat (first | (with_reducible first | exact HB.out | apply below_alloc | apply pw_below_drewN | apply below_drew1 | refine below_set ?_ GE307.out | refine below_set ?_ GE308.out) | exact HB.out)⟩
def switchboardref22_End.l0 : Nat → ByteArray → Int → Int → List (S87) → Int → Int → Option ((List (S87)))
  | 0, _, _, _, _, _, _ => none
  | k + 1, x1, x2, x3, x9, x15, x16 => if x16 < x15 then (if 0 ≤ x16 then (if x16 < (x9.length : Int) then (if ((rd_T87 x9 x16).f0).toList = x1.toList then (switchboardref22_End.l0 k x1 x2 x3 (x9.set (x16 : Int).toNat (⟨(rd_T87 x9 x16).f0, (⟨(rd_T87 x9 x16).f1.f0, (rd_T87 x9 x16).f1.f1, (rd_T87 x9 x16).f1.f2, (rd_T87 x9 x16).f1.f3, (rd_T87 x9 x16).f1.f4, (rd_T87 x9 x16).f1.f5, (rd_T87 x9 x16).f1.f6⟩ : S83), (rd_T87 x9 x16).f2, wrap64 (x2 + (mn ((rd_T87 x9 x16).f2) x3))⟩ : S87)) x15 (wrap64 (x16 + 1))) else (switchboardref22_End.l0 k x1 x2 x3 x9 x15 (wrap64 (x16 + 1)))) else (none)) else (none)) else (some x9)
def switchboardref22_End.f (k : Nat) (l0 : List (S87)) (a1 : ByteArray) (a2 : Int) (a3 : Int) : Option ((List (S87))) := (some (([] : List (S87)) : List (S87))).bind fun y312 => (if y312.length + l0.length < 1172812402961 then ((some (y312 ++ l0 : List (S87))).bind fun y315 => (switchboardref22_End.l0 k a1 a2 a3 y315 (y315.length : Int) 0)) else (none))
theorem switchboardref22_End.mono_l : ∀ k, (∀ y0 y1 y2 y3 y4 y5, LeO (switchboardref22_End.l0 k y0 y1 y2 y3 y4 y5) (switchboardref22_End.l0 (k + 1) y0 y1 y2 y3 y4 y5))
  | 0 => fun _ _ _ _ _ _ r h => by simp [switchboardref22_End.l0] at h
  | k + 1 => by
    have ih0 := switchboardref22_End.mono_l k
    · intro y0 y1 y2 y3 y4 y5
      unfold switchboardref22_End.l0
      repeat' first
      | (with_reducible exact ih0 _ _ _ _ _ _)
      | (with_reducible exact LeO.refl _)
      | (with_reducible exact LeO.none _)
      | (with_reducible refine LeO.ite ?_ ?_)
      | (with_reducible refine LeO.bind ?_ (fun _ => ?_))
      | exact ih0 _ _ _ _ _ _
      | exact LeO.none _
      | refine LeO.ite ?_ ?_
      | refine LeO.bind ?_ (fun _ => ?_)
theorem switchboardref22_End.mono : ∀ a0 a1 a2 a3 k, LeO (switchboardref22_End.f k a0 a1 a2 a3) (switchboardref22_End.f (k + 1) a0 a1 a2 a3) := by
  intro a0 a1 a2 a3 k
  have ih0 := switchboardref22_End.mono_l k
  unfold switchboardref22_End.f
  repeat' first
      | (with_reducible exact ih0 _ _ _ _ _ _)
      | (with_reducible exact LeO.refl _)
      | (with_reducible exact LeO.none _)
      | (with_reducible refine LeO.ite ?_ ?_)
      | (with_reducible refine LeO.bind ?_ (fun _ => ?_))
      | exact ih0 _ _ _ _ _ _
      | exact LeO.none _
      | refine LeO.ite ?_ ?_
      | refine LeO.bind ?_ (fun _ => ?_)
set_option maxHeartbeats 8000000 in
set_option maxRecDepth 100000 in
theorem switchboardref22_End.calls (k : Nat) (P0_ : Nat → Prop) (A0 : Option Addr) (c0 : Nat) (l0 : List (S87)) (a1 : ByteArray) (a2 : Int) (a3 : Int) (r : List (S87)) (w : World) (hs0 : Kd.V k87 87 w w.heap.size (fun k_ => P0_ k_) (.slice A0 l0.length c0) l0) (h : switchboardref22_End.f k l0 a1 a2 a3 = some r) :
    Calls Try.prog 18 #[.slice A0 l0.length c0, .string a1, .int .i64 a2, .int .i64 a3] w fun e w' => ∃ v0_ : Value, e = .returned (v0_) ∧ Kd.N k87 87 w' w.heap.size (fun k_ => (P0_ k_ ∨ w.heap.size ≤ k_)) v0_ r ∧ Below w.heap.size w w' := by
  have HO0 := Aside0.mk (show Kd.V k87 87 w w.heap.size (fun k_ => (P0_ k_ ∨ w.heap.size ≤ k_)) (.slice A0 l0.length c0) l0 from Kd.V_mono hs0 (fun k_ hk => .inl hk))
  have HB := Aside0.mk (Below.refl w.heap.size w)
  have H : ((some (([] : List (S87)) : List (S87))).bind fun y312 => (if y312.length + l0.length < 1172812402961 then ((some (y312 ++ l0 : List (S87))).bind fun y315 => (switchboardref22_End.l0 k a1 a2 a3 y315 (y315.length : Int) 0)) else (none))) = some r := h
  clear h
  obtain ⟨y312, hy312⟩ : ∃ y_ : List (S87), y_ = (([] : List (S87))) := ⟨_, rfl⟩
  replace H : (if y312.length + l0.length < 1172812402961 then ((some (y312 ++ l0 : List (S87))).bind fun y315 => (switchboardref22_End.l0 k a1 a2 a3 y315 (y315.length : Int) 0)) else (none)) = some r := by first | (rw [hy312]; with_reducible exact H) | (have H2_ := (Option.bind_some _ _).symm.trans H; rw [hy312]; with_reducible exact H2_) | (have H2_ := (Option.bind_some _ _).symm.trans H; with_reducible exact H2_) | with_reducible exact H | (rw [hy312]; exact H) | exact H
  have Ny312 := Aside0.mk hy312
  clear hy312
  by_cases c5 : y312.length + l0.length < 1172812402961
  · rw [if_pos c5] at H
    have LMc5 := Aside0.mk c5
    clear c5
    obtain ⟨y315, hy315⟩ : ∃ y_ : List (S87), y_ = (y312 ++ l0) := ⟨_, rfl⟩
    replace H : (switchboardref22_End.l0 k a1 a2 a3 y315 (y315.length : Int) 0) = some r := by first | (rw [hy315]; with_reducible exact H) | (have H2_ := (Option.bind_some _ _).symm.trans H; rw [hy315]; with_reducible exact H2_) | (have H2_ := (Option.bind_some _ _).symm.trans H; with_reducible exact H2_) | with_reducible exact H | (rw [hy315]; exact H) | exact H
    have Ny315 := Aside0.mk hy315
    clear hy315
    have H' := Aside0.mk H
    clear H
    go_enter Try.func18, Try.ntmps18
    go_wp2_with (first | ((with_reducible refine gate_dst (N := 11) rfl ?_); refine Kd.N_lit k87 _ 87 ?hg (N' := 11) ?hd (xs := ([] : List (S87))) (inner := []) (ok := (fun k_ => (P0_ k_ ∨ w.heap.size ≤ k_))) (okp := (fun k_ => (P0_ k_ ∨ w.heap.size ≤ k_))) ?hr ?hp (fun _ hk => hk) ((show ∀ k_, w.heap.size ≤ k_ → (fun k_ => (P0_ k_ ∨ w.heap.size ≤ k_)) k_ from fun k_ hk => (.inr (Nat.le_trans (below_size (by repeat (first | (with_reducible first | exact HB.out | apply below_alloc | apply pw_below_drewN | apply below_drew1) | exact HB.out))) hk))) _ (Nat.le_refl _)) (Below.refl _ _) (Nat.le_refl _) (by simp) ?_; (case hd => rfl); (case hg => rfl); (case hr => first | (go_simp; done) | (go_simp; rfl)); (case hp => exact (Reps.none _ _)); intro v313 w6 ho7 hb hg_ hnew_; clear hg_ hnew_; (first | rw [← Ny312.out] at ho7 | (simp only [Int.reduceToNat] at ho7; rw [← Ny312.out] at ho7)); have n0_ := Aside0.mk (Kd.V_elder' (by (with_reducible repeat (first | apply Kd.V_alloc | apply Kd.V_drewN | apply Kd.V_drew)); exact HO0.out) (Kd.N_base ho7) hb); have n1_ := Aside0.mk (Kd.N_lower ho7 (below_size (by repeat (first | (with_reducible first | exact HB.out | apply below_alloc | apply pw_below_drewN | apply below_drew1) | exact HB.out)))); have n2_ := Aside0.mk (below_step (by repeat (first | (with_reducible first | exact HB.out | apply below_alloc | apply pw_below_drewN | apply below_drew1) | exact HB.out)) hb); clear HO0; clear HB; have HO0 := n0_; have HO314 := n1_; have HB := n2_; clear n0_ n1_ n2_; clear hb ho7) | ((with_reducible refine gate_builtin (b := .append) (xs := #[.tmp 11, .tmp 12]) rfl ?_); at_builtin; refine Kd.N_append_rows k87 (w0 := w) w.heap.size rfl (.tmp 11) (.tmp 12) 42 87 (.agg #[(.string ⟨#[]⟩), (.string ⟨#[]⟩), (.int .i64 0), (.int .u8 0), (.bool false), (.slice none 0 0), (.string ⟨#[]⟩), (.string ⟨#[]⟩), (.int .i64 0), (.int .i64 0)]) 120 rfl Try.underlying42 info87 rfl (by decide) (by omega) v313 y312 l0 _ _ _ (fun k_ => (P0_ k_ ∨ w.heap.size ≤ k_)) (fun k_ => ((fun k_ => (P0_ k_ ∨ w.heap.size ≤ k_))) k_ ∧ some k_ ≠ (v313 : Value).ownBlock) rfl rfl ?aO ?aR (fun _ hk => hk) ?aF ?aB ?aS ?aL ?_; (case aR => exact (by skip; exact Kd.V_F (Kd.V_mono (ok' := (fun k_ => ((fun k_ => (P0_ k_ ∨ w.heap.size ≤ k_))) k_ ∧ some k_ ≠ (v313 : Value).ownBlock)) (HO0.out) (fun k_ hk => ⟨hk.1, hk.2⟩)))); (case aB => exact (by repeat (first | (with_reducible first | exact HB.out | apply below_alloc | apply pw_below_drewN | apply below_drew1) | exact HB.out))); (case aF => exact (fun k_ hk => (.inr (Nat.le_trans (below_size (by repeat (first | (with_reducible first | exact HB.out | apply below_alloc | apply pw_below_drewN | apply below_drew1) | exact HB.out))) hk)))); (case aO => exact (by (with_reducible repeat (first | apply Kd.N_alloc | apply Kd.N_drewN | apply Kd.N_drew)); exact HO314.out)); (case aS => exact (below_size (by repeat (first | (with_reducible first | exact HB.out | apply below_alloc | apply pw_below_drewN | apply below_drew1) | exact HB.out)))); (case aL => have := LMc5.out; omega); intro v316 w8 ho hb hg hat; rw [← Ny315.out] at ho; have n0_ := Aside0.mk (Kd.V_afterv (ok := (fun k_ => (P0_ k_ ∨ w.heap.size ≤ k_))) (by (with_reducible repeat (first | apply Kd.V_alloc | apply Kd.V_drewN | apply Kd.V_drew)); exact HO0.out) hg hat); have n1_ := Aside0.mk (hb); have n2_ := Aside0.mk (ho); clear HO0; clear HB; clear HO314; have HO0 := n0_; have HB := n1_; have HO317 := n2_; clear n0_ n1_ n2_; clear ho hb hg hat; obtain ⟨Ao9, co9, eo9⟩ := Kd.N_slice HO317.out; subst eo9))
    go_loopg [16] k (fun kq v16 w' => ∃ (x9_1 : List (S87)) (x16_1 : Int), v16 = .int .i64 x16_1 ∧ Aside0 (switchboardref22_End.l0 kq a1 a2 a3 x9_1 (y315.length : Int) x16_1 = some r) ∧ Aside0 (kq ≤ k) ∧ Aside0 (Kd.N k87 87 w' w.heap.size (fun k_ => (P0_ k_ ∨ w.heap.size ≤ k_)) (.slice Ao9 y315.length co9) x9_1) ∧ Aside0 (Below w.heap.size w w'))
    case atStart => exact ⟨(y315), (0), (by first | rfl | (simp; done) | (simp [*]; done)), H', ⟨Nat.le_refl _⟩, ⟨by (with_reducible repeat (first | apply Kd.N_alloc | apply Kd.N_drewN | apply Kd.N_drew)); exact HO317.out⟩, ⟨by repeat (first | (with_reducible first | exact HB.out | apply below_alloc | apply pw_below_drewN | apply below_drew1) | exact HB.out)⟩⟩
    case round =>
      clear H'
      try clear c1
      try clear p2
      try clear c5
      obtain ⟨x9_1, x16_1, rfl, HA, HK1, HO_9, HB⟩ := hrel
      have hl9_1 := (Kd.N_reads' HO_9.out).1
      rw [hl9_1] at HO_9
      (try simp only [hl9_1])
      cases gk with
      | zero => exact absurd HA.out (by simp [switchboardref22_End.l0])
      | succ k1 =>
        have H := HA.out
        clear HA
        simp only [switchboardref22_End.l0] at H
        by_cases c10 : x16_1 < (y315.length : Int)
        · rw [if_pos c10] at H
          have c10b0 : decide (x16_1 < (y315.length : Int)) = true := decide_eq_true c10
          clear c10
          by_cases c11 : 0 ≤ x16_1
          · rw [if_pos c11] at H
            have c11b0 : decide (0 ≤ x16_1) = true := decide_eq_true c11
            clear c11
            by_cases c12 : x16_1 < (x9_1.length : Int)
            · rw [if_pos c12] at H
              have c12b0 : decide (x16_1 < (x9_1.length : Int)) = true := decide_eq_true c12
              clear c12
              by_cases c13 : ((rd_T87 x9_1 x16_1).f0).toList = a1.toList
              · rw [if_pos c13] at H
                have c13b0 : (((rd_T87 x9_1 x16_1).f0).toList == a1.toList) = true := beq_iff_eq.mpr c13
                have c13b1 : (((rd_T87 x9_1 x16_1).f0).toList != a1.toList) = false := bne_eq_false_iff_eq.mpr c13
                clear c13
                obtain ⟨ji14, hji14⟩ : ∃ j_ : Int, (mn ((rd_T87 x9_1 x16_1).f2) a3) = j_ := ⟨_, rfl⟩
                replace H : (switchboardref22_End.l0 k1 a1 a2 a3 (x9_1.set (x16_1 : Int).toNat (⟨(rd_T87 x9_1 x16_1).f0, (⟨(rd_T87 x9_1 x16_1).f1.f0, (rd_T87 x9_1 x16_1).f1.f1, (rd_T87 x9_1 x16_1).f1.f2, (rd_T87 x9_1 x16_1).f1.f3, (rd_T87 x9_1 x16_1).f1.f4, (rd_T87 x9_1 x16_1).f1.f5, (rd_T87 x9_1 x16_1).f1.f6⟩ : S83), (rd_T87 x9_1 x16_1).f2, wrap64 (a2 + (ji14))⟩ : S87)) (y315.length : Int) (wrap64 (x16_1 + 1))) = some r := by first | (rw [hji14] at H; exact H) | (simp only [hji14] at H ⊢; exact H)
                have hji14_ : (if a3 < ((rd_T87 x9_1 x16_1).f2) then a3 else ((rd_T87 x9_1 x16_1).f2)) = ji14 := hji14
                obtain ⟨y320, hy320⟩ : ∃ y_ : List (S87), y_ = (x9_1.set (x16_1 : Int).toNat (⟨(rd_T87 x9_1 x16_1).f0, (⟨(rd_T87 x9_1 x16_1).f1.f0, (rd_T87 x9_1 x16_1).f1.f1, (rd_T87 x9_1 x16_1).f1.f2, (rd_T87 x9_1 x16_1).f1.f3, (rd_T87 x9_1 x16_1).f1.f4, (rd_T87 x9_1 x16_1).f1.f5, (rd_T87 x9_1 x16_1).f1.f6⟩ : S83), (rd_T87 x9_1 x16_1).f2, wrap64 (a2 + (ji14))⟩ : S87)) := ⟨_, rfl⟩
                replace H : (switchboardref22_End.l0 k1 a1 a2 a3 y320 (y315.length : Int) (wrap64 (x16_1 + 1))) = some r := by first | (rw [hy320]; with_reducible exact H) | (have H2_ := (Option.bind_some _ _).symm.trans H; rw [hy320]; with_reducible exact H2_) | (have H2_ := (Option.bind_some _ _).symm.trans H; with_reducible exact H2_) | with_reducible exact H | (rw [hy320]; exact H) | exact H
                have Ny320 := Aside0.mk hy320
                clear hy320
                have H' := Aside0.mk H
                clear H
                have p318 : 0 ≤ (x16_1 : Int) := of_decide_eq_true (by first | (with_reducible assumption) | assumption)
                have q318 : x16_1 < (x9_1.length : Int) := of_decide_eq_true (by first | (with_reducible assumption) | assumption)
                obtain ⟨ad318, A318_5, c318_5, e318, hx318_0, hx318_1, hx318_2, hx318_3, hx318_4, hx318_5, hx318_6, hx318_7, hx318_8, hx318_9, hl318_5, hi318_5⟩ := at_T87 (Kd.N_reads' HO_9.out).2.2 x16_1 p318 q318
                cases e318
                obtain ⟨ce318, hce318, hMe318, hcc318⟩ := Kd.N_get HO_9.out z87 x16_1 p318 (by first | exact q318 | exact of_decide_eq_true (by first | (with_reducible assumption) | assumption) | (have e_ := (Kd.N_reads' HO_9.out).1; omega))
                obtain ⟨ua318_5, uc318_5, rfl, ul318_5, ge318_5⟩ := k87_openF hMe318
                have hv318_5 := hcc318 5 _ rfl
                rw [add_field _ _ 5 (by omega)] at hv318_5
                replace hv318_5 := Option.some.inj (hv318_5.symm.trans hx318_5)
                injection hv318_5 with hva_ hvn_ hvc_
                rw [hva_] at ge318_5
                rw [hvc_] at ul318_5
                have HL318_5 := Aside0.mk (show Kd.V k100 100 _ w.heap.size _ _ ((rd_T87 x9_1 x16_1).f1.f4) from Kd.V_mk ul318_5 ge318_5)
                clear hva_ hvn_ hvc_ ge318_5 ul318_5
                clear hcc318 hce318
                have HR318_5 := Aside0.mk hi318_5
                have HC318_5 := Aside0.mk hl318_5
                clear hi318_5 hl318_5
                replace p318 := eq_true p318
                replace q318 := eq_true q318
                have p319 : 0 ≤ (x16_1 : Int) := of_decide_eq_true (by first | (with_reducible assumption) | assumption)
                have q319 : x16_1 < (x9_1.length : Int) := of_decide_eq_true (by first | (with_reducible assumption) | assumption)
                obtain ⟨ad319, A319_5, c319_5, e319, hx319_0, hx319_1, hx319_2, hx319_3, hx319_4, hx319_5, hx319_6, hx319_7, hx319_8, hx319_9, hl319_5, hi319_5⟩ := at_T87 (Kd.N_reads' HO_9.out).2.2 x16_1 p319 q319
                obtain rfl : ad318 = ad319 := (by injection e319)
                obtain ⟨ce319, hce319, hMe319, hcc319⟩ := Kd.N_get HO_9.out z87 x16_1 p319 (by first | exact q319 | exact of_decide_eq_true (by first | (with_reducible assumption) | assumption) | (have e_ := (Kd.N_reads' HO_9.out).1; omega))
                obtain ⟨ua319_5, uc319_5, rfl, ul319_5, ge319_5⟩ := k87_openF hMe319
                have hv319_5 := hcc319 5 _ rfl
                rw [add_field _ _ 5 (by omega)] at hv319_5
                replace hv319_5 := Option.some.inj (hv319_5.symm.trans hx319_5)
                injection hv319_5 with hva_ hvn_ hvc_
                rw [hva_] at ge319_5
                rw [hvc_] at ul319_5
                have HL319_5 := Aside0.mk (show Kd.V k100 100 _ w.heap.size _ _ ((rd_T87 x9_1 x16_1).f1.f4) from Kd.V_mk ul319_5 ge319_5)
                clear hva_ hvn_ hvc_ ge319_5 ul319_5
                clear hcc319 hce319
                have HR319_5 := Aside0.mk hi319_5
                have HC319_5 := Aside0.mk hl319_5
                clear hi319_5 hl319_5
                replace p319 := eq_true p319
                replace q319 := eq_true q319
                have ea_ := Option.some.inj (hx318_5.symm.trans hx319_5)
                injection ea_ with ea_ en_ ec_
                subst ea_
                subst ec_
                clear en_
                have p15 : 0 ≤ (x16_1 : Int) := of_decide_eq_true (by first | (with_reducible assumption) | assumption)
                have q15 : (x16_1 : Int) < ((x9_1.length : Int) : Int) := of_decide_eq_true (by first | (with_reducible assumption) | assumption)
                obtain ⟨go15, co15, eo15, gb15, gl15, cl15, HG15⟩ := Kd.N_form HO_9.out (by omega)
                (first | cases eo15 | (injection eo15 with ea_ en_ ec_; (first | subst ea_ | (injection ea_ with ea_; subst ea_)); subst ec_; clear en_))
                have GB15 := Aside0.mk gb15
                have GG15 := Aside0.mk HG15
                clear gb15 gl15 HG15
                (first | simp only [add_plain] at hx318_0 | skip)
                (first | simp only [add_plain] at hx318_1 | skip)
                (first | simp only [add_plain] at hx318_2 | skip)
                (first | simp only [add_plain] at hx318_3 | skip)
                (first | simp only [add_plain] at hx318_4 | skip)
                (first | simp only [add_plain] at hx318_5 | skip)
                (first | simp only [add_plain] at hx318_6 | skip)
                (first | simp only [add_plain] at hx318_7 | skip)
                (first | simp only [add_plain] at hx318_8 | skip)
                (first | simp only [add_plain] at hx318_9 | skip)
                (first | simp only [add_plain] at hx319_0 | skip)
                (first | simp only [add_plain] at hx319_1 | skip)
                (first | simp only [add_plain] at hx319_2 | skip)
                (first | simp only [add_plain] at hx319_3 | skip)
                (first | simp only [add_plain] at hx319_4 | skip)
                (first | simp only [add_plain] at hx319_5 | skip)
                (first | simp only [add_plain] at hx319_6 | skip)
                (first | simp only [add_plain] at hx319_7 | skip)
                (first | simp only [add_plain] at hx319_8 | skip)
                (first | simp only [add_plain] at hx319_9 | skip)
                obtain ⟨ce15, hcl15, hM15, hcc15, hfr15⟩ := Kd.N_elem HO_9.out z87 (x16_1 : Int) p15 q15
                obtain ⟨ua15_5, uc15_5, rfl, ul15_5, ge15_5⟩ := k87_openF hM15
                have hx15_0 : wr.cell? ⟨go15, (x16_1 : Int).toNat * 10, none⟩ = some (.string ((rd_T87 x9_1 x16_1).f0)) := hcc15 0 _ rfl
                have hx15_1 : wr.cell? ⟨go15, (x16_1 : Int).toNat * 10 + 1, none⟩ = some (.string ((rd_T87 x9_1 x16_1).f1.f0)) := hcc15 1 _ rfl
                have hx15_2 : wr.cell? ⟨go15, (x16_1 : Int).toNat * 10 + 2, none⟩ = some (.int .i64 ((rd_T87 x9_1 x16_1).f1.f1)) := hcc15 2 _ rfl
                have hx15_3 : wr.cell? ⟨go15, (x16_1 : Int).toNat * 10 + 3, none⟩ = some (.int .u8 ((rd_T87 x9_1 x16_1).f1.f2)) := hcc15 3 _ rfl
                have hx15_4 : wr.cell? ⟨go15, (x16_1 : Int).toNat * 10 + 4, none⟩ = some (.bool ((rd_T87 x9_1 x16_1).f1.f3)) := hcc15 4 _ rfl
                have hx15_5 : wr.cell? ⟨go15, (x16_1 : Int).toNat * 10 + 5, none⟩ = some (.slice ua15_5 ((rd_T87 x9_1 x16_1).f1.f4).length uc15_5) := hcc15 5 _ rfl
                have hx15_6 : wr.cell? ⟨go15, (x16_1 : Int).toNat * 10 + 6, none⟩ = some (.string ((rd_T87 x9_1 x16_1).f1.f5)) := hcc15 6 _ rfl
                have hx15_7 : wr.cell? ⟨go15, (x16_1 : Int).toNat * 10 + 7, none⟩ = some (.string ((rd_T87 x9_1 x16_1).f1.f6)) := hcc15 7 _ rfl
                have hx15_8 : wr.cell? ⟨go15, (x16_1 : Int).toNat * 10 + 8, none⟩ = some (.int .i64 ((rd_T87 x9_1 x16_1).f2)) := hcc15 8 _ rfl
                have hx15_9 : wr.cell? ⟨go15, (x16_1 : Int).toNat * 10 + 9, none⟩ = some (.int .i64 ((rd_T87 x9_1 x16_1).f3)) := hcc15 9 _ rfl
                have hf15_0 : wr.frozen? ⟨go15, (x16_1 : Int).toNat * 10, none⟩ = false := hfr15 0
                have hf15_1 : wr.frozen? ⟨go15, (x16_1 : Int).toNat * 10 + 1, none⟩ = false := hfr15 1
                have hf15_2 : wr.frozen? ⟨go15, (x16_1 : Int).toNat * 10 + 2, none⟩ = false := hfr15 2
                have hf15_3 : wr.frozen? ⟨go15, (x16_1 : Int).toNat * 10 + 3, none⟩ = false := hfr15 3
                have hf15_4 : wr.frozen? ⟨go15, (x16_1 : Int).toNat * 10 + 4, none⟩ = false := hfr15 4
                have hf15_5 : wr.frozen? ⟨go15, (x16_1 : Int).toNat * 10 + 5, none⟩ = false := hfr15 5
                have hf15_6 : wr.frozen? ⟨go15, (x16_1 : Int).toNat * 10 + 6, none⟩ = false := hfr15 6
                have hf15_7 : wr.frozen? ⟨go15, (x16_1 : Int).toNat * 10 + 7, none⟩ = false := hfr15 7
                have hf15_8 : wr.frozen? ⟨go15, (x16_1 : Int).toNat * 10 + 8, none⟩ = false := hfr15 8
                have hf15_9 : wr.frozen? ⟨go15, (x16_1 : Int).toNat * 10 + 9, none⟩ = false := hfr15 9
                clear hcl15 hcc15 hfr15 hM15
                replace p15 := eq_true p15
                replace q15 := eq_true q15
                have HX16 := Aside0.mk (show Kd.N k87 87 wr w.heap.size (fun k_ => (P0_ k_ ∨ w.heap.size ≤ k_)) (.slice (some ⟨go15, 0, none⟩) x9_1.length co9) x9_1 from (by (with_reducible repeat (first | apply Kd.N_alloc | apply Kd.N_drewN | apply Kd.N_drew)); exact HO_9.out))
                obtain ⟨ce16, hcl16, hM16, hcc16, hfr16⟩ := Kd.N_elem HX16.out z87 (x16_1 : Int) (of_decide_eq_true (by first | (with_reducible assumption) | assumption)) (by have h_ : (x16_1 : Int) < ((x9_1.length : Int) : Int) := of_decide_eq_true (by first | (with_reducible assumption) | assumption); first | exact h_ | (have e_ := (Kd.N_reads' HO_9.out).1; omega) | simpa using h_)
                obtain ⟨ua16_5, uc16_5, rfl, ul16_5, ge16_5⟩ := k87_openF hM16
                have HP16 := Kd.N_seg HX16.out (x16_1 : Int) (of_decide_eq_true (by first | (with_reducible assumption) | assumption)) (by have h_ : (x16_1 : Int) < ((x9_1.length : Int) : Int) := of_decide_eq_true (by first | (with_reducible assumption) | assumption); first | exact h_ | (have e_ := (Kd.N_reads' HO_9.out).1; omega) | simpa using h_) (seg := [.int .i64 (wrap64 (a2 + (ji14)))]) (j := 9) hcl16 hcc16 (show 10 ≤ 10 from by decide) (x' := (⟨(rd_T87 x9_1 x16_1).f0, (⟨(rd_T87 x9_1 x16_1).f1.f0, (rd_T87 x9_1 x16_1).f1.f1, (rd_T87 x9_1 x16_1).f1.f2, (rd_T87 x9_1 x16_1).f1.f3, (rd_T87 x9_1 x16_1).f1.f4, (rd_T87 x9_1 x16_1).f1.f5, (rd_T87 x9_1 x16_1).f1.f6⟩ : S83), (rd_T87 x9_1 x16_1).f2, wrap64 (a2 + (ji14))⟩ : S87)) (k87_mkF _ _ (⟨(rd_T87 x9_1 x16_1).f0, (⟨(rd_T87 x9_1 x16_1).f1.f0, (rd_T87 x9_1 x16_1).f1.f1, (rd_T87 x9_1 x16_1).f1.f2, (rd_T87 x9_1 x16_1).f1.f3, (rd_T87 x9_1 x16_1).f1.f4, (rd_T87 x9_1 x16_1).f1.f5, (rd_T87 x9_1 x16_1).f1.f6⟩ : S83), (rd_T87 x9_1 x16_1).f2, wrap64 (a2 + (ji14))⟩ : S87) ul16_5 ge16_5) (fun _ hk => hk)
                have hx16_9 := hcc16 9 _ rfl
                (try simp only [show (k87).sz = 10 from rfl, Nat.mul_one, Nat.add_zero] at hx16_9)
                have hf16_9 := hfr16 9
                (try simp only [show (k87).sz = 10 from rfl, Nat.mul_one, Nat.add_zero] at hf16_9)
                clear hcl16 hcc16 hfr16 hM16
                go_wp2_with (first | ((with_reducible refine gate_store (t := 3) (p := 38) rfl ?_); refine store_event (t := 3) (p := 38) (v := ?vo_w17) (w1 := (wr.setCell ⟨go15, (x16_1 : Int).toNat * 10 + 9, none⟩ (.int .i64 (wrap64 (a2 + (ji14)))))) ?hg ?ho ?hn ?hr ?_; (case ho => rfl); (case hg => rfl); (case hn => rfl); (case hr => first | (go_simp; done) | (go_simp; rfl)); intro w17 hw; have hg : wr.grownBy w17 (some go15) := (by rw [hw]; exact HP16.2); have hp_ : Kd.N k87 87 w17 w.heap.size (fun k_ => (P0_ k_ ∨ w.heap.size ≤ k_)) (.slice (some ⟨go15, 0, none⟩) x9_1.length co9) y320 := (by rw [hw, Ny320.out]; exact HP16.1); clear HP16; have n0_ := Aside0.mk (hp_); have n1_ := Aside0.mk (Kd.V_afterv (v := (.slice (some ⟨go15, 0, none⟩) x9_1.length co9)) (v1 := (.slice (some ⟨go15, 0, none⟩) x9_1.length co9)) (ok := (fun k_ => (P0_ k_ ∨ w.heap.size ≤ k_))) (by (with_reducible repeat (first | apply Kd.V_alloc | apply Kd.V_drewN | apply Kd.V_drew)); exact HL318_5.out) hg (.inl rfl)); have n2_ := Aside0.mk (Kd.V_afterv (v := (.slice (some ⟨go15, 0, none⟩) x9_1.length co9)) (v1 := (.slice (some ⟨go15, 0, none⟩) x9_1.length co9)) (ok := (fun k_ => (P0_ k_ ∨ w.heap.size ≤ k_))) (by (with_reducible repeat (first | apply Kd.V_alloc | apply Kd.V_drewN | apply Kd.V_drew)); exact HL319_5.out) hg (.inl rfl)); have n3_ := Aside0.mk ((by rw [hw]; exact below_set (HB.out) GB15.out : Below w.heap.size w w17)); clear HO_9; clear HL318_5; clear HL319_5; clear HB; have HO_9 := n0_; have HL318_5 := n1_; have HL319_5 := n2_; have HB := n3_; clear n0_ n1_ n2_ n3_; clear hg hw hp_))
                (try simp only [← hl9_1])
                go_roundg k1
                case measure => have := HK1.out; omega
                case rel => exact ⟨(y320), (wrap64 (x16_1 + 1)), (by first | rfl | (simp; done) | (simp [*]; done)), H', ⟨by have := HK1.out; omega⟩, ⟨by (try simp only [hl9_1]); (with_reducible repeat (first | apply Kd.N_alloc | apply Kd.N_drewN | apply Kd.N_drew)); exact HO_9.out⟩, ⟨by repeat (first | (with_reducible first | exact HB.out | apply below_alloc | apply pw_below_drewN | apply below_drew1) | exact HB.out)⟩⟩
              · rw [if_neg c13] at H
                have c13b0 : (((rd_T87 x9_1 x16_1).f0).toList == a1.toList) = false := beq_eq_false_iff_ne.mpr c13
                have c13b1 : (((rd_T87 x9_1 x16_1).f0).toList != a1.toList) = true := bne_iff_ne.mpr c13
                have H' := Aside0.mk H
                clear H
                have p318 : 0 ≤ (x16_1 : Int) := of_decide_eq_true (by first | (with_reducible assumption) | assumption)
                have q318 : x16_1 < (x9_1.length : Int) := of_decide_eq_true (by first | (with_reducible assumption) | assumption)
                obtain ⟨ad318, A318_5, c318_5, e318, hx318_0, hx318_1, hx318_2, hx318_3, hx318_4, hx318_5, hx318_6, hx318_7, hx318_8, hx318_9, hl318_5, hi318_5⟩ := at_T87 (Kd.N_reads' HO_9.out).2.2 x16_1 p318 q318
                cases e318
                obtain ⟨ce318, hce318, hMe318, hcc318⟩ := Kd.N_get HO_9.out z87 x16_1 p318 (by first | exact q318 | exact of_decide_eq_true (by first | (with_reducible assumption) | assumption) | (have e_ := (Kd.N_reads' HO_9.out).1; omega))
                obtain ⟨ua318_5, uc318_5, rfl, ul318_5, ge318_5⟩ := k87_openF hMe318
                have hv318_5 := hcc318 5 _ rfl
                rw [add_field _ _ 5 (by omega)] at hv318_5
                replace hv318_5 := Option.some.inj (hv318_5.symm.trans hx318_5)
                injection hv318_5 with hva_ hvn_ hvc_
                rw [hva_] at ge318_5
                rw [hvc_] at ul318_5
                have HL318_5 := Aside0.mk (show Kd.V k100 100 _ w.heap.size _ _ ((rd_T87 x9_1 x16_1).f1.f4) from Kd.V_mk ul318_5 ge318_5)
                clear hva_ hvn_ hvc_ ge318_5 ul318_5
                clear hcc318 hce318
                have HR318_5 := Aside0.mk hi318_5
                have HC318_5 := Aside0.mk hl318_5
                clear hi318_5 hl318_5
                replace p318 := eq_true p318
                replace q318 := eq_true q318
                go_wp2
                (try simp only [← hl9_1])
                go_roundg k1
                case measure => have := HK1.out; omega
                case rel => exact ⟨(x9_1), (wrap64 (x16_1 + 1)), (by first | rfl | (simp; done) | (simp [*]; done)), H', ⟨by have := HK1.out; omega⟩, ⟨by (try simp only [hl9_1]); (with_reducible repeat (first | apply Kd.N_alloc | apply Kd.N_drewN | apply Kd.N_drew)); exact HO_9.out⟩, ⟨by repeat (first | (with_reducible first | exact HB.out | apply below_alloc | apply pw_below_drewN | apply below_drew1) | exact HB.out)⟩⟩
            · rw [if_neg c12] at H
              exact absurd H (by simp)
          · rw [if_neg c11] at H
            exact absurd H (by simp)
        · rw [if_neg c10] at H
          have c10b0 : decide (x16_1 < (y315.length : Int)) = false := decide_eq_false c10
          clear c10
          rw [hl9_1] at c10b0
          obtain rfl := Option.some.inj H
          go_wp2
          go_ret
          exact ⟨_, by first | rfl | (simp [errW_none, errW_some] <;> rfl) | (simp [*, errW_none, errW_some] <;> rfl), by (with_reducible repeat (first | apply Kd.N_alloc | apply Kd.N_drewN | apply Kd.N_drew)); exact HO_9.out, by repeat (first | (with_reducible first | exact HB.out | apply below_alloc | apply pw_below_drewN | apply below_drew1) | exact HB.out)⟩
  · rw [if_neg c5] at H
    exact absurd H (by simp)
end Go.Proofs.Ytegnmdnflmlioaa.PWillPlays
