import Derived.Test.YtjhhnidfmoejdaaDoorD25
namespace Go.Proofs.YtjhhnidfmoejdaaDoor
open Go.RowKit Go.Lib Go.Proofs.YtjhhnidfmoejdaaDoor.PLedgerPlays Go.Proofs.YtjhhnidfmoejdaaDoorW.PrintWords Go.Proofs.YtjhhnidfmoejdaaDoorW.PrintLast
set_option maxRecDepth 10000
set_option linter.unusedVariables false
set_option linter.unusedSimpArgs false
set_option maxHeartbeats 2000000
namespace R25
abbrev AcT : Nat := 49
abbrev actC (kd what id qos code : Int) (dup : Bool) (name : BA) : Array Value := #[.int .i64 kd, .int .i64 what, .int .u32 id, .int .u8 qos, .int .u8 code, .bool dup, .string name]
def DoesPost (W w : World) (n K : Nat) (cs : List Nat) : Ending → World → Prop := Px fun (r : Lg × Rx × Vs) e w' => e = .returned (r.2.2.val r.2.1.n) ∧ Dy W w' n r.1 r.2.1 r.2.2 cs ∧ Rel (K + 1) r.1 r.2.1 ∧ ∀ c ∈ cs, w'.heap[c]? = w.heap[c]?
structure B3 (W w w' : World) (n : Nat) (S : Lg) (x : Rx) (v : Vs) (cs : List Nat) (nn kd what id qos code : Int) (dup : Bool) (name : BA) : Prop where
  b4 : Blk w' w.heap.size #[v.a, v.b, v.c, .int .i64 nn, v.d] SbT
  b5 : Blk w' (w.heap.size + 1) (actC kd what id qos code dup name) AcT
  b6 : Blk w' (w.heap.size + 1 + 1) #[.slice none 0 0, .slice none 0 0, .slice none 0 0, .int .i64 0, .slice none 0 0] SbT
  dy : Dy W w' n S x v ((w.heap.size + 1 + 1) :: (w.heap.size + 1) :: w.heap.size :: cs)
  k : ∀ c ∈ cs, w'.heap[c]? = w.heap[c]?
section
variable {W w w' w'' : World} {n : Nat} {S S' : Lg} {x x' : Rx} {v v' : Vs} {cs : List Nat} {nn kd what id qos code : Int} {dup : Bool} {name : BA}
theorem B3.lay (h : Dy W w n S x v cs) (hn : x.n = nn) : B3 W w (((w.alloc (.cells #[v.a, v.b, v.c, .int .i64 nn, v.d] SbT)).alloc (.cells (actC kd what id qos code dup name) AcT)).alloc (.cells #[.slice none 0 0, .slice none 0 0, .slice none 0 0, .int .i64 0, .slice none 0 0] SbT)) n S x v cs nn kd what id qos code dup name := by
  have k1 := (Keep.refl [] w).alloc (.cells #[v.a, v.b, v.c, .int .i64 nn, v.d] SbT)
  have h1 := h.add k1 (Nat.le_refl _) (by simp)
  have h2 := h1.add ((Keep.refl [] _).alloc (.cells (actC kd what id qos code dup name) AcT)) (b := w.heap.size + 1) (by simp) (by simp)
  have h3 := h2.add ((Keep.refl [] _).alloc (.cells #[.slice none 0 0, .slice none 0 0, .slice none 0 0, .int .i64 0, .slice none 0 0] SbT)) (b := w.heap.size + 1 + 1) (by simp) (by simp)
  exact ⟨((Blk.new w _ _).alloc _).alloc _, (Blk.new' _ _ (by simp)).alloc _, Blk.new' _ _ (by simp), h3, fun c hc => ((k1.alloc _).alloc _).block c (h.lt hc) (by simp)⟩
theorem B3.keep (h : B3 W w w' n S x v cs nn kd what id qos code dup name) (hk : Keep [] w' w'') : B3 W w w'' n S x v cs nn kd what id qos code dup name :=
  ⟨h.b4.keep hk (by simp), h.b5.keep hk (by simp), h.b6.keep hk (by simp), h.dy.keep hk, fun c hc => (hk.block c (h.dy.lt (by simp [hc])) (by simp)).trans (h.k c hc)⟩
theorem B3.move (h : B3 W w w' n S x v cs nn kd what id qos code dup name) (hd : Dy W w'' n S' x' v' ((w.heap.size + 1 + 1) :: (w.heap.size + 1) :: w.heap.size :: cs)) (hb : ∀ c ∈ ((w.heap.size + 1 + 1) :: (w.heap.size + 1) :: w.heap.size :: cs), w''.heap[c]? = w'.heap[c]?) :
    Blk w'' w.heap.size #[v.a, v.b, v.c, .int .i64 nn, v.d] SbT ∧ Blk w'' (w.heap.size + 1) (actC kd what id qos code dup name) AcT ∧ Blk w'' (w.heap.size + 1 + 1) #[.slice none 0 0, .slice none 0 0, .slice none 0 0, .int .i64 0, .slice none 0 0] SbT ∧ (∀ c ∈ cs, w''.heap[c]? = w.heap[c]?) :=
  ⟨h.b4.of_block (hb _ (by simp)), h.b5.of_block (hb _ (by simp)), h.b6.of_block (hb _ (by simp)), fun c hc => (hb c (by simp [hc])).trans (h.k c hc)⟩
theorem B3.said (h : B3 W w w' n S x v cs nn kd what id qos code dup name) (hd : Dy W w'' n S' x v ((w.heap.size + 1 + 1) :: (w.heap.size + 1) :: w.heap.size :: cs)) (hb : ∀ c ∈ ((w.heap.size + 1 + 1) :: (w.heap.size + 1) :: w.heap.size :: cs), w''.heap[c]? = w'.heap[c]?) : B3 W w w'' n S' x v cs nn kd what id qos code dup name := by
  obtain ⟨h1, h2, h3, h4⟩ := h.move hd hb
  exact ⟨h1, h2, h3, hd, h4⟩
theorem does_end {base : Nat} (hW : W.heap.size ≤ w.heap.size) (h6 : Blk w' (w.heap.size + 1 + 1) #[.slice none 0 0, .slice none 0 0, .slice none 0 0, .int .i64 0, .slice none 0 0] SbT) (hd : Dy W w' n S x v ((w.heap.size + 1 + 1) :: (w.heap.size + 1) :: w.heap.size :: cs)) (hk : ∀ c ∈ cs, w'.heap[c]? = w.heap[c]?) (hcs : ∀ c ∈ cs, c < w.heap.size) (hn : x.n = nn) :
    Blk (set5 w' (w.heap.size + 1 + 1) v.a v.b v.c (.int .i64 nn) v.d) (w.heap.size + 1 + 1) #[v.a, v.b, v.c, .int .i64 nn, v.d] SbT ∧ Dy W (set5 w' (w.heap.size + 1 + 1) v.a v.b v.c (.int .i64 nn) v.d) n S x v cs ∧ ∀ c ∈ cs, (set5 w' (w.heap.size + 1 + 1) v.a v.b v.c (.int .i64 nn) v.d).heap[c]? = w.heap[c]? := by
  obtain ⟨h1, h2⟩ := set5_blk h6 v.a v.b v.c (.int .i64 nn) v.d
  exact ⟨h1, (hd.other (by simp) (by omega) h2).sub (fun c hc => by simp [hc]), fun c hc => (h2.block c (hd.lt (by simp [hc])) (by simp; have := hcs c hc; omega)).trans (hk c hc)⟩
end
theorem sent_ne {S : Lg} {q id : Int} {d : Bool} {tp pl : BA} (h : q ≠ 2) : S.sent d q id tp pl = S := if_pos h
theorem came_ne {S : Lg} {q id : Int} (h : q ≠ 2) : S.came q id = S := if_pos h
theorem val_eq {a b c d : Value} {m n : Int} (h : m = n) : Ending.returned (.agg #[a, b, c, .int .i64 n, d]) = Ending.returned (Vs.val ⟨a, b, c, d⟩ m) := by rw [h]
theorem does_2 {W w : World} {n K : Nat} {S : Lg} {x : Rx} {v : Vs} {cs : List Nat} (hT : Tab W) (h : Dy W w n S x v cs) (hR : Rel K S x) (hK : K < 100) (what id qos code : Int) (dup : Bool) (name : BA) (hi : 0 ≤ id) (hq : 0 ≤ qos ∧ qos ≤ 255) (hc : 0 ≤ code ∧ code ≤ 255)  :
    Calls Tryd.prog 12 #[ptrTo n, v.val x.n, .agg (actC 2 what id qos code dup name)] w (DoesPost W w n K cs) := by
  obtain ⟨A0, n0, c0, A1, n1, c1, A2, n2, c2, A3, n3, c3, hv⟩ := h.m.form
  obtain ⟨nn, hnn⟩ : ∃ n, x.n = n := ⟨_, rfl⟩
  have hb3 := B3.lay (kd := 2) (what := what) (id := id) (qos := qos) (code := code) (dup := dup) (name := name) h hnn
  have hcut := cut01_any name 10
  have hm0 : 0 ≤ id % 70000 := Int.emod_nonneg _ (by decide)
  have hm1 : id % 70000 < 70000 := Int.emod_lt_of_pos _ (by decide)
  have hmt : Int.tmod id 70000 = id % 70000 := Int.tmod_eq_emod_of_nonneg hi
  have hqt : Int.tmod qos 3 = qos % 3 := Int.tmod_eq_emod_of_nonneg hq.1
  have hdiv := Int.emod_nonneg qos (show (3 : Int) ≠ 0 by decide)
  have hmod := Int.emod_lt_of_pos qos (show (0 : Int) < 3 by decide)
  have HLT := hide (fun c (hc : c ∈ cs) => h.lt hc)
  have HWW := hide h.below.size
  generalize cutS name 10 = nm at hcut
  obtain ⟨i, hi'⟩ : ∃ i, id % 70000 = i := ⟨_, rfl⟩
  rw [hi'] at hm0 hm1 hmt
  have hw1 : IntKind.u32.wrap i = i := IntWalk.u32_in _ (by omega)
  have hw2 : IntKind.i64.wrap i = i := IntWalk.i64_in _ (by omega)
  have hw3 : IntKind.i64.wrap code = code := IntWalk.i64_in _ (by omega)
  have HM := hide (And.intro hm0 hm1)
  have HNN := hide hnn
  have HR := hide hR
  have HT := hide hT
  rw [hnn]
  subst hv
  simp only [Vs.val] at hb3 ⊢
  obtain ⟨wz, hwz⟩ : ∃ wz, (((w.alloc (.cells #[.slice A0 n0 c0, .slice A1 n1 c1, .slice A2 n2 c2, .int .i64 nn, .slice A3 n3 c3] SbT)).alloc (.cells (actC 2 what id qos code dup name) AcT)).alloc (.cells #[.slice none 0 0, .slice none 0 0, .slice none 0 0, .int .i64 0, .slice none 0 0] SbT)) = wz := ⟨_, rfl⟩
  rw [hwz] at hb3
  obtain ⟨q0, q1, q2, q3, q4⟩ := hb3.b4.cells5
  obtain ⟨a0, a1, a2, a3, a4, a5, a6⟩ := hb3.b5.cells7
  have HB := hide hb3
  have HC := hide hcut
  clear h hR hT hb3 hcut hnn hm0 hm1 hi hq hi' hdiv hmod hc
  go_enter Tryd.func12, Tryd.ntmps12
  go_wp2_with fail
  refine (HC.out _).mono ?_
  rintro e wz' ⟨rfl, rfl⟩
  go_wp2_with fail
  refine (HB.out.dy.call (fun bs hRn => rSaidRel HT.out hRn HR.out.ok (by omega) i code HM.out.1 (by have := HM.out.2; omega) none 0 0)).mono ?_
  rintro e w2 ⟨rfl, hd2, hb2⟩
  have hb3 := HB.out.said hd2 hb2
  obtain ⟨q0, q1, q2, q3, q4⟩ := hb3.b4.cells5
  obtain ⟨a0, a1, a2, a3, a4, a5, a6⟩ := hb3.b5.cells7
  obtain ⟨f0, f1, f2, f3, f4⟩ := hb3.b6.froz5
  obtain ⟨r0, r1, r2, r3, r4⟩ := hb3.b6.cells5
  have HB2 := hide hb3
  clear hd2 hb2 hb3 hwz
  have hcall := HB2.out.dy.ref (mReleased HB2.out.dy.below HB2.out.dy.m (by have := HR.out.ol; omega) (by have := HR.out.el; rw [← HR.out.E] at this; omega) i code HM.out.1 (by have := HM.out.2; omega))
  simp only [HNN.out, Vs.val] at hcall
  have HCL := hide hcall
  clear hcall
  go_wp2_with fail
  refine HCL.out.mono ?_
  rintro e w4 ⟨v4, rfl, hd4, hb4⟩
  obtain ⟨h44, h45, h46, hk4⟩ := HB2.out.move hd4 hb4
  obtain ⟨nn4, hnn4⟩ : ∃ n, (x.released i code).n = n := ⟨_, rfl⟩
  have hE := does_end (base := 0) HWW.out h46 hd4 hk4 HLT.out hnn4
  have hHR := hide (HR.out.rel i code)
  obtain ⟨B0, m0, d0, B1, m1, d1, B2, m2, d2, B3, m3, d3, rfl⟩ := hd4.m.form
  obtain ⟨f0, f1, f2, f3, f4⟩ := h46.froz5
  obtain ⟨r0, r1, r2, r3, r4⟩ := h46.cells5
  simp only [set5] at hE
  have HE := hide hE
  simp only [Vs.val, hnn4]
  have HN4 := hide hnn4
  clear h44 h45 h46 hk4 hd4 hb4 hE hnn4 HCL q0 q1 q2 q3 q4 a0 a1 a2 a3 a4 a5 a6
  go_wp2_with fail
  obtain ⟨hR9, hD9, hK9⟩ := HE.out
  obtain ⟨w9, hw9⟩ : ∃ w9, (((((w4.setCell { block := w.heap.size + 1 + 1, off := 0 } (Value.slice B0 m0 d0)).setCell { block := w.heap.size + 1 + 1, off := 1 } (Value.slice B1 m1 d1)).setCell { block := w.heap.size + 1 + 1, off := 2 } (Value.slice B2 m2 d2)).setCell { block := w.heap.size + 1 + 1, off := 3 } (Value.int IntKind.i64 nn4)).setCell { block := w.heap.size + 1 + 1, off := 4 } (Value.slice B3 m3 d3)) = w9 := ⟨_, rfl⟩
  rw [hw9] at hR9 hD9 hK9 ⊢
  obtain ⟨e0, e1, e2, e3, e4⟩ := hR9.cells5
  refine bodyPost_ret (v := .agg #[.slice B0 m0 d0, .slice B1 m1 d1, .slice B2 m2 d2, .int .i64 nn4, .slice B3 m3 d3]) ?_ rfl ?_
  · simp [results, Tryd.results12, go_sem, e0, e1, e2, e3, e4]
  · exact ⟨(S.rel i code, x.released i code, ⟨.slice B0 m0 d0, .slice B1 m1 d1, .slice B2 m2 d2, .slice B3 m3 d3⟩), val_eq HN4.out, hD9, hHR.out, hK9⟩
theorem does_1 {W w : World} {n K : Nat} {S : Lg} {x : Rx} {v : Vs} {cs : List Nat} (hT : Tab W) (h : Dy W w n S x v cs) (hR : Rel K S x) (hK : K < 100) (what id qos code : Int) (dup : Bool) (name : BA) (hi : 0 ≤ id) (hq : 0 ≤ qos ∧ qos ≤ 255) (hc : 0 ≤ code ∧ code ≤ 255) (hq2 : qos % 3 = 2) :
    Calls Tryd.prog 12 #[ptrTo n, v.val x.n, .agg (actC 1 what id qos code dup name)] w (DoesPost W w n K cs) := by
  obtain ⟨A0, n0, c0, A1, n1, c1, A2, n2, c2, A3, n3, c3, hv⟩ := h.m.form
  obtain ⟨nn, hnn⟩ : ∃ n, x.n = n := ⟨_, rfl⟩
  have hb3 := B3.lay (kd := 1) (what := what) (id := id) (qos := qos) (code := code) (dup := dup) (name := name) h hnn
  have hcut := cut01_any name 10
  have hm0 : 0 ≤ id % 70000 := Int.emod_nonneg _ (by decide)
  have hm1 : id % 70000 < 70000 := Int.emod_lt_of_pos _ (by decide)
  have hmt : Int.tmod id 70000 = id % 70000 := Int.tmod_eq_emod_of_nonneg hi
  have hqt : Int.tmod qos 3 = qos % 3 := Int.tmod_eq_emod_of_nonneg hq.1
  have hdiv := Int.emod_nonneg qos (show (3 : Int) ≠ 0 by decide)
  have hmod := Int.emod_lt_of_pos qos (show (0 : Int) < 3 by decide)
  have HLT := hide (fun c (hc : c ∈ cs) => h.lt hc)
  have HWW := hide h.below.size
  have hqe := hq2
  generalize cutS name 10 = nm at hcut
  obtain ⟨i, hi'⟩ : ∃ i, id % 70000 = i := ⟨_, rfl⟩
  rw [hi'] at hm0 hm1 hmt
  have hw1 : IntKind.u32.wrap i = i := IntWalk.u32_in _ (by omega)
  have hw2 : IntKind.i64.wrap i = i := IntWalk.i64_in _ (by omega)
  have hw3 : IntKind.i64.wrap code = code := IntWalk.i64_in _ (by omega)
  have HM := hide (And.intro hm0 hm1)
  have HNN := hide hnn
  have HR := hide hR
  have HT := hide hT
  rw [hnn]
  subst hv
  simp only [Vs.val] at hb3 ⊢
  obtain ⟨wz, hwz⟩ : ∃ wz, (((w.alloc (.cells #[.slice A0 n0 c0, .slice A1 n1 c1, .slice A2 n2 c2, .int .i64 nn, .slice A3 n3 c3] SbT)).alloc (.cells (actC 1 what id qos code dup name) AcT)).alloc (.cells #[.slice none 0 0, .slice none 0 0, .slice none 0 0, .int .i64 0, .slice none 0 0] SbT)) = wz := ⟨_, rfl⟩
  rw [hwz] at hb3
  obtain ⟨q0, q1, q2, q3, q4⟩ := hb3.b4.cells5
  obtain ⟨a0, a1, a2, a3, a4, a5, a6⟩ := hb3.b5.cells7
  have HB := hide hb3
  have HC := hide hcut
  clear h hR hT hb3 hcut hnn hm0 hm1 hi hq hi' hdiv hmod hc
  go_enter Tryd.func12, Tryd.ntmps12
  go_wp2_with fail
  refine (HC.out _).mono ?_
  rintro e wz' ⟨rfl, rfl⟩
  go_wp2_with fail
  refine (HB.out.dy.call (fun bs hRn => rSaidPub HT.out hRn HR.out.ok (by omega) dup false 2 i HM.out.1 (by have := HM.out.2; omega) none 0 0 nm ⟨#[]⟩)).mono ?_
  rintro e w2 ⟨rfl, hd2, hb2⟩
  have hb3 := HB.out.said hd2 hb2
  obtain ⟨q0, q1, q2, q3, q4⟩ := hb3.b4.cells5
  obtain ⟨a0, a1, a2, a3, a4, a5, a6⟩ := hb3.b5.cells7
  obtain ⟨f0, f1, f2, f3, f4⟩ := hb3.b6.froz5
  obtain ⟨r0, r1, r2, r3, r4⟩ := hb3.b6.cells5
  have HB2 := hide hb3
  clear hd2 hb2 hb3 hwz
  have hcall := HB2.out.dy.ref (mSent HB2.out.dy.below HB2.out.dy.m (by have := HR.out.ol; omega) (by have := HR.out.el; rw [← HR.out.E] at this; omega) i nm ⟨#[]⟩ dup HM.out.1 (by have := HM.out.2; omega))
  simp only [HNN.out, Vs.val] at hcall
  have HCL := hide hcall
  clear hcall
  go_wp2_with fail
  refine HCL.out.mono ?_
  rintro e w4 ⟨v4, rfl, hd4, hb4⟩
  obtain ⟨h44, h45, h46, hk4⟩ := HB2.out.move hd4 hb4
  obtain ⟨nn4, hnn4⟩ : ∃ n, (x.sent i nm ⟨#[]⟩ dup).n = n := ⟨_, rfl⟩
  have hE := does_end (base := 0) HWW.out h46 hd4 hk4 HLT.out hnn4
  have hHR := hide (HR.out.sent (by omega) i nm ⟨#[]⟩ dup HM.out.1 (by have := HM.out.2; omega))
  obtain ⟨B0, m0, d0, B1, m1, d1, B2, m2, d2, B3, m3, d3, rfl⟩ := hd4.m.form
  obtain ⟨f0, f1, f2, f3, f4⟩ := h46.froz5
  obtain ⟨r0, r1, r2, r3, r4⟩ := h46.cells5
  simp only [set5] at hE
  have HE := hide hE
  simp only [Vs.val, hnn4]
  have HN4 := hide hnn4
  clear h44 h45 h46 hk4 hd4 hb4 hE hnn4 HCL q0 q1 q2 q3 q4 a0 a1 a2 a3 a4 a5 a6
  go_wp2_with fail
  obtain ⟨hR9, hD9, hK9⟩ := HE.out
  obtain ⟨w9, hw9⟩ : ∃ w9, (((((w4.setCell { block := w.heap.size + 1 + 1, off := 0 } (Value.slice B0 m0 d0)).setCell { block := w.heap.size + 1 + 1, off := 1 } (Value.slice B1 m1 d1)).setCell { block := w.heap.size + 1 + 1, off := 2 } (Value.slice B2 m2 d2)).setCell { block := w.heap.size + 1 + 1, off := 3 } (Value.int IntKind.i64 nn4)).setCell { block := w.heap.size + 1 + 1, off := 4 } (Value.slice B3 m3 d3)) = w9 := ⟨_, rfl⟩
  rw [hw9] at hR9 hD9 hK9 ⊢
  obtain ⟨e0, e1, e2, e3, e4⟩ := hR9.cells5
  refine bodyPost_ret (v := .agg #[.slice B0 m0 d0, .slice B1 m1 d1, .slice B2 m2 d2, .int .i64 nn4, .slice B3 m3 d3]) ?_ rfl ?_
  · simp [results, Tryd.results12, go_sem, e0, e1, e2, e3, e4]
  · exact ⟨(S.sent dup 2 i nm ⟨#[]⟩, x.sent i nm ⟨#[]⟩ dup, ⟨.slice B0 m0 d0, .slice B1 m1 d1, .slice B2 m2 d2, .slice B3 m3 d3⟩), val_eq HN4.out, hD9, hHR.out, hK9⟩
theorem does_1n {W w : World} {n K : Nat} {S : Lg} {x : Rx} {v : Vs} {cs : List Nat} (hT : Tab W) (h : Dy W w n S x v cs) (hR : Rel K S x) (hK : K < 100) (what id qos code : Int) (dup : Bool) (name : BA) (hi : 0 ≤ id) (hq : 0 ≤ qos ∧ qos ≤ 255) (hc : 0 ≤ code ∧ code ≤ 255) (hq2 : qos % 3 ≠ 2) :
    Calls Tryd.prog 12 #[ptrTo n, v.val x.n, .agg (actC 1 what id qos code dup name)] w (DoesPost W w n K cs) := by
  obtain ⟨A0, n0, c0, A1, n1, c1, A2, n2, c2, A3, n3, c3, hv⟩ := h.m.form
  obtain ⟨nn, hnn⟩ : ∃ n, x.n = n := ⟨_, rfl⟩
  have hb3 := B3.lay (kd := 1) (what := what) (id := id) (qos := qos) (code := code) (dup := dup) (name := name) h hnn
  have hcut := cut01_any name 10
  have hm0 : 0 ≤ id % 70000 := Int.emod_nonneg _ (by decide)
  have hm1 : id % 70000 < 70000 := Int.emod_lt_of_pos _ (by decide)
  have hmt : Int.tmod id 70000 = id % 70000 := Int.tmod_eq_emod_of_nonneg hi
  have hqt : Int.tmod qos 3 = qos % 3 := Int.tmod_eq_emod_of_nonneg hq.1
  have hdiv := Int.emod_nonneg qos (show (3 : Int) ≠ 0 by decide)
  have hmod := Int.emod_lt_of_pos qos (show (0 : Int) < 3 by decide)
  have HLT := hide (fun c (hc : c ∈ cs) => h.lt hc)
  have HWW := hide h.below.size
  have hqe : (qos % 3 == 2) = false := by simpa using hq2
  generalize cutS name 10 = nm at hcut
  obtain ⟨i, hi'⟩ : ∃ i, id % 70000 = i := ⟨_, rfl⟩
  rw [hi'] at hm0 hm1 hmt
  have hw1 : IntKind.u32.wrap i = i := IntWalk.u32_in _ (by omega)
  have hw2 : IntKind.i64.wrap i = i := IntWalk.i64_in _ (by omega)
  have hw3 : IntKind.i64.wrap code = code := IntWalk.i64_in _ (by omega)
  have HM := hide (And.intro hm0 hm1)
  have HNN := hide hnn
  have HR := hide hR
  have HT := hide hT
  rw [hnn]
  subst hv
  simp only [Vs.val] at hb3 ⊢
  obtain ⟨wz, hwz⟩ : ∃ wz, (((w.alloc (.cells #[.slice A0 n0 c0, .slice A1 n1 c1, .slice A2 n2 c2, .int .i64 nn, .slice A3 n3 c3] SbT)).alloc (.cells (actC 1 what id qos code dup name) AcT)).alloc (.cells #[.slice none 0 0, .slice none 0 0, .slice none 0 0, .int .i64 0, .slice none 0 0] SbT)) = wz := ⟨_, rfl⟩
  rw [hwz] at hb3
  obtain ⟨q0, q1, q2, q3, q4⟩ := hb3.b4.cells5
  obtain ⟨a0, a1, a2, a3, a4, a5, a6⟩ := hb3.b5.cells7
  have HB := hide hb3
  have HC := hide hcut
  clear h hR hT hb3 hcut hnn hm0 hm1 hi hq hi' hdiv hmod hc
  go_enter Tryd.func12, Tryd.ntmps12
  go_wp2_with fail
  refine (HC.out _).mono ?_
  rintro e wz' ⟨rfl, rfl⟩
  go_wp2_with fail
  refine (HB.out.dy.call (fun bs hRn => rSaidPub HT.out hRn HR.out.ok (by omega) dup false (qos % 3) i HM.out.1 (by have := HM.out.2; omega) none 0 0 nm ⟨#[]⟩)).mono ?_
  rintro e w2 ⟨rfl, hd2, hb2⟩
  have hb3 := HB.out.said hd2 hb2
  obtain ⟨q0, q1, q2, q3, q4⟩ := hb3.b4.cells5
  obtain ⟨a0, a1, a2, a3, a4, a5, a6⟩ := hb3.b5.cells7
  obtain ⟨f0, f1, f2, f3, f4⟩ := hb3.b6.froz5
  obtain ⟨r0, r1, r2, r3, r4⟩ := hb3.b6.cells5
  have HB2 := hide hb3
  clear hd2 hb2 hb3 hwz
  have hE := does_end (base := 0) HWW.out HB2.out.b6 HB2.out.dy HB2.out.k HLT.out HNN.out
  simp only [set5] at hE
  have HE := hide hE
  clear hE
  go_wp2_with fail
  obtain ⟨hR9, hD9, hK9⟩ := HE.out
  obtain ⟨w9, hw9⟩ : ∃ w9, (((((w2.setCell { block := w.heap.size + 1 + 1, off := 0 } (Value.slice A0 n0 c0)).setCell { block := w.heap.size + 1 + 1, off := 1 } (Value.slice A1 n1 c1)).setCell { block := w.heap.size + 1 + 1, off := 2 } (Value.slice A2 n2 c2)).setCell { block := w.heap.size + 1 + 1, off := 3 } (Value.int IntKind.i64 nn)).setCell { block := w.heap.size + 1 + 1, off := 4 } (Value.slice A3 n3 c3)) = w9 := ⟨_, rfl⟩
  rw [hw9] at hR9 hD9 hK9 ⊢
  obtain ⟨e0, e1, e2, e3, e4⟩ := hR9.cells5
  refine bodyPost_ret (v := .agg #[.slice A0 n0 c0, .slice A1 n1 c1, .slice A2 n2 c2, .int .i64 nn, .slice A3 n3 c3]) ?_ rfl ?_
  · simp [results, Tryd.results12, go_sem, e0, e1, e2, e3, e4]
  · exact ⟨(S.sent dup (qos % 3) i nm ⟨#[]⟩, x, ⟨.slice A0 n0 c0, .slice A1 n1 c1, .slice A2 n2 c2, .slice A3 n3 c3⟩), val_eq HNN.out, hD9, (show Rel (K + 1) (S.sent dup (qos % 3) i nm ⟨#[]⟩) x by rw [sent_ne hq2]; exact HR.out.mono (Nat.le_succ K)), hK9⟩
theorem does_3t {W w : World} {n K : Nat} {S : Lg} {x : Rx} {v : Vs} {cs : List Nat} (hT : Tab W) (h : Dy W w n S x v cs) (hR : Rel K S x) (hK : K < 100) (what id qos code : Int) (name : BA) (hi : 0 ≤ id) (hq : 0 ≤ qos ∧ qos ≤ 255) (hc : 0 ≤ code ∧ code ≤ 255)  :
    Calls Tryd.prog 12 #[ptrTo n, v.val x.n, .agg (actC 3 what id qos code true name)] w (DoesPost W w n K cs) := by
  obtain ⟨A0, n0, c0, A1, n1, c1, A2, n2, c2, A3, n3, c3, hv⟩ := h.m.form
  obtain ⟨nn, hnn⟩ : ∃ n, x.n = n := ⟨_, rfl⟩
  have hb3 := B3.lay (kd := 3) (what := what) (id := id) (qos := qos) (code := code) (dup := true) (name := name) h hnn
  have hcut := cut01_any name 10
  have hm0 : 0 ≤ id % 70000 := Int.emod_nonneg _ (by decide)
  have hm1 : id % 70000 < 70000 := Int.emod_lt_of_pos _ (by decide)
  have hmt : Int.tmod id 70000 = id % 70000 := Int.tmod_eq_emod_of_nonneg hi
  have hqt : Int.tmod qos 3 = qos % 3 := Int.tmod_eq_emod_of_nonneg hq.1
  have hdiv := Int.emod_nonneg qos (show (3 : Int) ≠ 0 by decide)
  have hmod := Int.emod_lt_of_pos qos (show (0 : Int) < 3 by decide)
  have HLT := hide (fun c (hc : c ∈ cs) => h.lt hc)
  have HWW := hide h.below.size
  generalize cutS name 10 = nm at hcut
  obtain ⟨i, hi'⟩ : ∃ i, id % 70000 = i := ⟨_, rfl⟩
  rw [hi'] at hm0 hm1 hmt
  have hw1 : IntKind.u32.wrap i = i := IntWalk.u32_in _ (by omega)
  have hw2 : IntKind.i64.wrap i = i := IntWalk.i64_in _ (by omega)
  have hw3 : IntKind.i64.wrap code = code := IntWalk.i64_in _ (by omega)
  have HM := hide (And.intro hm0 hm1)
  have HNN := hide hnn
  have HR := hide hR
  have HT := hide hT
  rw [hnn]
  subst hv
  simp only [Vs.val] at hb3 ⊢
  obtain ⟨wz, hwz⟩ : ∃ wz, (((w.alloc (.cells #[.slice A0 n0 c0, .slice A1 n1 c1, .slice A2 n2 c2, .int .i64 nn, .slice A3 n3 c3] SbT)).alloc (.cells (actC 3 what id qos code true name) AcT)).alloc (.cells #[.slice none 0 0, .slice none 0 0, .slice none 0 0, .int .i64 0, .slice none 0 0] SbT)) = wz := ⟨_, rfl⟩
  rw [hwz] at hb3
  obtain ⟨q0, q1, q2, q3, q4⟩ := hb3.b4.cells5
  obtain ⟨a0, a1, a2, a3, a4, a5, a6⟩ := hb3.b5.cells7
  have HB := hide hb3
  have HC := hide hcut
  clear h hR hT hb3 hcut hnn hm0 hm1 hi hq hi' hdiv hmod hc
  go_enter Tryd.func12, Tryd.ntmps12
  go_wp2_with fail
  refine (HC.out _).mono ?_
  rintro e wz' ⟨rfl, rfl⟩
  go_wp2_with fail
  refine (HB.out.dy.call (fun bs hRn => rConThere hRn 0 none 0 0)).mono ?_
  rintro e w2 ⟨rfl, hd2, hb2⟩
  have hb3 := HB.out.said hd2 hb2
  obtain ⟨q0, q1, q2, q3, q4⟩ := hb3.b4.cells5
  obtain ⟨a0, a1, a2, a3, a4, a5, a6⟩ := hb3.b5.cells7
  obtain ⟨f0, f1, f2, f3, f4⟩ := hb3.b6.froz5
  obtain ⟨r0, r1, r2, r3, r4⟩ := hb3.b6.cells5
  have HB2 := hide hb3
  clear hd2 hb2 hb3 hwz
  have hE := does_end (base := 0) HWW.out HB2.out.b6 HB2.out.dy HB2.out.k HLT.out HNN.out
  simp only [set5] at hE
  have HE := hide hE
  clear hE
  go_wp2_with fail
  obtain ⟨hR9, hD9, hK9⟩ := HE.out
  obtain ⟨w9, hw9⟩ : ∃ w9, (((((w2.setCell { block := w.heap.size + 1 + 1, off := 0 } (Value.slice A0 n0 c0)).setCell { block := w.heap.size + 1 + 1, off := 1 } (Value.slice A1 n1 c1)).setCell { block := w.heap.size + 1 + 1, off := 2 } (Value.slice A2 n2 c2)).setCell { block := w.heap.size + 1 + 1, off := 3 } (Value.int IntKind.i64 nn)).setCell { block := w.heap.size + 1 + 1, off := 4 } (Value.slice A3 n3 c3)) = w9 := ⟨_, rfl⟩
  rw [hw9] at hR9 hD9 hK9 ⊢
  obtain ⟨e0, e1, e2, e3, e4⟩ := hR9.cells5
  refine bodyPost_ret (v := .agg #[.slice A0 n0 c0, .slice A1 n1 c1, .slice A2 n2 c2, .int .i64 nn, .slice A3 n3 c3]) ?_ rfl ?_
  · simp [results, Tryd.results12, go_sem, e0, e1, e2, e3, e4]
  · exact ⟨(S, x, ⟨.slice A0 n0 c0, .slice A1 n1 c1, .slice A2 n2 c2, .slice A3 n3 c3⟩), val_eq HNN.out, hD9, HR.out.mono (Nat.le_succ K), hK9⟩
theorem does_3f {W w : World} {n K : Nat} {S : Lg} {x : Rx} {v : Vs} {cs : List Nat} (hT : Tab W) (h : Dy W w n S x v cs) (hR : Rel K S x) (hK : K < 100) (what id qos code : Int) (name : BA) (hi : 0 ≤ id) (hq : 0 ≤ qos ∧ qos ≤ 255) (hc : 0 ≤ code ∧ code ≤ 255)  :
    Calls Tryd.prog 12 #[ptrTo n, v.val x.n, .agg (actC 3 what id qos code false name)] w (DoesPost W w n K cs) := by
  obtain ⟨A0, n0, c0, A1, n1, c1, A2, n2, c2, A3, n3, c3, hv⟩ := h.m.form
  obtain ⟨nn, hnn⟩ : ∃ n, x.n = n := ⟨_, rfl⟩
  have hb3 := B3.lay (kd := 3) (what := what) (id := id) (qos := qos) (code := code) (dup := false) (name := name) h hnn
  have hcut := cut01_any name 10
  have hm0 : 0 ≤ id % 70000 := Int.emod_nonneg _ (by decide)
  have hm1 : id % 70000 < 70000 := Int.emod_lt_of_pos _ (by decide)
  have hmt : Int.tmod id 70000 = id % 70000 := Int.tmod_eq_emod_of_nonneg hi
  have hqt : Int.tmod qos 3 = qos % 3 := Int.tmod_eq_emod_of_nonneg hq.1
  have hdiv := Int.emod_nonneg qos (show (3 : Int) ≠ 0 by decide)
  have hmod := Int.emod_lt_of_pos qos (show (0 : Int) < 3 by decide)
  have HLT := hide (fun c (hc : c ∈ cs) => h.lt hc)
  have HWW := hide h.below.size
  generalize cutS name 10 = nm at hcut
  obtain ⟨i, hi'⟩ : ∃ i, id % 70000 = i := ⟨_, rfl⟩
  rw [hi'] at hm0 hm1 hmt
  have hw1 : IntKind.u32.wrap i = i := IntWalk.u32_in _ (by omega)
  have hw2 : IntKind.i64.wrap i = i := IntWalk.i64_in _ (by omega)
  have hw3 : IntKind.i64.wrap code = code := IntWalk.i64_in _ (by omega)
  have HM := hide (And.intro hm0 hm1)
  have HNN := hide hnn
  have HR := hide hR
  have HT := hide hT
  rw [hnn]
  subst hv
  simp only [Vs.val] at hb3 ⊢
  obtain ⟨wz, hwz⟩ : ∃ wz, (((w.alloc (.cells #[.slice A0 n0 c0, .slice A1 n1 c1, .slice A2 n2 c2, .int .i64 nn, .slice A3 n3 c3] SbT)).alloc (.cells (actC 3 what id qos code false name) AcT)).alloc (.cells #[.slice none 0 0, .slice none 0 0, .slice none 0 0, .int .i64 0, .slice none 0 0] SbT)) = wz := ⟨_, rfl⟩
  rw [hwz] at hb3
  obtain ⟨q0, q1, q2, q3, q4⟩ := hb3.b4.cells5
  obtain ⟨a0, a1, a2, a3, a4, a5, a6⟩ := hb3.b5.cells7
  have HB := hide hb3
  have HC := hide hcut
  clear h hR hT hb3 hcut hnn hm0 hm1 hi hq hi' hdiv hmod hc
  go_enter Tryd.func12, Tryd.ntmps12
  go_wp2_with fail
  refine (HC.out _).mono ?_
  rintro e wz' ⟨rfl, rfl⟩
  go_wp2_with fail
  refine (HB.out.dy.call (fun bs hRn => rConNew hRn 0 none 0 0)).mono ?_
  rintro e w2 ⟨rfl, hd2, hb2⟩
  have hb3 := HB.out.said hd2 hb2
  obtain ⟨q0, q1, q2, q3, q4⟩ := hb3.b4.cells5
  obtain ⟨a0, a1, a2, a3, a4, a5, a6⟩ := hb3.b5.cells7
  obtain ⟨f0, f1, f2, f3, f4⟩ := hb3.b6.froz5
  obtain ⟨r0, r1, r2, r3, r4⟩ := hb3.b6.cells5
  have HB2 := hide hb3
  clear hd2 hb2 hb3 hwz
  have hcall := HB2.out.dy.ref (mFresh HB2.out.dy.below HB2.out.dy.m)
  simp only [HNN.out, Vs.val] at hcall
  have HCL := hide hcall
  clear hcall
  go_wp2_with fail
  refine HCL.out.mono ?_
  rintro e w4 ⟨v4, rfl, hd4, hb4⟩
  obtain ⟨h44, h45, h46, hk4⟩ := HB2.out.move hd4 hb4
  obtain ⟨nn4, hnn4⟩ : ∃ n, (x.fresh).n = n := ⟨_, rfl⟩
  have hE := does_end (base := 0) HWW.out h46 hd4 hk4 HLT.out hnn4
  have hHR := hide (HR.out.fresh)
  obtain ⟨B0, m0, d0, B1, m1, d1, B2, m2, d2, B3, m3, d3, rfl⟩ := hd4.m.form
  obtain ⟨f0, f1, f2, f3, f4⟩ := h46.froz5
  obtain ⟨r0, r1, r2, r3, r4⟩ := h46.cells5
  simp only [set5] at hE
  have HE := hide hE
  simp only [Vs.val, hnn4]
  have HN4 := hide hnn4
  clear h44 h45 h46 hk4 hd4 hb4 hE hnn4 HCL q0 q1 q2 q3 q4 a0 a1 a2 a3 a4 a5 a6
  go_wp2_with fail
  obtain ⟨hR9, hD9, hK9⟩ := HE.out
  obtain ⟨w9, hw9⟩ : ∃ w9, (((((w4.setCell { block := w.heap.size + 1 + 1, off := 0 } (Value.slice B0 m0 d0)).setCell { block := w.heap.size + 1 + 1, off := 1 } (Value.slice B1 m1 d1)).setCell { block := w.heap.size + 1 + 1, off := 2 } (Value.slice B2 m2 d2)).setCell { block := w.heap.size + 1 + 1, off := 3 } (Value.int IntKind.i64 nn4)).setCell { block := w.heap.size + 1 + 1, off := 4 } (Value.slice B3 m3 d3)) = w9 := ⟨_, rfl⟩
  rw [hw9] at hR9 hD9 hK9 ⊢
  obtain ⟨e0, e1, e2, e3, e4⟩ := hR9.cells5
  refine bodyPost_ret (v := .agg #[.slice B0 m0 d0, .slice B1 m1 d1, .slice B2 m2 d2, .int .i64 nn4, .slice B3 m3 d3]) ?_ rfl ?_
  · simp [results, Tryd.results12, go_sem, e0, e1, e2, e3, e4]
  · exact ⟨({ S with M := fun _ => none, tk := [] }, x.fresh, ⟨.slice B0 m0 d0, .slice B1 m1 d1, .slice B2 m2 d2, .slice B3 m3 d3⟩), val_eq HN4.out, hD9, hHR.out, hK9⟩
theorem does_4 {W w : World} {n K : Nat} {S : Lg} {x : Rx} {v : Vs} {cs : List Nat} (hT : Tab W) (h : Dy W w n S x v cs) (hR : Rel K S x) (hK : K < 100) (what id qos code : Int) (dup : Bool) (name : BA) (hi : 0 ≤ id) (hq : 0 ≤ qos ∧ qos ≤ 255) (hc : 0 ≤ code ∧ code ≤ 255) (hq2 : qos % 3 = 2) :
    Calls Tryd.prog 12 #[ptrTo n, v.val x.n, .agg (actC 4 what id qos code dup name)] w (DoesPost W w n K cs) := by
  obtain ⟨A0, n0, c0, A1, n1, c1, A2, n2, c2, A3, n3, c3, hv⟩ := h.m.form
  obtain ⟨nn, hnn⟩ : ∃ n, x.n = n := ⟨_, rfl⟩
  have hb3 := B3.lay (kd := 4) (what := what) (id := id) (qos := qos) (code := code) (dup := dup) (name := name) h hnn
  have hcut := cut01_any name 10
  have hm0 : 0 ≤ id % 70000 := Int.emod_nonneg _ (by decide)
  have hm1 : id % 70000 < 70000 := Int.emod_lt_of_pos _ (by decide)
  have hmt : Int.tmod id 70000 = id % 70000 := Int.tmod_eq_emod_of_nonneg hi
  have hqt : Int.tmod qos 3 = qos % 3 := Int.tmod_eq_emod_of_nonneg hq.1
  have hdiv := Int.emod_nonneg qos (show (3 : Int) ≠ 0 by decide)
  have hmod := Int.emod_lt_of_pos qos (show (0 : Int) < 3 by decide)
  have HLT := hide (fun c (hc : c ∈ cs) => h.lt hc)
  have HWW := hide h.below.size
  have hqe := hq2
  generalize cutS name 10 = nm at hcut
  obtain ⟨i, hi'⟩ : ∃ i, id % 70000 = i := ⟨_, rfl⟩
  rw [hi'] at hm0 hm1 hmt
  have hw1 : IntKind.u32.wrap i = i := IntWalk.u32_in _ (by omega)
  have hw2 : IntKind.i64.wrap i = i := IntWalk.i64_in _ (by omega)
  have hw3 : IntKind.i64.wrap code = code := IntWalk.i64_in _ (by omega)
  have HM := hide (And.intro hm0 hm1)
  have HNN := hide hnn
  have HR := hide hR
  have HT := hide hT
  rw [hnn]
  subst hv
  simp only [Vs.val] at hb3 ⊢
  obtain ⟨wz, hwz⟩ : ∃ wz, (((w.alloc (.cells #[.slice A0 n0 c0, .slice A1 n1 c1, .slice A2 n2 c2, .int .i64 nn, .slice A3 n3 c3] SbT)).alloc (.cells (actC 4 what id qos code dup name) AcT)).alloc (.cells #[.slice none 0 0, .slice none 0 0, .slice none 0 0, .int .i64 0, .slice none 0 0] SbT)) = wz := ⟨_, rfl⟩
  rw [hwz] at hb3
  obtain ⟨q0, q1, q2, q3, q4⟩ := hb3.b4.cells5
  obtain ⟨a0, a1, a2, a3, a4, a5, a6⟩ := hb3.b5.cells7
  have HB := hide hb3
  have HC := hide hcut
  clear h hR hT hb3 hcut hnn hm0 hm1 hi hq hi' hdiv hmod hc
  go_enter Tryd.func12, Tryd.ntmps12
  go_wp2_with fail
  refine (HC.out _).mono ?_
  rintro e wz' ⟨rfl, rfl⟩
  go_wp2_with fail
  refine (HB.out.dy.call (fun bs hRn => rHeardPub hRn false false 2 i (by have := HR.out.tpos i; omega) (by have := HR.out.nb; omega) none 0 0 ⟨#[]⟩ ⟨#[]⟩)).mono ?_
  rintro e w2 ⟨rfl, hd2, hb2⟩
  have hb3 := HB.out.said hd2 hb2
  obtain ⟨q0, q1, q2, q3, q4⟩ := hb3.b4.cells5
  obtain ⟨a0, a1, a2, a3, a4, a5, a6⟩ := hb3.b5.cells7
  obtain ⟨f0, f1, f2, f3, f4⟩ := hb3.b6.froz5
  obtain ⟨r0, r1, r2, r3, r4⟩ := hb3.b6.cells5
  have HB2 := hide hb3
  clear hd2 hb2 hb3 hwz
  have hcall := HB2.out.dy.ref (mCame HB2.out.dy.below HB2.out.dy.m (by have := HR.out.tl; omega) i)
  simp only [HNN.out, Vs.val] at hcall
  have HCL := hide hcall
  clear hcall
  go_wp2_with fail
  refine HCL.out.mono ?_
  rintro e w4 ⟨v4, rfl, hd4, hb4⟩
  obtain ⟨h44, h45, h46, hk4⟩ := HB2.out.move hd4 hb4
  obtain ⟨nn4, hnn4⟩ : ∃ n, (x.came i).n = n := ⟨_, rfl⟩
  have hE := does_end (base := 0) HWW.out h46 hd4 hk4 HLT.out hnn4
  have hHR := hide (HR.out.came (by omega) i)
  obtain ⟨B0, m0, d0, B1, m1, d1, B2, m2, d2, B3, m3, d3, rfl⟩ := hd4.m.form
  obtain ⟨f0, f1, f2, f3, f4⟩ := h46.froz5
  obtain ⟨r0, r1, r2, r3, r4⟩ := h46.cells5
  simp only [set5] at hE
  have HE := hide hE
  simp only [Vs.val, hnn4]
  have HN4 := hide hnn4
  clear h44 h45 h46 hk4 hd4 hb4 hE hnn4 HCL q0 q1 q2 q3 q4 a0 a1 a2 a3 a4 a5 a6
  go_wp2_with fail
  obtain ⟨hR9, hD9, hK9⟩ := HE.out
  obtain ⟨w9, hw9⟩ : ∃ w9, (((((w4.setCell { block := w.heap.size + 1 + 1, off := 0 } (Value.slice B0 m0 d0)).setCell { block := w.heap.size + 1 + 1, off := 1 } (Value.slice B1 m1 d1)).setCell { block := w.heap.size + 1 + 1, off := 2 } (Value.slice B2 m2 d2)).setCell { block := w.heap.size + 1 + 1, off := 3 } (Value.int IntKind.i64 nn4)).setCell { block := w.heap.size + 1 + 1, off := 4 } (Value.slice B3 m3 d3)) = w9 := ⟨_, rfl⟩
  rw [hw9] at hR9 hD9 hK9 ⊢
  obtain ⟨e0, e1, e2, e3, e4⟩ := hR9.cells5
  refine bodyPost_ret (v := .agg #[.slice B0 m0 d0, .slice B1 m1 d1, .slice B2 m2 d2, .int .i64 nn4, .slice B3 m3 d3]) ?_ rfl ?_
  · simp [results, Tryd.results12, go_sem, e0, e1, e2, e3, e4]
  · exact ⟨(S.came 2 i, x.came i, ⟨.slice B0 m0 d0, .slice B1 m1 d1, .slice B2 m2 d2, .slice B3 m3 d3⟩), val_eq HN4.out, hD9, hHR.out, hK9⟩
theorem does_4n {W w : World} {n K : Nat} {S : Lg} {x : Rx} {v : Vs} {cs : List Nat} (hT : Tab W) (h : Dy W w n S x v cs) (hR : Rel K S x) (hK : K < 100) (what id qos code : Int) (dup : Bool) (name : BA) (hi : 0 ≤ id) (hq : 0 ≤ qos ∧ qos ≤ 255) (hc : 0 ≤ code ∧ code ≤ 255) (hq2 : qos % 3 ≠ 2) :
    Calls Tryd.prog 12 #[ptrTo n, v.val x.n, .agg (actC 4 what id qos code dup name)] w (DoesPost W w n K cs) := by
  obtain ⟨A0, n0, c0, A1, n1, c1, A2, n2, c2, A3, n3, c3, hv⟩ := h.m.form
  obtain ⟨nn, hnn⟩ : ∃ n, x.n = n := ⟨_, rfl⟩
  have hb3 := B3.lay (kd := 4) (what := what) (id := id) (qos := qos) (code := code) (dup := dup) (name := name) h hnn
  have hcut := cut01_any name 10
  have hm0 : 0 ≤ id % 70000 := Int.emod_nonneg _ (by decide)
  have hm1 : id % 70000 < 70000 := Int.emod_lt_of_pos _ (by decide)
  have hmt : Int.tmod id 70000 = id % 70000 := Int.tmod_eq_emod_of_nonneg hi
  have hqt : Int.tmod qos 3 = qos % 3 := Int.tmod_eq_emod_of_nonneg hq.1
  have hdiv := Int.emod_nonneg qos (show (3 : Int) ≠ 0 by decide)
  have hmod := Int.emod_lt_of_pos qos (show (0 : Int) < 3 by decide)
  have HLT := hide (fun c (hc : c ∈ cs) => h.lt hc)
  have HWW := hide h.below.size
  have hqe : (qos % 3 == 2) = false := by simpa using hq2
  generalize cutS name 10 = nm at hcut
  obtain ⟨i, hi'⟩ : ∃ i, id % 70000 = i := ⟨_, rfl⟩
  rw [hi'] at hm0 hm1 hmt
  have hw1 : IntKind.u32.wrap i = i := IntWalk.u32_in _ (by omega)
  have hw2 : IntKind.i64.wrap i = i := IntWalk.i64_in _ (by omega)
  have hw3 : IntKind.i64.wrap code = code := IntWalk.i64_in _ (by omega)
  have HM := hide (And.intro hm0 hm1)
  have HNN := hide hnn
  have HR := hide hR
  have HT := hide hT
  rw [hnn]
  subst hv
  simp only [Vs.val] at hb3 ⊢
  obtain ⟨wz, hwz⟩ : ∃ wz, (((w.alloc (.cells #[.slice A0 n0 c0, .slice A1 n1 c1, .slice A2 n2 c2, .int .i64 nn, .slice A3 n3 c3] SbT)).alloc (.cells (actC 4 what id qos code dup name) AcT)).alloc (.cells #[.slice none 0 0, .slice none 0 0, .slice none 0 0, .int .i64 0, .slice none 0 0] SbT)) = wz := ⟨_, rfl⟩
  rw [hwz] at hb3
  obtain ⟨q0, q1, q2, q3, q4⟩ := hb3.b4.cells5
  obtain ⟨a0, a1, a2, a3, a4, a5, a6⟩ := hb3.b5.cells7
  have HB := hide hb3
  have HC := hide hcut
  clear h hR hT hb3 hcut hnn hm0 hm1 hi hq hi' hdiv hmod hc
  go_enter Tryd.func12, Tryd.ntmps12
  go_wp2_with fail
  refine (HC.out _).mono ?_
  rintro e wz' ⟨rfl, rfl⟩
  go_wp2_with fail
  refine (HB.out.dy.call (fun bs hRn => rHeardPub hRn false false (qos % 3) i (by have := HR.out.tpos i; omega) (by have := HR.out.nb; omega) none 0 0 ⟨#[]⟩ ⟨#[]⟩)).mono ?_
  rintro e w2 ⟨rfl, hd2, hb2⟩
  have hb3 := HB.out.said hd2 hb2
  obtain ⟨q0, q1, q2, q3, q4⟩ := hb3.b4.cells5
  obtain ⟨a0, a1, a2, a3, a4, a5, a6⟩ := hb3.b5.cells7
  obtain ⟨f0, f1, f2, f3, f4⟩ := hb3.b6.froz5
  obtain ⟨r0, r1, r2, r3, r4⟩ := hb3.b6.cells5
  have HB2 := hide hb3
  clear hd2 hb2 hb3 hwz
  have hE := does_end (base := 0) HWW.out HB2.out.b6 HB2.out.dy HB2.out.k HLT.out HNN.out
  simp only [set5] at hE
  have HE := hide hE
  clear hE
  go_wp2_with fail
  obtain ⟨hR9, hD9, hK9⟩ := HE.out
  obtain ⟨w9, hw9⟩ : ∃ w9, (((((w2.setCell { block := w.heap.size + 1 + 1, off := 0 } (Value.slice A0 n0 c0)).setCell { block := w.heap.size + 1 + 1, off := 1 } (Value.slice A1 n1 c1)).setCell { block := w.heap.size + 1 + 1, off := 2 } (Value.slice A2 n2 c2)).setCell { block := w.heap.size + 1 + 1, off := 3 } (Value.int IntKind.i64 nn)).setCell { block := w.heap.size + 1 + 1, off := 4 } (Value.slice A3 n3 c3)) = w9 := ⟨_, rfl⟩
  rw [hw9] at hR9 hD9 hK9 ⊢
  obtain ⟨e0, e1, e2, e3, e4⟩ := hR9.cells5
  refine bodyPost_ret (v := .agg #[.slice A0 n0 c0, .slice A1 n1 c1, .slice A2 n2 c2, .int .i64 nn, .slice A3 n3 c3]) ?_ rfl ?_
  · simp [results, Tryd.results12, go_sem, e0, e1, e2, e3, e4]
  · exact ⟨(S.came (qos % 3) i, x, ⟨.slice A0 n0 c0, .slice A1 n1 c1, .slice A2 n2 c2, .slice A3 n3 c3⟩), val_eq HNN.out, hD9, (show Rel (K + 1) (S.came (qos % 3) i) x by rw [came_ne hq2]; exact HR.out.mono (Nat.le_succ K)), hK9⟩
theorem does_5 {W w : World} {n K : Nat} {S : Lg} {x : Rx} {v : Vs} {cs : List Nat} (hT : Tab W) (h : Dy W w n S x v cs) (hR : Rel K S x) (hK : K < 100) (what id qos code : Int) (dup : Bool) (name : BA) (hi : 0 ≤ id) (hq : 0 ≤ qos ∧ qos ≤ 255) (hc : 0 ≤ code ∧ code ≤ 255) (kk : Int) (hkk : bits .and .i64 what 3 = kk - 4) (hk4 : kk = 4 ∨ kk = 5 ∨ kk = 6 ∨ kk = 7) :
    Calls Tryd.prog 12 #[ptrTo n, v.val x.n, .agg (actC 5 what id qos code dup name)] w (DoesPost W w n K cs) := by
  obtain ⟨A0, n0, c0, A1, n1, c1, A2, n2, c2, A3, n3, c3, hv⟩ := h.m.form
  obtain ⟨nn, hnn⟩ : ∃ n, x.n = n := ⟨_, rfl⟩
  have hb3 := B3.lay (kd := 5) (what := what) (id := id) (qos := qos) (code := code) (dup := dup) (name := name) h hnn
  have hcut := cut01_any name 10
  have hm0 : 0 ≤ id % 70000 := Int.emod_nonneg _ (by decide)
  have hm1 : id % 70000 < 70000 := Int.emod_lt_of_pos _ (by decide)
  have hmt : Int.tmod id 70000 = id % 70000 := Int.tmod_eq_emod_of_nonneg hi
  have hqt : Int.tmod qos 3 = qos % 3 := Int.tmod_eq_emod_of_nonneg hq.1
  have hdiv := Int.emod_nonneg qos (show (3 : Int) ≠ 0 by decide)
  have hmod := Int.emod_lt_of_pos qos (show (0 : Int) < 3 by decide)
  have HLT := hide (fun c (hc : c ∈ cs) => h.lt hc)
  have HWW := hide h.below.size
  have hw4 : IntKind.i64.wrap (4 + (kk - 4)) = kk := by rw [show 4 + (kk - 4) = kk by omega]; exact IntWalk.i64_in _ (by omega)
  have HK4 := hide hk4
  clear hk4
  generalize cutS name 10 = nm at hcut
  obtain ⟨i, hi'⟩ : ∃ i, id % 70000 = i := ⟨_, rfl⟩
  rw [hi'] at hm0 hm1 hmt
  have hw1 : IntKind.u32.wrap i = i := IntWalk.u32_in _ (by omega)
  have hw2 : IntKind.i64.wrap i = i := IntWalk.i64_in _ (by omega)
  have hw3 : IntKind.i64.wrap code = code := IntWalk.i64_in _ (by omega)
  have HM := hide (And.intro hm0 hm1)
  have HNN := hide hnn
  have HR := hide hR
  have HT := hide hT
  rw [hnn]
  subst hv
  simp only [Vs.val] at hb3 ⊢
  obtain ⟨wz, hwz⟩ : ∃ wz, (((w.alloc (.cells #[.slice A0 n0 c0, .slice A1 n1 c1, .slice A2 n2 c2, .int .i64 nn, .slice A3 n3 c3] SbT)).alloc (.cells (actC 5 what id qos code dup name) AcT)).alloc (.cells #[.slice none 0 0, .slice none 0 0, .slice none 0 0, .int .i64 0, .slice none 0 0] SbT)) = wz := ⟨_, rfl⟩
  rw [hwz] at hb3
  obtain ⟨q0, q1, q2, q3, q4⟩ := hb3.b4.cells5
  obtain ⟨a0, a1, a2, a3, a4, a5, a6⟩ := hb3.b5.cells7
  have HB := hide hb3
  have HC := hide hcut
  clear h hR hT hb3 hcut hnn hm0 hm1 hi hq hi' hdiv hmod hc
  go_enter Tryd.func12, Tryd.ntmps12
  go_wp2_with fail
  refine (HC.out _).mono ?_
  rintro e wz' ⟨rfl, rfl⟩
  go_wp2_with fail
  refine (HB.out.dy.call (fun bs hRn => rHeardAck hRn HR.out.ok (by omega) kk i code HK4.out none 0 0)).mono ?_
  rintro e w2 ⟨rfl, hd2, hb2⟩
  have hb3 := HB.out.said hd2 hb2
  obtain ⟨q0, q1, q2, q3, q4⟩ := hb3.b4.cells5
  obtain ⟨a0, a1, a2, a3, a4, a5, a6⟩ := hb3.b5.cells7
  obtain ⟨f0, f1, f2, f3, f4⟩ := hb3.b6.froz5
  obtain ⟨r0, r1, r2, r3, r4⟩ := hb3.b6.cells5
  have HB2 := hide hb3
  clear hd2 hb2 hb3 hwz
  have hcall := HB2.out.dy.ref (mAnswer HB2.out.dy.below HB2.out.dy.m (by have := HR.out.ol; omega) (by have := HR.out.dl; have h9 := congrArg List.length HR.out.D; simp at h9; omega) (by have := HR.out.tl; omega) kk i code HK4.out)
  simp only [HNN.out, Vs.val] at hcall
  have HCL := hide hcall
  clear hcall
  go_wp2_with fail
  refine HCL.out.mono ?_
  rintro e w4 ⟨v4, rfl, hd4, hb4⟩
  obtain ⟨h44, h45, h46, hk4⟩ := HB2.out.move hd4 hb4
  obtain ⟨nn4, hnn4⟩ : ∃ n, (x.answer kk i code).n = n := ⟨_, rfl⟩
  have hE := does_end (base := 0) HWW.out h46 hd4 hk4 HLT.out hnn4
  have hHR := hide (HR.out.answer (by omega) kk i code HM.out.1 (by have := HM.out.2; omega))
  obtain ⟨B0, m0, d0, B1, m1, d1, B2, m2, d2, B3, m3, d3, rfl⟩ := hd4.m.form
  obtain ⟨f0, f1, f2, f3, f4⟩ := h46.froz5
  obtain ⟨r0, r1, r2, r3, r4⟩ := h46.cells5
  simp only [set5] at hE
  have HE := hide hE
  simp only [Vs.val, hnn4]
  have HN4 := hide hnn4
  clear h44 h45 h46 hk4 hd4 hb4 hE hnn4 HCL q0 q1 q2 q3 q4 a0 a1 a2 a3 a4 a5 a6
  go_wp2_with fail
  obtain ⟨hR9, hD9, hK9⟩ := HE.out
  obtain ⟨w9, hw9⟩ : ∃ w9, (((((w4.setCell { block := w.heap.size + 1 + 1, off := 0 } (Value.slice B0 m0 d0)).setCell { block := w.heap.size + 1 + 1, off := 1 } (Value.slice B1 m1 d1)).setCell { block := w.heap.size + 1 + 1, off := 2 } (Value.slice B2 m2 d2)).setCell { block := w.heap.size + 1 + 1, off := 3 } (Value.int IntKind.i64 nn4)).setCell { block := w.heap.size + 1 + 1, off := 4 } (Value.slice B3 m3 d3)) = w9 := ⟨_, rfl⟩
  rw [hw9] at hR9 hD9 hK9 ⊢
  obtain ⟨e0, e1, e2, e3, e4⟩ := hR9.cells5
  refine bodyPost_ret (v := .agg #[.slice B0 m0 d0, .slice B1 m1 d1, .slice B2 m2 d2, .int .i64 nn4, .slice B3 m3 d3]) ?_ rfl ?_
  · simp [results, Tryd.results12, go_sem, e0, e1, e2, e3, e4]
  · exact ⟨(S.heard kk i code, x.answer kk i code, ⟨.slice B0 m0 d0, .slice B1 m1 d1, .slice B2 m2 d2, .slice B3 m3 d3⟩), val_eq HN4.out, hD9, hHR.out, hK9⟩
theorem does_0 {W w : World} {n K : Nat} {S : Lg} {x : Rx} {v : Vs} {cs : List Nat} (hT : Tab W) (h : Dy W w n S x v cs) (hR : Rel K S x) (hK : K < 100) (kd what id qos code : Int) (dup : Bool) (name : BA) (hi : 0 ≤ id) (hq : 0 ≤ qos ∧ qos ≤ 255) (hc : 0 ≤ code ∧ code ≤ 255) (hk1 : kd ≠ 1) (hk2 : kd ≠ 2) (hk3 : kd ≠ 3) (hk4 : kd ≠ 4) (hk5 : kd ≠ 5) :
    Calls Tryd.prog 12 #[ptrTo n, v.val x.n, .agg (actC kd what id qos code dup name)] w (DoesPost W w n K cs) := by
  obtain ⟨A0, n0, c0, A1, n1, c1, A2, n2, c2, A3, n3, c3, hv⟩ := h.m.form
  obtain ⟨nn, hnn⟩ : ∃ n, x.n = n := ⟨_, rfl⟩
  have hb3 := B3.lay (kd := kd) (what := what) (id := id) (qos := qos) (code := code) (dup := dup) (name := name) h hnn
  have hcut := cut01_any name 10
  have hm0 : 0 ≤ id % 70000 := Int.emod_nonneg _ (by decide)
  have hm1 : id % 70000 < 70000 := Int.emod_lt_of_pos _ (by decide)
  have hmt : Int.tmod id 70000 = id % 70000 := Int.tmod_eq_emod_of_nonneg hi
  have hqt : Int.tmod qos 3 = qos % 3 := Int.tmod_eq_emod_of_nonneg hq.1
  have hdiv := Int.emod_nonneg qos (show (3 : Int) ≠ 0 by decide)
  have hmod := Int.emod_lt_of_pos qos (show (0 : Int) < 3 by decide)
  have HLT := hide (fun c (hc : c ∈ cs) => h.lt hc)
  have HWW := hide h.below.size
  have b1 : (kd == 1) = false := by simpa using hk1
  have b2 : (kd == 2) = false := by simpa using hk2
  have b3 : (kd == 3) = false := by simpa using hk3
  have b4 : (kd == 4) = false := by simpa using hk4
  have b5 : (kd == 5) = false := by simpa using hk5
  clear hk1 hk2 hk3 hk4 hk5
  generalize cutS name 10 = nm at hcut
  obtain ⟨i, hi'⟩ : ∃ i, id % 70000 = i := ⟨_, rfl⟩
  rw [hi'] at hm0 hm1 hmt
  have hw1 : IntKind.u32.wrap i = i := IntWalk.u32_in _ (by omega)
  have hw2 : IntKind.i64.wrap i = i := IntWalk.i64_in _ (by omega)
  have hw3 : IntKind.i64.wrap code = code := IntWalk.i64_in _ (by omega)
  have HM := hide (And.intro hm0 hm1)
  have HNN := hide hnn
  have HR := hide hR
  have HT := hide hT
  rw [hnn]
  subst hv
  simp only [Vs.val] at hb3 ⊢
  obtain ⟨wz, hwz⟩ : ∃ wz, (((w.alloc (.cells #[.slice A0 n0 c0, .slice A1 n1 c1, .slice A2 n2 c2, .int .i64 nn, .slice A3 n3 c3] SbT)).alloc (.cells (actC kd what id qos code dup name) AcT)).alloc (.cells #[.slice none 0 0, .slice none 0 0, .slice none 0 0, .int .i64 0, .slice none 0 0] SbT)) = wz := ⟨_, rfl⟩
  rw [hwz] at hb3
  obtain ⟨q0, q1, q2, q3, q4⟩ := hb3.b4.cells5
  obtain ⟨a0, a1, a2, a3, a4, a5, a6⟩ := hb3.b5.cells7
  have HB := hide hb3
  have HC := hide hcut
  clear h hR hT hb3 hcut hnn hm0 hm1 hi hq hi' hdiv hmod hc
  go_enter Tryd.func12, Tryd.ntmps12
  go_wp2_with fail
  refine (HC.out _).mono ?_
  rintro e wz' ⟨rfl, rfl⟩
  have hb3 := HB.out
  obtain ⟨f0, f1, f2, f3, f4⟩ := hb3.b6.froz5
  obtain ⟨r0, r1, r2, r3, r4⟩ := hb3.b6.cells5
  have HB2 := hide hb3
  clear hb3 hwz
  have hE := does_end (base := 0) HWW.out HB2.out.b6 HB2.out.dy HB2.out.k HLT.out HNN.out
  simp only [set5] at hE
  have HE := hide hE
  clear hE
  go_wp2_with fail
  obtain ⟨hR9, hD9, hK9⟩ := HE.out
  obtain ⟨w9, hw9⟩ : ∃ w9, (((((wz'.setCell { block := w.heap.size + 1 + 1, off := 0 } (Value.slice A0 n0 c0)).setCell { block := w.heap.size + 1 + 1, off := 1 } (Value.slice A1 n1 c1)).setCell { block := w.heap.size + 1 + 1, off := 2 } (Value.slice A2 n2 c2)).setCell { block := w.heap.size + 1 + 1, off := 3 } (Value.int IntKind.i64 nn)).setCell { block := w.heap.size + 1 + 1, off := 4 } (Value.slice A3 n3 c3)) = w9 := ⟨_, rfl⟩
  rw [hw9] at hR9 hD9 hK9 ⊢
  obtain ⟨e0, e1, e2, e3, e4⟩ := hR9.cells5
  refine bodyPost_ret (v := .agg #[.slice A0 n0 c0, .slice A1 n1 c1, .slice A2 n2 c2, .int .i64 nn, .slice A3 n3 c3]) ?_ rfl ?_
  · simp [results, Tryd.results12, go_sem, e0, e1, e2, e3, e4]
  · exact ⟨(S, x, ⟨.slice A0 n0 c0, .slice A1 n1 c1, .slice A2 n2 c2, .slice A3 n3 c3⟩), val_eq HNN.out, hD9, HR.out.mono (Nat.le_succ K), hK9⟩
end R25
end Go.Proofs.YtjhhnidfmoejdaaDoor
