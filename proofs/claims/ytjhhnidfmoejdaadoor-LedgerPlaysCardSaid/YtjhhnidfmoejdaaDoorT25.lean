import Derived.Test.YtjhhnidfmoejdaaDoorS25
namespace Go.Proofs.YtjhhnidfmoejdaaDoor
open Go.RowKit Go.Lib Go.Proofs.YtjhhnidfmoejdaaDoor.PLedgerPlays Go.Proofs.YtjhhnidfmoejdaaDoorW.PrintWords Go.Proofs.YtjhhnidfmoejdaaDoorW.PrintLast
set_option maxRecDepth 10000
set_option linter.unusedVariables false
set_option maxHeartbeats 1000000
namespace R25
abbrev RXT : Nat := 87
abbrev IntT : Nat := 3
abbrev kRX : Kd RX := k87
theorem fltR : Flt kRX where
  M h := by obtain rfl := k87_openM h; exact k87_mkM _ _ _ _
  KM h := by obtain rfl := k87_open h; exact k87_mkM _ _ _ _
theorem fltI : Flt (Kd.int .i64) where
  M h := h
  KM h := h
theorem Own.as {α : Type} {d : Kd α} (F : Flt d) {e base : Nat} {w : World} {v : Value} {xs : List α} (h : Own d e base w v xs) : d.R e w base (fun k => v.ownBlock = some k) v xs := Kd.R_flat (fun h => F.M h) h (fun k hk _ => hk)
theorem Own.ne {α β : Type} {d : Kd α} {d' : Kd β} {e e' base : Nat} {w : World} {v v' : Value} {xs : List α} {ys : List β} (h : Own d e base w v xs) (h' : Own d' e' base w v' ys) (he : e ≠ e') {k : Nat} (hk : v.ownBlock = some k) : v'.ownBlock ≠ some k := by
  intro hk'
  obtain ⟨_, _, ho, _⟩ := h
  obtain ⟨_, _, ho', _⟩ := h'
  obtain ⟨c, hc⟩ := own_typed ho k hk
  obtain ⟨c', hc'⟩ := own_typed ho' k hk'
  rw [hc] at hc'
  cases hc'
  exact he rfl
structure Vs where
  a : Value
  b : Value
  c : Value
  d : Value
def Vs.in_ (v : Vs) (k : Nat) : Prop := v.a.ownBlock = some k ∨ v.b.ownBlock = some k ∨ v.c.ownBlock = some k ∨ v.d.ownBlock = some k
def Vs.bs (v : Vs) : List Nat := v.a.ownBlock.toList ++ (v.b.ownBlock.toList ++ (v.c.ownBlock.toList ++ v.d.ownBlock.toList))
theorem Vs.mem {v : Vs} {k : Nat} : k ∈ v.bs ↔ v.in_ k := by simp [Vs.bs, Vs.in_, Option.mem_toList]
abbrev Vs.val (v : Vs) (n : Int) : Value := .agg #[v.a, v.b, v.c, .int .i64 n, v.d]
structure Rmem (base : Nat) (w : World) (v : Vs) (x : Rx) : Prop where
  o : Own kRX RXT base w v.a x.O
  d : Own kRX RXT base w v.b x.D
  t : Own (Kd.int .i64) IntT base w v.c x.T
  e : Own Kd.string StrT base w v.d x.E
  ap : ∀ k, v.a.ownBlock = some k → v.b.ownBlock ≠ some k
section
variable {base : Nat} {w w' : World} {v : Vs} {x : Rx}
theorem Rmem.lt (h : Rmem base w v x) {k : Nat} (hk : v.in_ k) : base ≤ k ∧ k < w.heap.size := by
  rcases hk with hk | hk | hk | hk
  · exact h.o.blt hk
  · exact h.d.blt hk
  · exact h.t.blt hk
  · exact h.e.blt hk
theorem Rmem.off (h : Rmem base w v x) (hb : ∀ k, v.in_ k → w'.heap[k]? = w.heap[k]?) : Rmem base w' v x :=
  ⟨h.o.off fltR (fun k hk => hb k (Or.inl hk)), h.d.off fltR (fun k hk => hb k (Or.inr (Or.inl hk))), h.t.off fltI (fun k hk => hb k (Or.inr (Or.inr (Or.inl hk)))), h.e.off fltS (fun k hk => hb k (Or.inr (Or.inr (Or.inr hk)))), h.ap⟩
theorem Rmem.keep (h : Rmem base w v x) (hk : Keep [] w w') : Rmem base w' v x := h.off fun k hi => hk.block k (h.lt hi).2 (by simp)
end
def RPost (w0 w : World) (v : Vs) (x' : Rx) : Ending → World → Prop := Px fun (v' : Vs) e w' => e = .returned (v'.val x'.n) ∧ Rmem w0.heap.size w' v' x' ∧ (∀ k, v'.in_ k → v.in_ k ∨ w.heap.size ≤ k) ∧ Kept w w' v.in_ ∧ Below w0.heap.size w0 w'
section
variable {w0 w : World} {v : Vs} {x : Rx}
theorem mSent (hB : Below w0.heap.size w0 w) (h : Rmem w0.heap.size w v x) (hl : x.O.length < 1000) (hE : x.E.length < 1000) (id : Int) (tp pl : BA) (d : Bool) (h0 : 0 ≤ id) (h1 : id < 100000) :
    Calls Tryd.prog 23 #[v.val x.n, .int .i64 id, .string tp, .string pl, .bool d] w (RPost w0 w v (x.sent id tp pl d)) := by
  refine (switchboardref25_Sent.calls 2001 _ v.a x.O _ v.b x.D _ v.c x.T x.n _ v.d x.E id tp pl d _ _ _ _ _ w0 w hB (Own.as fltR h.o) (fun k hk => h.ap k hk) (Own.as fltR h.d) (fun k hk hk' => h.ap k hk' hk) (Own.as fltI h.t) (Own.as fltS h.e) (sent_f x id tp pl d hl h0 h1 hE 2001 (by omega))).mono ?_
  rintro e w' ⟨v0, v1, v2, v4, rfl, r0, r1, r2, r4, hb, hk⟩
  refine ⟨⟨v0, v1, v2, v4⟩, rfl, ⟨Own.of r0, Own.of r1, Own.of r2, Own.of r4, fun k hk hk' => (r0.1 k hk).2 hk'.symm⟩, fun k hk => ?_, hk, hb⟩
  rcases hk with hk | hk | hk | hk
  · exact (r0.1 k hk).1
  · exact (r1.1 k hk).1
  · exact r2.1 k hk
  · exact r4.1 k hk
theorem mReleased (hB : Below w0.heap.size w0 w) (h : Rmem w0.heap.size w v x) (hl : x.O.length < 1000) (hE : x.E.length < 1000) (id code : Int) (h0 : 0 ≤ id) (h1 : id < 100000) :
    Calls Tryd.prog 24 #[v.val x.n, .int .i64 id, .int .i64 code] w (RPost w0 w v (x.released id code)) := by
  refine (switchboardref25_Released.calls 2001 _ v.a x.O _ v.b x.D _ v.c x.T x.n _ v.d x.E id code _ _ _ _ _ w0 w hB (Own.as fltR h.o) (fun k hk => h.ap k hk) (Own.as fltR h.d) (fun k hk hk' => h.ap k hk' hk) (Own.as fltI h.t) (Own.as fltS h.e) (released_f x id code hl h0 h1 hE 2001 (by omega))).mono ?_
  rintro e w' ⟨v0, v1, v2, v4, rfl, r0, r1, r2, r4, hb, hk⟩
  refine ⟨⟨v0, v1, v2, v4⟩, rfl, ⟨Own.of r0, Own.of r1, Own.of r2, Own.of r4, fun k hk hk' => (r0.1 k hk).2 hk'.symm⟩, fun k hk => ?_, hk, hb⟩
  rcases hk with hk | hk | hk | hk
  · exact (r0.1 k hk).1
  · exact (r1.1 k hk).1
  · exact r2.1 k hk
  · exact r4.1 k hk
theorem mCame (hB : Below w0.heap.size w0 w) (h : Rmem w0.heap.size w v x) (hl : x.T.length < 1000) (id : Int) :
    Calls Tryd.prog 26 #[v.val x.n, .int .i64 id] w (RPost w0 w v (x.came id)) := by
  refine (switchboardref25_Came.calls 2001 _ v.a x.O _ v.b x.D _ v.c x.T x.n _ v.d x.E id _ _ _ _ _ w0 w hB (Own.as fltR h.o) (fun k hk => h.ap k hk) (Own.as fltR h.d) (fun k hk hk' => h.ap k hk' hk) (Own.as fltI h.t) (Own.as fltS h.e) (came_f x id hl 2001 (by omega))).mono ?_
  rintro e w' ⟨v0, v1, v2, v4, rfl, r0, r1, r2, r4, hb, hk⟩
  refine ⟨⟨v0, v1, v2, v4⟩, rfl, ⟨Own.of r0, Own.of r1, Own.of r2, Own.of r4, fun k hk hk' => (r0.1 k hk).2 hk'.symm⟩, fun k hk => ?_, hk, hb⟩
  rcases hk with hk | hk | hk | hk
  · exact (r0.1 k hk).1
  · exact (r1.1 k hk).1
  · exact r2.1 k hk
  · exact r4.1 k hk
theorem Rmem.aside (h : Rmem w0.heap.size w v x) : ∃ A c, v.a = .slice A x.O.length c ∧ x.O.length ≤ c ∧ ∀ W_, Kept w W_ (fun k => v.b.ownBlock = some k ∨ v.c.ownBlock = some k ∨ v.d.ownBlock = some k) → Kd.C kRX W_ A x.O.length x.O := by
  obtain ⟨A, c, hv, hc, _⟩ := h.o.reads
  refine ⟨A, c, hv, hc, fun W_ hk => ?_⟩
  have h2 := h.o.off (w' := W_) fltR (fun k hk' => hk.2 k (h.o.blt hk').2 (by
    rintro (h3 | h3 | h3)
    · exact h.ap k hk' h3
    · exact Own.ne h.o h.t (by decide) hk' h3
    · exact Own.ne h.o h.e (by decide) hk' h3))
  obtain ⟨A', c', hv', _, hC⟩ := h2.reads
  rw [hv] at hv'
  cases hv'
  exact hC
theorem mSet (hB : Below w0.heap.size w0 w) (h : Rmem w0.heap.size w v x) (hl : x.O.length < 1000) (y : RX) :
    Calls Tryd.prog 36 #[v.val x.n, .agg #[.int .i64 y.f0, .string y.f1, .string y.f2, .int .i64 y.f3, .bool y.f4, .bool y.f5]] w (RPost w0 w v { x with O := setL y false x.O }) := by
  obtain ⟨A, c, hv, hc, hC⟩ := h.aside
  have := (switchboardref25_set.calls 2001 A c x.O _ v.b x.D _ v.c x.T x.n _ v.d x.E y.f0 y.f1 y.f2 y.f3 y.f4 y.f5 _ _ _ _ _ w0 w hB hC hc (Own.as fltR h.d) (Own.as fltI h.t) (Own.as fltS h.e) (set_f x.O x.D x.T x.n x.E y (by omega) 2001 (by omega)))
  rw [← hv] at this
  refine this.mono ?_
  rintro e w' ⟨v0, v1, v2, v4, rfl, r0, r1, r2, r4, hb, hk⟩
  refine ⟨⟨v0, v1, v2, v4⟩, rfl, ⟨Own.of r0, Own.of r1, Own.of r2, Own.of r4, fun k hk hk' => (r0.1 k hk).2 hk'.symm⟩, fun k hk => ?_, hk.mono fun k hk => Or.inr hk, hb⟩
  rcases hk with hk | hk | hk | hk
  · exact (r0.1 k hk).1.imp_left Or.inr
  · exact (r1.1 k hk).1.imp_left Or.inr
  · exact (r2.1 k hk).imp_left Or.inr
  · exact (r4.1 k hk).imp_left Or.inr
theorem mDrop (hB : Below w0.heap.size w0 w) (h : Rmem w0.heap.size w v x) (hl : x.O.length < 1000) (id : Int) :
    Calls Tryd.prog 37 #[v.val x.n, .int .i64 id] w (RPost w0 w v { x with O := x.O.filter fun y => decide (y.f0 ≠ id) }) := by
  obtain ⟨A, c, hv, hc, hC⟩ := h.aside
  have := (switchboardref25_drop.calls 2001 A c x.O _ v.b x.D _ v.c x.T x.n _ v.d x.E id _ _ _ _ _ w0 w hB hC hc (Own.as fltR h.d) (Own.as fltI h.t) (Own.as fltS h.e) (drop_f x.O x.D x.T x.n x.E id (by omega) 2001 (by omega)))
  rw [← hv] at this
  refine this.mono ?_
  rintro e w' ⟨v0, v1, v2, v4, rfl, r0, r1, r2, r4, hb, hk⟩
  refine ⟨⟨v0, v1, v2, v4⟩, rfl, ⟨Own.of r0, Own.of r1, Own.of r2, Own.of r4, fun k hk hk' => (r0.1 k hk).2 hk'.symm⟩, fun k hk => ?_, hk.mono fun k hk => Or.inr hk, hb⟩
  rcases hk with hk | hk | hk | hk
  · exact (r0.1 k hk).1.imp_left Or.inr
  · exact (r1.1 k hk).1.imp_left Or.inr
  · exact (r2.1 k hk).imp_left Or.inr
  · exact (r4.1 k hk).imp_left Or.inr
theorem mFresh (hB : Below w0.heap.size w0 w) (h : Rmem w0.heap.size w v x) :
    Calls Tryd.prog 25 #[v.val x.n] w (RPost w0 w v x.fresh) := by
  obtain ⟨A, c, hv, hc, hC⟩ := h.aside
  obtain ⟨A2, c2, hv2, hc2, _⟩ := h.t.reads
  have hC2 : ∀ W_, Kept w W_ (fun k => v.b.ownBlock = some k ∨ v.d.ownBlock = some k) → Kd.C (Kd.int .i64) W_ A2 x.T.length x.T := fun W_ hk => by
    have h2 := h.t.off (w' := W_) fltI (fun k hk' => hk.2 k (h.t.blt hk').2 (by
      rintro (h3 | h3)
      · exact Own.ne h.t h.d (by decide) hk' h3
      · exact Own.ne h.t h.e (by decide) hk' h3))
    obtain ⟨A', c', hv', _, hC⟩ := h2.reads
    rw [hv2] at hv'
    cases hv'
    exact hC
  have := (switchboardref25_Fresh.calls A c x.O _ v.b x.D A2 c2 x.T x.n _ v.d x.E _ _ _ _ _ w0 w hB (fun W_ hk => hC W_ (hk.mono fun k hk => hk.imp_right Or.inr)) hc (Own.as fltR h.d) hC2 hc2 (Own.as fltS h.e) rfl)
  rw [← hv, ← hv2] at this
  refine this.mono ?_
  rintro e w' ⟨v0, v1, v2, v4, rfl, r0, r1, r2, r4, hb, hk⟩
  refine ⟨⟨v0, v1, v2, v4⟩, rfl, ⟨Own.of r0, Own.of r1, Own.of r2, Own.of r4, fun k hk hk' => (r0.1 k hk).2 hk'.symm⟩, fun k hk => ?_, hk.mono fun k hk => Or.inr (hk.imp_right Or.inr), hb⟩
  rcases hk with hk | hk | hk | hk
  · exact (r0.1 k hk).1.imp_left fun h => Or.inr (h.imp_right Or.inr)
  · exact (r1.1 k hk).1.imp_left fun h => Or.inr (h.imp_right Or.inr)
  · exact (r2.1 k hk).imp_left fun h => Or.inr (h.imp_right Or.inr)
  · exact (r4.1 k hk).imp_left fun h => Or.inr (h.imp_right Or.inr)
theorem mFind (h : Rmem w0.heap.size w v x) (hl : x.O.length < 1000) (id : Int) :
    Calls Tryd.prog 34 #[v.a, .int .i64 id] w fun e w' => e = .returned (.int .i64 (place id 0 x.O)) ∧ Keep [] w w' := by
  obtain ⟨A, c, hv, hc, hC⟩ := h.o.reads
  rw [hv]
  refine (switchboardref25_find.calls 2001 A c x.O id _ w hC hc (find_f x.O id (by omega) 2001 (by omega))).mono ?_
  rintro e w' ⟨rfl, hB⟩
  exact ⟨rfl, Keep.of_below hB⟩
end
end R25
end Go.Proofs.YtjhhnidfmoejdaaDoor
