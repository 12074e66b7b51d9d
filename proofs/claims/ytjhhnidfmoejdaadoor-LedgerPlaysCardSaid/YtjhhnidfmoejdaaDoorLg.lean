import Derived.Test.YtjhhnidfmoejdaaDoorKd
import Derived.Test.YtjhhnidfmoejdaaDoorPLedgerPlaysx0
import Derived.Test.YtjhhnidfmoejdaaDoorSortedL
import Derived.Lib.LazyBuf
namespace Go.Proofs.YtjhhnidfmoejdaaDoor
open Go.RowKit Go.Proofs.YtjhhnidfmoejdaaDoor.PLedgerPlays Go.Proofs.YtjhhnidfmoejdaaDoorW.PrintWords Go.Proofs.YtjhhnidfmoejdaaDoorW.PrintLast
set_option maxRecDepth 10000
set_option linter.unusedVariables false
set_option maxHeartbeats 1000000
abbrev BA := ByteArray
abbrev ptrTo (c : Nat) : Value := .pointer (some ⟨c, 0, none⟩)
abbrev ExT : Nat := 66
abbrev ExsT : Nat := 37
abbrev StrT : Nat := 9
abbrev StrsT : Nat := 39
abbrev SideT : Nat := 60
abbrev SX := S66
abbrev kX : Kd SX := k66
def encX (x : SX) : List Value := [.int .u32 x.f0, .string x.f1, .string x.f2, .int .i64 x.f3, .bool x.f4, .bool x.f5]
abbrev exC (x : SX) : Array Value := #[.int .u32 x.f0, .string x.f1, .string x.f2, .int .i64 x.f3, .bool x.f4, .bool x.f5]
structure Flt {α : Type} (d : Kd α) : Prop where
  M : ∀ {w w' : World} {base base' : Nat} {ok ok' : Nat → Prop} {x : α} {cs : List Value}, d.M w base ok x cs → d.M w' base' ok' x cs
  KM : ∀ {w w' : World} {base : Nat} {ok : Nat → Prop} {x : α} {cs : List Value}, d.K w x cs → d.M w' base ok x cs
theorem fltX : Flt kX where
  M h := by obtain rfl := k66_openM h; exact k66_mkM _ _ _ _
  KM h := by obtain rfl := k66_open h; exact k66_mkM _ _ _ _
theorem fltS : Flt Kd.string where
  M h := h
  KM h := h
theorem Own.off {α : Type} {d : Kd α} (F : Flt d) {e base : Nat} {w w' : World} {v : Value} {xs : List α} (h : Own d e base w v xs) (hb : ∀ k, v.ownBlock = some k → w'.heap[k]? = w.heap[k]?) : Own d e base w' v xs := by
  obtain ⟨h0, inner, ho, hr⟩ := h
  exact ⟨h0, inner, own_move ho hb, hr.imp_ fun p c hp => F.M hp⟩
theorem Own.blt {α : Type} {d : Kd α} {e base : Nat} {w : World} {v : Value} {xs : List α} (h : Own d e base w v xs) {k : Nat} (hk : v.ownBlock = some k) : base ≤ k ∧ k < w.heap.size := by
  obtain ⟨h0, inner, ho, hr⟩ := h
  exact ⟨own_base ho k hk, own_lt ho k hk⟩
section
variable {α : Type} {P : Program} {ops : Array Oper} {rest : List Oper} {o : Oper} {a : Act} {Q : Exit → Act → World → Prop}
theorem Own.append_rows (d : Kd α) (F : Flt d) {W : World} (base base2 : Nat) (hgd : o.guard = none) (s x : Operand) (t : TypeId) (e : TypeId) (e2 : Nat) (z : Value) (bytes : Nat)
    (ho : o.op = .call { callee := .builtin .append, args := #[s, x], argTypes := #[t, t] })
    (ht : P.underlying t = some (.slice e)) (hinfo : (P.info? e).map (fun i => (i.zero, i.size, i.bytes)) = some (some z, d.sz, bytes)) (hz : z.cells.size = d.sz) (hs0 : 0 < d.sz) (hb0 : 0 < bytes)
    (v v2 : Value) (xs ys : List α) (hs : a.eval s = v) (hx : a.eval x = v2)
    (HO : Own d e base W v xs) (HO2 : Own d e2 base2 W v2 ys) (hbase : base ≤ W.heap.size) (hl : (xs.length + ys.length) * bytes ≤ 140737488355328)
    (h : ∀ v1 w1, Own d e base w1 v1 (xs ++ ys) → W.grownBy w1 v.ownBlock → (∀ k, v.ownBlock = some k → base ≤ k) → wpList P ops Q rest (a.put o.dst v1) w1) :
    wpList P ops Q (o :: rest) a W := by
  obtain ⟨A, c, rfl, hc, hC⟩ := HO2.reads
  exact Kd.R_append_rows d (w0 := W) base hgd s x t e z bytes ho ht hinfo hz hs0 hb0 v xs ys A ys.length c (fun _ => True) (fun _ => False) hs hx HO hC (fun x cs h => F.KM h) (fun _ hk => hk.elim) (fun _ _ => trivial) (Below.refl _ _) hbase hl
    fun v1 w1 h1 _ h3 _ => h v1 w1 h1 h3 (Kd.R_base HO)
end
theorem infoX : (Tryd.prog.info? ExT).map (fun i => (i.zero, i.size, i.bytes)) = some (some (.agg #[.int .u32 0, .string ByteArray.empty, .string ByteArray.empty, .int .i64 0, .bool false, .bool false]), 6, 56) := by kernel_rfl
theorem infoS : (Tryd.prog.info? StrT).map (fun i => (i.zero, i.size, i.bytes)) = some (some (.string ByteArray.empty), 1, 16) := by kernel_rfl
theorem cloneX {w : World} {base : Nat} {v : Value} {l : List SX} (h : Own kX ExT base w v l) (hl : l.length < 100000) :
    Calls Tryd.prog 21 #[v] w (Px fun (v' : Value) e w' => e = .returned v' ∧ Own kX ExT w.heap.size w' v' l ∧ Keep [] w w') := by
  obtain ⟨A, c, rfl⟩ := h.slice
  rcases A with _ | A
  · have hl0 : l = [] := by
      rcases Nat.eq_zero_or_pos l.length with h0 | h0
      · exact List.eq_nil_of_length_eq_zero h0
      · obtain ⟨g, cap, hv, _⟩ := h.form h0
        injection hv with hv; cases hv
    subst hl0
    have he := Lib.run_eql_slice_nil (P := Tryd.prog) w ExsT ExT none 0 c 0 0 Tryd.underlying37
    simp only [List.length_nil]
    go_enter Tryd.func21, Tryd.ntmps21
    go_wp2_with fail
    go_ret
    exact ⟨_, rfl, Own.nil _ _ _ _, Keep.refl _ _⟩
  · have hf := Own.fresh (d := kX) (e := ExT) (base := w.heap.size) (w := w) (Nat.le_refl _)
    have hk0 := (Keep.refl [] w).alloc (.cells #[] ExT)
    have h2 := h.keep hk0 (by simp)
    have he := Lib.run_eql_slice_nil (P := Tryd.prog) w ExsT ExT (some A) l.length c 0 0 Tryd.underlying37
    go_enter Tryd.func21, Tryd.ntmps21
    go_wp2_with (at_builtin; refine Own.append_rows kX fltX w.heap.size base rfl (.tmp 5) (.tmp 6) ExsT ExT ExT _ _ rfl Tryd.underlying37 infoX rfl (by decide) (by decide) _ _ [] l rfl rfl hf h2 (by simp) (by simp; omega) ?_; intro v1 w1 hO hg hr)
    go_ret
    exact ⟨v1, rfl, by simpa using hO, hk0.grown_base (by simp) hg hr⟩
theorem cloneS {w : World} {base : Nat} {v : Value} {l : List BA} (h : Own Kd.string StrT base w v l) (hl : l.length < 100000) :
    Calls Tryd.prog 20 #[v] w (Px fun (v' : Value) e w' => e = .returned v' ∧ Own Kd.string StrT w.heap.size w' v' l ∧ Keep [] w w') := by
  obtain ⟨A, c, rfl⟩ := h.slice
  rcases A with _ | A
  · have hl0 : l = [] := by
      rcases Nat.eq_zero_or_pos l.length with h0 | h0
      · exact List.eq_nil_of_length_eq_zero h0
      · obtain ⟨g, cap, hv, _⟩ := h.form h0
        injection hv with hv; cases hv
    subst hl0
    have he := Lib.run_eql_slice_nil (P := Tryd.prog) w StrsT StrT none 0 c 0 0 Tryd.underlying39
    simp only [List.length_nil]
    go_enter Tryd.func20, Tryd.ntmps20
    go_wp2_with fail
    go_ret
    exact ⟨_, rfl, Own.nil _ _ _ _, Keep.refl _ _⟩
  · have hf := Own.fresh (d := Kd.string) (e := StrT) (base := w.heap.size) (w := w) (Nat.le_refl _)
    have hk0 := (Keep.refl [] w).alloc (.cells #[] StrT)
    have h2 := h.keep hk0 (by simp)
    have he := Lib.run_eql_slice_nil (P := Tryd.prog) w StrsT StrT (some A) l.length c 0 0 Tryd.underlying39
    go_enter Tryd.func20, Tryd.ntmps20
    go_wp2_with (at_builtin; refine Own.append_rows Kd.string fltS w.heap.size base rfl (.tmp 5) (.tmp 6) StrsT StrT StrT _ _ rfl Tryd.underlying39 infoS rfl (by decide) (by decide) _ _ [] l rfl rfl hf h2 (by simp) (by simp; omega) ?_; intro v1 w1 hO hg hr)
    go_ret
    exact ⟨v1, rfl, by simpa using hO, hk0.grown_base (by simp) hg hr⟩
structure OpAt (w : World) (b : Nat) (l : List (Int × Nat)) (M : Int → Option SX) : Prop where
  map : MapAt w b (Value.int .u32) ptrTo l
  at_ : ∀ k q, AL.get l k = some q → ∃ x, M k = some x ∧ Blk w q (exC x) ExT
  none : ∀ k, AL.get l k = none → M k = none
  inj : ∀ k k' q, AL.get l k = some q → AL.get l k' = some q → k = k'
def upM {α : Type} (M : Int → Option α) (k : Int) (x : Option α) : Int → Option α := fun k' => if k' = k then x else M k'
structure Lg where
  M : Int → Option SX
  dn : List SX
  tk : List (Int × Int)
  nw : Int
  er : List BA
structure Pl where
  n : Nat
  bo : Nat
  bt : Nat
  l : List (Int × Nat)
  dv : Value
  ev : Value
def Pl.F (p : Pl) (k : Nat) : Prop := k = p.n ∨ k = p.bo ∨ k = p.bt ∨ (∃ i, AL.get p.l i = some k) ∨ p.dv.ownBlock = some k ∨ p.ev.ownBlock = some k
structure Sd (W w : World) (p : Pl) (S : Lg) : Prop where
  box : Blk w p.n #[.map (some p.bo), p.dv, .map (some p.bt), .int .i64 S.nw, p.ev] SideT
  op : OpAt w p.bo p.l S.M
  tk : MapAt w p.bt (Value.int .u32) (Value.int .i64) S.tk
  dn : Own kX ExT W.heap.size w p.dv S.dn
  er : Own Kd.string StrT W.heap.size w p.ev S.er
  ne : p.bo ≠ p.bt
  nq : ∀ k q, AL.get p.l k = some q → p.dv.ownBlock ≠ some q
  ge : ∀ k, p.F k → W.heap.size ≤ k
  bel : Below W.heap.size W w
structure Gone (p p' : Pl) (w w' : World) : Prop where
  os : w'.os = w.os
  tape : w'.tape = w.tape
  output : w'.output = w.output
  size : w.heap.size ≤ w'.heap.size
  block : ∀ k, k < w.heap.size → ¬ p.F k → w'.heap[k]? = w.heap[k]?
  new : ∀ k, p'.F k → p.F k ∨ w.heap.size ≤ k
theorem Gone.trans {p p1 p2 : Pl} {w w1 w2 : World} (h1 : Gone p p1 w w1) (h2 : Gone p1 p2 w1 w2) : Gone p p2 w w2 :=
  ⟨h2.os.trans h1.os, h2.tape.trans h1.tape, h2.output.trans h1.output, Nat.le_trans h1.size h2.size,
    fun k hk hF => (h2.block k (Nat.lt_of_lt_of_le hk h1.size) (fun h => by rcases h1.new k h with h | h; exact hF h; omega)).trans (h1.block k hk hF),
    fun k hk => by
      rcases h2.new k hk with h | h
      · exact h1.new k h
      · exact .inr (Nat.le_trans h1.size h)⟩
theorem Gone.of {p p' : Pl} {w w' : World} {S : List Nat} (h : Keep S w w') (hS : ∀ k ∈ S, k < w.heap.size → p.F k) (hn : ∀ k, p'.F k → p.F k ∨ w.heap.size ≤ k) : Gone p p' w w' :=
  ⟨h.os, h.tape, h.output, h.size, fun k hk hF => h.block k hk (fun hm => hF (hS k hm hk)), hn⟩
theorem Gone.same {p : Pl} {w w' : World} (h : Keep [] w w') : Gone p p w w' := Gone.of h (by simp) (fun _ h => .inl h)
theorem Gone.below {W : World} {p p' : Pl} {w w' : World} (h : Gone p p' w w') (hb : Below W.heap.size W w) (hF : ∀ k, p.F k → W.heap.size ≤ k) : Below W.heap.size W w' :=
  ⟨h.os.trans hb.os, h.tape.trans hb.tape, h.output.trans hb.output, Nat.le_trans hb.size h.size, fun k hk =>
    (h.block k (Nat.lt_of_lt_of_le hk hb.size) (fun hf => by have := hF k hf; omega)).trans (hb.block k hk)⟩
section
variable {W w w' : World} {p : Pl} {S : Lg}
theorem Sd.qlt (h : Sd W w p S) {k : Int} {q : Nat} (hk : AL.get p.l k = some q) : q < w.heap.size := by
  obtain ⟨x, _, hq⟩ := h.op.at_ k q hk; exact hq.lt
theorem Sd.flt (h : Sd W w p S) {k : Nat} (hk : p.F k) : k < w.heap.size := by
  rcases hk with rfl | rfl | rfl | ⟨i, hi⟩ | hd | he
  · exact h.box.lt
  · exact h.op.map.lt
  · exact h.tk.lt
  · exact h.qlt hi
  · exact (h.dn.blt hd).2
  · exact (h.er.blt he).2
theorem OpAt.keep {b : Nat} {l : List (Int × Nat)} {M : Int → Option SX} (h : OpAt w b l M) (hb : w'.heap[b]? = w.heap[b]?) (hq : ∀ k q, AL.get l k = some q → w'.heap[q]? = w.heap[q]?) : OpAt w' b l M :=
  ⟨h.map.of_block hb, fun k q hk => by obtain ⟨x, hx, hB⟩ := h.at_ k q hk; exact ⟨x, hx, hB.of_block (hq k q hk)⟩, h.none, h.inj⟩
theorem Sd.move (h : Sd W w p S) (hb : ∀ k, p.F k → w'.heap[k]? = w.heap[k]?) (hB : Below W.heap.size W w') : Sd W w' p S :=
  ⟨h.box.of_block (hb _ (.inl rfl)), h.op.keep (hb _ (.inr (.inl rfl))) (fun k q hk => hb _ (.inr (.inr (.inr (.inl ⟨k, hk⟩))))), h.tk.of_block (hb _ (.inr (.inr (.inl rfl)))),
    h.dn.off fltX (fun k hk => hb _ (.inr (.inr (.inr (.inr (.inl hk)))))), h.er.off fltS (fun k hk => hb _ (.inr (.inr (.inr (.inr (.inr hk)))))), h.ne, h.nq, h.ge, hB⟩
theorem Sd.keep (h : Sd W w p S) (hk : Keep [] w w') : Sd W w' p S :=
  h.move (fun k hf => hk.block k (h.flt hf) (by simp)) (Keep.below_of h.bel hk (by simp))
theorem Sd.nbo (h : Sd W w p S) : p.n ≠ p.bo := h.op.map.ne_blk h.box
theorem Sd.nbt (h : Sd W w p S) : p.n ≠ p.bt := h.tk.ne_blk h.box
theorem Sd.qne (h : Sd W w p S) {k : Int} {q : Nat} (hk : AL.get p.l k = some q) : q ≠ p.n ∧ q ≠ p.bo ∧ q ≠ p.bt ∧ p.dv.ownBlock ≠ some q ∧ p.ev.ownBlock ≠ some q := by
  obtain ⟨x, _, hq⟩ := h.op.at_ k q hk
  refine ⟨fun e => ?_, h.op.map.ne_blk hq, h.tk.ne_blk hq, h.nq k q hk, fun e => ?_⟩
  · subst e
    obtain ⟨lo, hi, h1, _⟩ := hq
    obtain ⟨lo', hi', h2, _⟩ := h.box
    rw [h1] at h2; cases h2
  · obtain ⟨_, _, ho, _⟩ := h.er
    obtain ⟨cells, hc⟩ := own_typed ho q e
    obtain ⟨lo, hi, h1, _⟩ := hq
    rw [h1] at hc; cases hc
theorem Sd.dne (h : Sd W w p S) {k : Nat} (hk : p.dv.ownBlock = some k) : k ≠ p.n ∧ k ≠ p.bo ∧ k ≠ p.bt ∧ p.ev.ownBlock ≠ some k := by
  obtain ⟨_, _, ho, _⟩ := h.dn
  obtain ⟨cells, hc⟩ := own_typed ho k hk
  refine ⟨?_, ?_, ?_, fun e => ?_⟩
  · rintro rfl
    obtain ⟨lo', hi', h2, _⟩ := h.box
    rw [hc] at h2; cases h2
  · rintro rfl
    obtain ⟨es, cl, h2, _⟩ := h.op.map
    rw [hc] at h2; cases h2
  · rintro rfl
    obtain ⟨es, cl, h2, _⟩ := h.tk
    rw [hc] at h2; cases h2
  · obtain ⟨_, _, ho2, _⟩ := h.er
    obtain ⟨cells2, hc2⟩ := own_typed ho2 k e
    rw [hc] at hc2; cases hc2
theorem Sd.ene (h : Sd W w p S) {k : Nat} (hk : p.ev.ownBlock = some k) : k ≠ p.n ∧ k ≠ p.bo ∧ k ≠ p.bt ∧ p.dv.ownBlock ≠ some k := by
  obtain ⟨_, _, ho, _⟩ := h.er
  obtain ⟨cells, hc⟩ := own_typed ho k hk
  refine ⟨?_, ?_, ?_, fun e => (h.dne e).2.2.2 hk⟩
  · rintro rfl
    obtain ⟨lo', hi', h2, _⟩ := h.box
    rw [hc] at h2; cases h2
  · rintro rfl
    obtain ⟨es, cl, h2, _⟩ := h.op.map
    rw [hc] at h2; cases h2
  · rintro rfl
    obtain ⟨es, cl, h2, _⟩ := h.tk
    rw [hc] at h2; cases h2
end
def Lg.new : Lg := ⟨fun _ => none, [], [], 0, []⟩
theorem lNew {W w : World} (hB : Below W.heap.size W w) : Calls Tryd.prog 6 #[] w (Px fun (p : Pl) e w' => e = .returned (ptrTo p.n) ∧ Sd W w' p Lg.new ∧ Keep [] w w' ∧ ∀ k, p.F k → w.heap.size ≤ k) := by
  have hmm := @run_makeMap Tryd.prog
  have hs := hB.size
  go_enter Tryd.func6, Tryd.ntmps6
  go_wp2
  go_ret
  have hK : Keep [] w (((w.alloc (.map #[] 0)).alloc (.map #[] 0)).alloc (.cells #[.map (some w.heap.size), .slice none 0 0, .map (some (w.heap.size + 1)), .int .i64 0, .slice none 0 0] SideT)) := (((Keep.refl [] w).alloc _).alloc _).alloc _
  have hF : ∀ k, Pl.F ⟨w.heap.size + 1 + 1, w.heap.size, w.heap.size + 1, [], .slice none 0 0, .slice none 0 0⟩ k → w.heap.size ≤ k := by
    rintro k (rfl | rfl | rfl | ⟨i, hi⟩ | hd | he)
    · simp only; omega
    · simp only; omega
    · simp only; omega
    · simp [AL.get] at hi
    · simp [Value.ownBlock] at hd
    · simp [Value.ownBlock] at he
  refine ⟨⟨w.heap.size + 1 + 1, w.heap.size, w.heap.size + 1, [], .slice none 0 0, .slice none 0 0⟩, rfl, ⟨Blk.new' _ _ (by simp), ⟨((MapAt.new w _ _).alloc _).alloc _, fun k q hk => by simp [AL.get] at hk, fun k _ => rfl, fun k k' q hk => by simp [AL.get] at hk⟩, ?_, Own.nil _ _ _ _, Own.nil _ _ _ _, by simp only; omega, fun k q hk => by simp [AL.get] at hk, fun k hk => Nat.le_trans hs (hF k hk), Keep.below_of hB hK (by simp)⟩, hK, hF⟩
  have := MapAt.new (w.alloc (.map #[] 0)) (Value.int .u32) (Value.int .i64)
  simp at this
  exact this.alloc _
section
variable {W w : World} {p : Pl} {S : Lg} (h : Sd W w p S)
include h
theorem lNews : Calls Tryd.prog 14 #[ptrTo p.n] w fun e w' => e = .returned (.int .i64 S.nw) ∧ w = w' := by
  have c3 : w.cell? ⟨p.n, 3, none⟩ = some (.int .i64 S.nw) := h.box.cell 3
  obtain ⟨n, hn⟩ : ∃ n, p.n = n := ⟨_, rfl⟩
  obtain ⟨v, hv⟩ : ∃ v, S.nw = v := ⟨_, rfl⟩
  rw [hn, hv] at c3
  rw [hn, hv]
  clear h hn hv
  go_enter Tryd.func14, Tryd.ntmps14
  go_wp2
  go_ret
  exact ⟨rfl, rfl⟩
theorem lDone (hl : S.dn.length < 100000) : Calls Tryd.prog 11 #[ptrTo p.n] w (Px fun (v : Value) e w' => e = .returned v ∧ Own kX ExT w.heap.size w' v S.dn ∧ Keep [] w w') := by
  have c1 : w.cell? ⟨p.n, 1, none⟩ = some p.dv := h.box.cell 1
  have hc := hide (cloneX h.dn hl)
  obtain ⟨A, c, hA⟩ := h.dn.slice
  rw [hA] at c1 hc
  obtain ⟨n, hn⟩ : ∃ n, p.n = n := ⟨_, rfl⟩
  rw [hn] at c1
  rw [hn]
  obtain ⟨L, hL⟩ : ∃ L, S.dn = L := ⟨_, rfl⟩
  rw [hL] at c1 hc
  rw [hL]
  obtain ⟨z, hz⟩ : ∃ z, L.length = z := ⟨_, rfl⟩
  rw [hz] at c1 hc
  clear h hn hL hA hl hz
  go_enter Tryd.func11, Tryd.ntmps11
  go_wp2_with fail
  refine hc.out.mono ?_
  rintro e w1 ⟨v, rfl, hO, hK⟩
  go_wp2
  go_ret
  exact ⟨v, rfl, hO, hK⟩
theorem lErrs (hl : S.er.length < 100000) : Calls Tryd.prog 10 #[ptrTo p.n] w (Px fun (v : Value) e w' => e = .returned v ∧ Own Kd.string StrT w.heap.size w' v S.er ∧ Keep [] w w') := by
  have c1 : w.cell? ⟨p.n, 4, none⟩ = some p.ev := h.box.cell 4
  have hc := hide (cloneS h.er hl)
  obtain ⟨A, c, hA⟩ := h.er.slice
  rw [hA] at c1 hc
  obtain ⟨n, hn⟩ : ∃ n, p.n = n := ⟨_, rfl⟩
  rw [hn] at c1
  rw [hn]
  obtain ⟨L, hL⟩ : ∃ L, S.er = L := ⟨_, rfl⟩
  rw [hL] at c1 hc
  rw [hL]
  obtain ⟨z, hz⟩ : ∃ z, L.length = z := ⟨_, rfl⟩
  rw [hz] at c1 hc
  clear h hn hL hA hl hz
  go_enter Tryd.func10, Tryd.ntmps10
  go_wp2_with fail
  refine hc.out.mono ?_
  rintro e w1 ⟨v, rfl, hO, hK⟩
  go_wp2
  go_ret
  exact ⟨v, rfl, hO, hK⟩
end
section
variable {α : Type} {P : Program} {ops : Array Oper} {o : Oper} {a : Act} {Q : Exit → Act → World → Prop} {Kc : Act → World → Prop}
theorem Own.append_step2 (d : Kd α) (F : Flt d) {W : World} (base : Nat) (hw : Region.wanted o (yielded ops a.tmps) = true) (s x : Operand) (t e : TypeId) (z : Value) (bytes : Nat)
    (ho : o.op = .call { callee := .builtin .append, args := #[s, x], argTypes := #[t, t] })
    (ht : P.underlying t = some (.slice e)) (hinfo : (P.info? e).map (fun i => (i.zero, i.size, i.bytes)) = some (some z, d.sz, bytes)) (hz : z.cells.size = d.sz) (hs0 : 0 < d.sz) (hb0 : 0 < bytes)
    (v : Value) (xs : List α) (p : α) (cs : List Value) (hs : a.eval s = v) (N : Nat) (hN : N = W.heap.size) (hx : a.eval x = .slice (some ⟨N, 0, none⟩) 1 1) (hp : d.M W base (fun _ => False) p cs)
    (HO : Own d e base W v xs) (hbase : base ≤ W.heap.size) (hl : (xs.length + 1) * bytes ≤ 140737488355328)
    (h : ∀ v1 w1, Own d e base w1 v1 (xs ++ [p]) → W.grownBy w1 v.ownBlock → (∀ k, v1.ownBlock = some k → v.ownBlock = some k ∨ W.heap.size ≤ k) → Kc (a.put o.dst v1) w1) :
    if Region.wanted o (yielded ops a.tmps) = true then Oper.wp P o a (W.alloc (.cells cs.toArray e)) Kc Q else Kc (a.put o.dst undef) (W.alloc (.cells cs.toArray e)) := by
  have HO2 : d.R e W base (fun k => v.ownBlock = some k ∨ W.heap.size ≤ k) v xs := by
    obtain ⟨h0, inner, hown, hr⟩ := HO
    exact ⟨fun k hk => .inl hk, inner, hown, hr.imp_ fun p c hp => F.M hp⟩
  exact Kd.R_append_step d (w0 := W) base hw s x t e z bytes ho ht hinfo hz hs0 hb0 v xs p cs (fun k => v.ownBlock = some k ∨ W.heap.size ≤ k) (fun _ => False) hs (hN ▸ hx) hp (fun _ hk => hk.elim) (fun _ hk => .inr hk) HO2 (Below.refl _ _) hbase hl
    fun v1 w1 h1 _ h3 _ => h v1 w1 (Own.of h1) h3 h1.1
end
theorem Sd.evp {W w wm w7 : World} {p : Pl} {S : Lg} (h : Sd W w p S) (hk : Keep [] w wm) (hg : wm.grownBy w7 p.ev.ownBlock) {v : Value} {ys : List BA} (hO : Own Kd.string StrT W.heap.size w7 v ys) (hv : ∀ k, v.ownBlock = some k → p.ev.ownBlock = some k ∨ wm.heap.size ≤ k) :
    Sd W (w7.setCell ⟨p.n, 4, none⟩ v) { p with ev := v } { S with er := ys } ∧ Gone p { p with ev := v } w (w7.setCell ⟨p.n, 4, none⟩ v) := by
  have hsz := hk.size
  have h1 := h.keep hk
  have hb : ∀ k, p.F k → p.ev.ownBlock ≠ some k → w7.heap[k]? = wm.heap[k]? := fun k hf hne => hg.block k (h1.flt hf) (fun e => hne e.symm)
  have hB7 : Below W.heap.size W w7 := Keep.below_of h1.bel (Keep.of_grown (S := p.ev.ownBlock.toList) hg (fun k e _ => by simp [e])) (fun k hm => h.ge k (.inr (.inr (.inr (.inr (.inr (by simpa using hm)))))))
  have box7 := h1.box.of_block (hb _ (.inl rfl) (fun e => (h1.ene e).1 rfl))
  have hne : ∀ k, p.F k → k ≠ p.n → p.ev.ownBlock ≠ some k → (w7.setCell ⟨p.n, 4, none⟩ v).heap[k]? = wm.heap[k]? := fun k hf hkn he => by
    rw [Below.heap_setCell _ _ _ _ hkn]; exact hb k hf he
  have hnev : v.ownBlock ≠ some p.n := fun e => by
    obtain ⟨_, _, ho, _⟩ := hO
    obtain ⟨cells, hc⟩ := own_typed ho _ e
    obtain ⟨lo, hi, h2, _⟩ := box7
    rw [hc] at h2; cases h2
  have hB8 : Below W.heap.size W (w7.setCell ⟨p.n, 4, none⟩ v) := Keep.below_of hB7 ((Keep.refl [p.n] w7).setCell (fun _ => by simp) v) (fun k hm => by simp at hm; subst hm; exact h.ge _ (.inl rfl))
  refine ⟨⟨?_, h1.op.keep (hne _ (.inr (.inl rfl)) h.nbo.symm (fun e => (h1.ene e).2.1 rfl)) (fun k q hq => hne _ (.inr (.inr (.inr (.inl ⟨k, hq⟩)))) (h1.qne hq).1 (h1.qne hq).2.2.2.2), h1.tk.of_block (hne _ (.inr (.inr (.inl rfl))) h.nbt.symm (fun e => (h1.ene e).2.2.1 rfl)), h1.dn.off fltX (fun k hk => hne _ (.inr (.inr (.inr (.inr (.inl hk))))) (h1.dne hk).1 (h1.dne hk).2.2.2), hO.off fltS (fun k hk => Below.heap_setCell _ _ _ _ (fun e => hnev (hk.trans (congrArg some e)))), h.ne, h.nq, ?_, hB8⟩, ?_⟩
  · have := box7.set 4 v
    simpa using this
  · rintro k (rfl | rfl | rfl | hq | hd | he)
    · exact h.ge _ (.inl rfl)
    · exact h.ge _ (.inr (.inl rfl))
    · exact h.ge _ (.inr (.inr (.inl rfl)))
    · exact h.ge _ (.inr (.inr (.inr (.inl hq))))
    · exact h.ge _ (.inr (.inr (.inr (.inr (.inl hd)))))
    · exact (hO.blt he).1
  · refine Gone.of (S := p.n :: p.ev.ownBlock.toList) ?_ (fun k hm _ => ?_) ?_
    · refine Keep.setCell ?_ (fun _ => by simp) v
      exact hk.trans (Keep.of_grown (S := p.ev.ownBlock.toList) hg (fun k e _ => by simp [e])) (by simp) (fun x hx _ => by simp at hx; simp [hx])
    · rcases List.mem_cons.1 hm with rfl | hm
      · exact .inl rfl
      · exact .inr (.inr (.inr (.inr (.inr (by simpa using hm)))))
    · rintro k (rfl | rfl | rfl | hq | hd | he)
      · exact .inl (.inl rfl)
      · exact .inl (.inr (.inl rfl))
      · exact .inl (.inr (.inr (.inl rfl)))
      · exact .inl (.inr (.inr (.inr (.inl hq))))
      · exact .inl (.inr (.inr (.inr (.inr (.inl hd)))))
      · rcases hv k he with h | h
        · exact .inl (.inr (.inr (.inr (.inr (.inr h)))))
        · exact .inr (by omega)
end Go.Proofs.YtjhhnidfmoejdaaDoor
