import Derived.Test.YtjhhnidfmoejdaaDoorMem
import Derived.Test.YtjhhnidfmoejdaaDoorWone
namespace Go.Proofs.YtjhhnidfmoejdaaDoor
open Go.RowKit Go.Proofs.YtjhhnidfmoejdaaDoorW.PrintWords Go.Proofs.YtjhhnidfmoejdaaDoorW.PrintLast
set_option maxRecDepth 10000
set_option linter.unusedVariables false
def OfTypes (E : List Nat) (w : World) (k : Nat) : Prop := ∃ q, q ∈ E ∧ ∃ cells, w.heap[k]? = some (.cells cells q (0, 0))
def Own {α : Type} (d : Kd α) (e : Nat) (base : Nat) (w : World) (v : Value) (xs : List α) : Prop := d.R e w base (fun _ => True) v xs
section
variable {α : Type} {d : Kd α} {e base : Nat} {w w' : World} {v : Value} {xs : List α}
theorem Own.nil (d : Kd α) (e base : Nat) (w : World) : Own d e base w (.slice none 0 0) [] := Kd.R_nil _ _ _ _ _
theorem Own.fresh (hb : base ≤ w.heap.size) : Own d e base (w.alloc (.cells #[] e)) (.slice (some ⟨w.heap.size, 0, none⟩) 0 0) [] := by
  refine ⟨fun _ _ => trivial, [], ⟨by simp, .inr ⟨w.heap.size, 0, #[], rfl, hb, ?_, Nat.le_refl _, by decide, by simp, by simp⟩⟩, Reps.none _ _⟩
  show (w.heap.push _)[w.heap.size]? = _; simp
theorem Own.typed (h : Own d e base w v xs) : d.R e w base (OfTypes (e :: d.E) w) v xs := Kd.R_mono (Kd.R_bound h) fun k hk => hk.2.2.2
theorem Own.of {ok : Nat → Prop} (h : d.R e w base ok v xs) : Own d e base w v xs := Kd.R_mono h fun _ _ => trivial
theorem Own.keep {S : List Nat} (h : Own d e base w v xs) (hk : Keep S w w') (hS : ∀ k ∈ S, ¬ OfTypes (e :: d.E) w k) : Own d e base w' v xs :=
  Own.of (Kd.R_step h.typed fun k ho hlt => hk.block k hlt fun hm => hS k hm ho)
theorem Own.below (h : Own d e base w v xs) (hb : Below w.heap.size w w') : Own d e base w' v xs := Kd.R_below h hb
theorem Own.lower {base' : Nat} (h : Own d e base w v xs) (hb : base' ≤ base) : Own d e base' w v xs := Kd.R_lower h hb
theorem Own.slice (h : Own d e base w v xs) : ∃ A c, v = .slice A xs.length c := Kd.R_slice h
theorem Own.reads (h : Own d e base w v xs) : ∃ A c, v = .slice A xs.length c ∧ xs.length ≤ c ∧ d.C w A xs.length xs := Kd.R_reads h
theorem Own.form (h : Own d e base w v xs) (h0 : 0 < xs.length) : ∃ g cap, v = .slice (some ⟨g, 0, none⟩) xs.length cap ∧ base ≤ g ∧ g < w.heap.size := by
  obtain ⟨g, cap, h1, h2, h3, _⟩ := Kd.R_form h h0
  exact ⟨g, cap, h1, h2, h3⟩
theorem not_of_blk {b : Nat} {cs : Array Value} {T : TypeId} (h : Blk w b cs T) {E : List Nat} (hT : T ∉ E) : ¬ OfTypes E w b := by
  rintro ⟨q, hq, cells, hc⟩
  obtain ⟨lo, hi, hb, _⟩ := h
  rw [hb] at hc; cases hc
  exact hT hq
theorem Blk.kept {S : Nat → Prop} {b : Nat} {cs : Array Value} {T : TypeId} (h : Blk w b cs T) (hk : Kept w w' S) (hS : ¬ S b) : Blk w' b cs T := h.of_block (hk.2 b h.lt hS)
theorem MapAt.kept {κ ν : Type} {S : Nat → Prop} {kf : κ → Value} {vf : ν → Value} {l : List (κ × ν)} {b : Nat} (h : MapAt w b kf vf l) (hk : Kept w w' S) (hS : ¬ S b) : MapAt w' b kf vf l := h.of_block (hk.2 b h.lt hS)
end
theorem Keep.grown_base {base : Nat} {w w1 w2 : World} {row : Option Nat} (hk : Keep [] w w1) (hb : w.heap.size ≤ base) (hg : w1.grownBy w2 row) (hr : ∀ k, row = some k → base ≤ k) : Keep [] w w2 :=
  ⟨hg.os.trans hk.os, hg.tape.trans hk.tape, hg.output.trans hk.output, Nat.le_trans hk.size hg.size, fun k hlt _ =>
    (hg.block k (Nat.lt_of_lt_of_le hlt hk.size) (fun e => by have := hr k e.symm; omega)).trans (hk.block k hlt (by simp))⟩
section
variable {α : Type} {P : Program} {ops : Array Oper} {rest : List Oper} {o : Oper} {a : Act} {Q : Exit → Act → World → Prop}
theorem Own.append_law (d : Kd α) {W : World} (base : Nat) (hgd : o.guard = none) (s x : Operand) (t e : TypeId) (z : Value) (bytes : Nat)
    (ho : o.op = .call { callee := .builtin .append, args := #[s, x], argTypes := #[t, t] })
    (ht : P.underlying t = some (.slice e)) (hinfo : (P.info? e).map (fun i => (i.zero, i.size, i.bytes)) = some (some z, d.sz, bytes)) (hz : z.cells.size = d.sz) (hs0 : 0 < d.sz) (hb0 : 0 < bytes)
    (v : Value) (xs : List α) (p : α) (cs : List Value) (hs : a.eval s = v) (N : Nat) (hN : N = W.heap.size) (hx : a.eval x = .slice (some ⟨N, 0, none⟩) 1 1) (hp : d.M W base (fun _ => False) p cs)
    (HO : Own d e base W v xs) (hbase : base ≤ W.heap.size) (hl : (xs.length + 1) * bytes ≤ 140737488355328)
    (h : ∀ v1 w1, Own d e base w1 v1 (xs ++ [p]) → W.grownBy w1 v.ownBlock → (∀ k, v.ownBlock = some k → base ≤ k) → wpList P ops Q rest (a.put o.dst v1) w1) :
    wpList P ops Q (o :: rest) a (W.alloc (.cells cs.toArray e)) :=
  Kd.R_append d (w0 := W) base hgd s x t e z bytes ho ht hinfo hz hs0 hb0 v xs p cs (fun _ => True) (fun _ => False) hs (hN ▸ hx) hp (fun _ hk => hk.elim) (fun _ _ => trivial) HO (Below.refl _ _) hbase hl
    fun v1 w1 h1 _ h3 _ => h v1 w1 h1 h3 (Kd.R_base HO)
end
section
variable {α : Type} {P : Program} {ops : Array Oper} {o : Oper} {a : Act} {Q : Exit → Act → World → Prop} {Kc : Act → World → Prop}
theorem Own.append_step (d : Kd α) {W : World} (base : Nat) (hw : Region.wanted o (yielded ops a.tmps) = true) (s x : Operand) (t e : TypeId) (z : Value) (bytes : Nat)
    (ho : o.op = .call { callee := .builtin .append, args := #[s, x], argTypes := #[t, t] })
    (ht : P.underlying t = some (.slice e)) (hinfo : (P.info? e).map (fun i => (i.zero, i.size, i.bytes)) = some (some z, d.sz, bytes)) (hz : z.cells.size = d.sz) (hs0 : 0 < d.sz) (hb0 : 0 < bytes)
    (v : Value) (xs : List α) (p : α) (cs : List Value) (hs : a.eval s = v) (N : Nat) (hN : N = W.heap.size) (hx : a.eval x = .slice (some ⟨N, 0, none⟩) 1 1) (hp : d.M W base (fun _ => False) p cs)
    (HO : Own d e base W v xs) (hbase : base ≤ W.heap.size) (hl : (xs.length + 1) * bytes ≤ 140737488355328)
    (h : ∀ v1 w1, Own d e base w1 v1 (xs ++ [p]) → W.grownBy w1 v.ownBlock → (∀ k, v.ownBlock = some k → base ≤ k) → Kc (a.put o.dst v1) w1) :
    if Region.wanted o (yielded ops a.tmps) = true then Oper.wp P o a (W.alloc (.cells cs.toArray e)) Kc Q else Kc (a.put o.dst undef) (W.alloc (.cells cs.toArray e)) :=
  Kd.R_append_step d (w0 := W) base hw s x t e z bytes ho ht hinfo hz hs0 hb0 v xs p cs (fun _ => True) (fun _ => False) hs (hN ▸ hx) hp (fun _ hk => hk.elim) (fun _ _ => trivial) HO (Below.refl _ _) hbase hl
    fun v1 w1 h1 _ h3 _ => h v1 w1 h1 h3 (Kd.R_base HO)
end
theorem Keep.below_of {S : List Nat} {w w1 w2 : World} (h : Below w.heap.size w w1) (hk : Keep S w1 w2) (hS : ∀ k ∈ S, w.heap.size ≤ k) : Below w.heap.size w w2 :=
  ((Keep.of_below h).trans (S := []) hk (by simp) (fun x hx hlt => by have := hS x hx; omega)).below
end Go.Proofs.YtjhhnidfmoejdaaDoor
