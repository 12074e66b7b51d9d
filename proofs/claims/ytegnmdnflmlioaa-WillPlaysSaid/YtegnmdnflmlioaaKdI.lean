import Derived.Test.YtegnmdnflmlioaaFlat
import Derived.OwnWalkIn
import Derived.Maps.AppendAt
import Derived.Maps.OwnIn
namespace Go.Proofs.Ytegnmdnflmlioaa
open Go.RowKit Go.Proofs.YtegnmdnflmlioaaW.PrintWords Go.Proofs.YtegnmdnflmlioaaW.PrintLast
set_option maxRecDepth 10000
set_option linter.unusedVariables false
section
variable {α : Type} {F : Fence} {n : Nat} {P : Program} {ops : Array Oper} {rest : List Oper} {o : Oper} {a : Act} {Q : Exit → Act → World → Prop} {enc : α → List Value}
theorem Own.append_in (d : Kd α) (Fl : Flat d enc) (h1c : ∀ x, ∀ u ∈ enc x, u.oneCell' = true) {W : World} (base : Nat) (hgd : o.guard = none) (s x : Operand) (t e : TypeId) (z : Value) (bytes : Nat)
    (ho : o.op = .call { callee := .builtin .append, args := #[s, x], argTypes := #[t, t] })
    (ht : P.underlying t = some (.slice e)) (hinfo : (P.info? e).map (fun i => (i.zero, i.size, i.bytes)) = some (some z, d.sz, bytes)) (hz : z.cells.size = d.sz) (hs0 : 0 < d.sz) (hb0 : 0 < bytes)
    (v : Value) (xs : List α) (p : α) (hs : a.eval s = v) (N : Nat) (hN : N = W.heap.size) (hx : a.eval x = .slice (some ⟨N, 0, none⟩) 1 1)
    (HO : Own d e base W v xs) (hbase : base ≤ W.heap.size) (hl : (xs.length + 1) * bytes ≤ 140737488355328)
    (h : ∀ v1 w1, Own d e base w1 v1 (xs ++ [p]) → W.grownBy w1 v.ownBlock → (∀ k, v.ownBlock = some k → base ≤ k) → wpListIn F n P ops Q rest (a.put o.dst v1) w1) :
    wpListIn F n P ops Q (o :: rest) a (W.alloc (.cells (enc p).toArray e)) := by
  subst hN
  obtain ⟨i0, hi, hz0, hz1, hz2⟩ := info_parts hinfo
  have hfl := HO.flat Fl
  have hA : (W.alloc (.cells (enc p).toArray e)).ownsRow base e d.sz v xs.length (xs.flatMap enc) := (HO.keep ((Keep.refl [] W).alloc _) (by simp)).flat Fl
  have hlen : xs.length + 1 ≤ maxLen := by
    have : xs.length + 1 ≤ (xs.length + 1) * bytes := Nat.le_mul_of_pos_right _ hb0
    unfold maxLen; omega
  refine wpListIn_append_own (W.alloc (.cells (enc p).toArray e)) hgd s x t ho base e i0 z d.sz bytes ht hi hz0 hz1 hz2 hz hs0 v xs.length (xs.flatMap enc) hs hA ⟨W.heap.size, 0, none⟩ 1 1 (enc p) hx (by rw [Fl.len, Nat.one_mul]) ?_ (h1c p) hlen hl (by simp; omega) ?_
  · intro j u hj
    have := (Blk.new W (enc p).toArray e).cell j
    rw [show (⟨W.heap.size, 0, none⟩ : Addr).add j = ⟨W.heap.size, j, none⟩ from by simp [Addr.add]; try omega]
    rw [this]; simpa using hj
  · intro v' w' hown hg _
    refine h v' w' (Own.of_flat Fl ?_) ⟨hg.os, hg.tape, hg.output, Nat.le_trans (by simp) hg.size, fun k hk hne => (hg.block k (by simp; omega) hne).trans (Below.heap_alloc _ _ _ hk)⟩ (Kd.R_base HO)
    have e1 : (xs ++ [p]).flatMap enc = xs.flatMap enc ++ enc p := by simp
    rw [e1, List.length_append]
    exact hown
theorem Own.append_in_at (d : Kd α) (Fl : Flat d enc) (h1c : ∀ x, ∀ u ∈ enc x, u.oneCell' = true) {W : World} (base : Nat) (hgd : o.guard = none) (s x : Operand) (t e : TypeId) (z : Value) (bytes : Nat)
    (ho : o.op = .call { callee := .builtin .append, args := #[s, x], argTypes := #[t, t] })
    (ht : P.underlying t = some (.slice e)) (hinfo : (P.info? e).map (fun i => (i.zero, i.size, i.bytes)) = some (some z, d.sz, bytes)) (hz : z.cells.size = d.sz) (hs0 : 0 < d.sz) (hb0 : 0 < bytes)
    (v : Value) (xs : List α) (p : α) (hs : a.eval s = v) (N : Nat) (hN : N = W.heap.size) (hx : a.eval x = .slice (some ⟨N, 0, none⟩) 1 1)
    (HO : Own d e base W v xs) (hbase : base ≤ W.heap.size) (hl : (xs.length + 1) * bytes ≤ 140737488355328)
    (h : ∀ v1 w1, Own d e base w1 v1 (xs ++ [p]) → W.grownBy w1 v.ownBlock → (∀ k, v.ownBlock = some k → base ≤ k) → (v1.ownBlock = v.ownBlock ∨ v1.ownBlock = some (W.heap.size + 1)) → wpListIn F n P ops Q rest (a.put o.dst v1) w1) :
    wpListIn F n P ops Q (o :: rest) a (W.alloc (.cells (enc p).toArray e)) := by
  subst hN
  obtain ⟨i0, hi, hz0, hz1, hz2⟩ := info_parts hinfo
  have hfl := HO.flat Fl
  have hA : (W.alloc (.cells (enc p).toArray e)).ownsRow base e d.sz v xs.length (xs.flatMap enc) := (HO.keep ((Keep.refl [] W).alloc _) (by simp)).flat Fl
  have hlen : xs.length + 1 ≤ maxLen := by
    have : xs.length + 1 ≤ (xs.length + 1) * bytes := Nat.le_mul_of_pos_right _ hb0
    unfold maxLen; omega
  refine wpListIn_append_own_at (W.alloc (.cells (enc p).toArray e)) hgd s x t ho base e i0 z d.sz bytes ht hi hz0 hz1 hz2 hz hs0 v xs.length (xs.flatMap enc) hs hA ⟨W.heap.size, 0, none⟩ 1 1 (enc p) hx (by rw [Fl.len, Nat.one_mul]) ?_ (h1c p) hlen hl (by simp; omega) ?_
  · intro j u hj
    have := (Blk.new W (enc p).toArray e).cell j
    rw [show (⟨W.heap.size, 0, none⟩ : Addr).add j = ⟨W.heap.size, j, none⟩ from by simp [Addr.add]; try omega]
    rw [this]; simpa using hj
  · intro v' w' hown hg _ hat
    refine h v' w' (Own.of_flat Fl ?_) ⟨hg.os, hg.tape, hg.output, Nat.le_trans (by simp) hg.size, fun k hk hne => (hg.block k (by simp; omega) hne).trans (Below.heap_alloc _ _ _ hk)⟩ (Kd.R_base HO) (by simpa using hat)
    have e1 : (xs ++ [p]).flatMap enc = xs.flatMap enc ++ enc p := by simp
    rw [e1, List.length_append]
    exact hown
end
end Go.Proofs.Ytegnmdnflmlioaa
