import Derived.Test.YtbgondiibnjcgaaDoorPpR
import Derived.Test.YtbgondiibnjcgaaDoorFlat
import Derived.Test.YtbgondiibnjcgaaDoorStrR
namespace Go.Proofs.YtbgondiibnjcgaaDoor
open Go.RowKit Go.Shelf Go.Proofs.YtbgondiibnjcgaaDoor.PRetainPlays Go.Proofs.YtbgondiibnjcgaaDoorW.PrintWords Go.Proofs.YtbgondiibnjcgaaDoorW.PrintLast
set_option maxRecDepth 100000
set_option linter.unusedVariables false
set_option maxHeartbeats 1000000
abbrev SM := S25
abbrev MsT : Nat := 25
abbrev kMs : Kd SM := k25
section
variable {α : Type} {P : Program} {ops : Array Oper} {rest : List Oper} {o : Oper} {a : Act} {Q : Exit → Act → World → Prop}
theorem Own.append_nest (d : Kd α) {W : World} (base : Nat) (hgd : o.guard = none) (s x : Operand) (t e : TypeId) (z : Value) (bytes : Nat)
    (ho : o.op = .call { callee := .builtin .append, args := #[s, x], argTypes := #[t, t] })
    (ht : P.underlying t = some (.slice e)) (hinfo : (P.info? e).map (fun i => (i.zero, i.size, i.bytes)) = some (some z, d.sz, bytes)) (hz : z.cells.size = d.sz) (hs0 : 0 < d.sz) (hb0 : 0 < bytes)
    (v : Value) (xs : List α) (p : α) (cs : List Value) (hs : a.eval s = v) (N : Nat) (hN : N = W.heap.size) (hx : a.eval x = .slice (some ⟨N, 0, none⟩) 1 1) (hp : d.M W base (fun k => some k ≠ v.ownBlock) p cs)
    (HO : Own d e base W v xs) (hbase : base ≤ W.heap.size) (hl : (xs.length + 1) * bytes ≤ 140737488355328)
    (h : ∀ v1 w1, Own d e base w1 v1 (xs ++ [p]) → W.grownBy w1 v.ownBlock → (∀ k, v.ownBlock = some k → base ≤ k) → wpList P ops Q rest (a.put o.dst v1) w1) :
    wpList P ops Q (o :: rest) a (W.alloc (.cells cs.toArray e)) :=
  Kd.R_append d (w0 := W) base hgd s x t e z bytes ho ht hinfo hz hs0 hb0 v xs p cs (fun _ => True) (fun k => some k ≠ v.ownBlock) hs (hN ▸ hx) hp (fun _ hk => ⟨trivial, hk⟩) (fun _ _ => trivial) HO (Below.refl _ _) hbase hl
    fun v1 w1 h1 _ h3 _ => h v1 w1 h1 h3 (Kd.R_base HO)
end
theorem Own.apart {α β : Type} {d : Kd α} {d' : Kd β} {e e' base base' : Nat} {w : World} {v v' : Value} {xs : List α} {ys : List β} (h : Own d e base w v xs) (h' : Own d' e' base' w v' ys) (hne : e ≠ e') (P : Nat → Prop) (hP : ∀ k, some k ≠ v'.ownBlock → P k) (hE : d.E = []) :
    d.R e w base P v xs := by
  refine Kd.R_mono (Kd.R_bound h) fun k hk => hP k fun e1 => ?_
  obtain ⟨_, _, _, q, hq, cells, hc⟩ := hk
  rw [hE] at hq
  simp at hq
  subst hq
  obtain ⟨_, _, ho, _⟩ := h'
  obtain ⟨cells', hc'⟩ := own_typed ho k e1.symm
  rw [hc] at hc'
  cases hc'
  exact hne rfl
section
variable {α β : Type} {d : Kd α} {d' : Kd β} {e e' base base' : Nat} {w w' : World} {v v' : Value} {xs : List α} {ys : List β}
theorem Own.typ_of (h' : Own d' e' base' w v' ys) {k : Nat} (hk : v'.ownBlock = some k) : ∃ cells, w.heap[k]? = some (.cells cells e' (0, 0)) := by
  obtain ⟨_, _, ho, _⟩ := h'
  exact own_typed ho k hk
theorem Own.kept_by (h : Own d e base w v xs) (h' : Own d' e' base' w v' ys) (hne : e' ∉ e :: d.E) (hg : w.grownBy w' v'.ownBlock) : Own d e base w' v xs := by
  refine h.keep (S := v'.ownBlock.toList) (Keep.of_grown hg (fun k e _ => by simp [e])) fun k hk => ?_
  rintro ⟨q, hq, cells, hc⟩
  obtain ⟨cells', hc'⟩ := h'.typ_of (k := k) (by simpa using hk)
  rw [hc] at hc'
  cases hc'
  exact hne hq
theorem Blk.kept_by {b : Nat} {cs : Array Value} {T : TypeId} (h : Blk w b cs T) (h' : Own d' e' base' w v' ys) (hne : T ≠ e') (hg : w.grownBy w' v'.ownBlock) : Blk w' b cs T :=
  h.of_block (hg.block b h.lt (fun e1 => by
    obtain ⟨cells', hc'⟩ := h'.typ_of (k := b) e1.symm
    obtain ⟨lo, hi, hb, _⟩ := h
    rw [hb] at hc'; cases hc'; exact hne rfl))
theorem MapAt.kept_by {κ ν : Type} {kf : κ → Value} {vf : ν → Value} {l : List (κ × ν)} {b : Nat} (h : MapAt w b kf vf l) (h' : Own d' e' base' w v' ys) (hg : w.grownBy w' v'.ownBlock) : MapAt w' b kf vf l :=
  h.of_block (hg.block b h.lt (fun e1 => by
    obtain ⟨cells', hc'⟩ := h'.typ_of (k := b) e1.symm
    obtain ⟨es, cl, hm, _⟩ := h
    rw [hm] at hc'; cases hc'))
theorem Keep.grown_at {S : List Nat} {w0 : World} (h : Keep S w0 w) (hg : w.grownBy w' v'.ownBlock) (hr : ∀ k, v'.ownBlock = some k → w0.heap.size ≤ k) : Keep S w0 w' :=
  h.trans (S1 := S) (S2 := v'.ownBlock.toList) (Keep.of_grown hg (fun k e _ => by simp [e])) (fun _ h _ => h) (fun x hx hlt => by have := hr x (by simpa using hx); omega)
end
theorem flatS : Flat Kd.string (fun x : BA => [Value.string x]) where
  len _ := rfl
  M := Iff.rfl
theorem own_strs {w : World} {base : Nat} {v : Value} {L : List BA} (h : w.ownsRow base StrT 1 v L.length (L.map Value.string)) : Own Kd.string StrT base w v L :=
  Own.of_flat flatS (by
    have : L.flatMap (fun x : BA => [Value.string x]) = L.map Value.string := by clear h; induction L with | nil => rfl | cons a t ih => rw [List.flatMap_cons, ih]; rfl
    rw [this]; exact h)
theorem own_str_at {base : Nat} {w : World} {v : Value} {l : List BA} (h : Own Kd.string StrT base w v l) {j : Nat} (hj : j < l.length) :
    ∃ g cap, v = .slice (some ⟨g, 0, none⟩) l.length cap ∧ g < w.heap.size ∧ w.cell? ⟨g, j, none⟩ = some (.string l[j]) := by
  obtain ⟨g, cap, hv, _, hg⟩ := h.form (by omega)
  obtain ⟨A, c, hv', _, hC⟩ := h.reads
  rw [hv] at hv'
  cases hv'
  obtain ⟨ad, c1, e, hc1, hK, hcell⟩ := Kd.C_get hC ByteArray.empty (j : Int) (by omega) (by omega)
  cases e
  have hK' : c1 = [.string (l.getD (j : Int).toNat ByteArray.empty)] := hK
  subst hK'
  have := hcell 0 _ rfl
  rw [show (j : Int).toNat = j by omega, add_plain, show (Kd.string).sz = 1 from rfl] at this
  refine ⟨g, _, hv, hg, ?_⟩
  simpa [List.getD, hj] using this
theorem infoMs : (Tryd.prog.info? MsT).map (fun i => (i.zero, i.size, i.bytes)) = some (some (.agg #[.string ByteArray.empty, .int .i64 0, .int .u8 0, .bool false, .slice none 0 0, .string ByteArray.empty, .string ByteArray.empty]), 7, 88) := by kernel_rfl
end Go.Proofs.YtbgondiibnjcgaaDoor
