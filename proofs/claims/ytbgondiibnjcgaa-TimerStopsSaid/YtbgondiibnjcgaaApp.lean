/- append(x, y...) of entries; two structs compared. -/
import Derived.Test.YtbgondiibnjcgaaA18
namespace Go.Proofs.Ytbgondiibnjcgaa
open Go.RowKit Go.Proofs.YtbgondiibnjcgaaW.PrintWords Go.Proofs.YtbgondiibnjcgaaW.PrintLast
set_option maxRecDepth 10000
set_option linter.unusedVariables false
set_option maxHeartbeats 1000000

theorem kE_KM {w w' : World} {base : Nat} {ok : Nat → Prop} {x : En} {cs : List Value} (h : kE.K w x cs) : kE.M w' base ok x cs := by
  obtain ⟨c1, c2, rfl, h1, h2⟩ := h
  have h1' : c1 = [.string x.1] := h1
  have h2' : c2 = [.int .i64 x.2] := h2
  subst h1' h2'
  exact flatE.M.2 rfl

section
variable {P : Program} {ops : Array Oper} {rest : List Oper} {o : Oper} {a : Act} {Q : Exit → Act → World → Prop}
theorem Own.append_rowsE {W : World} (base base2 : Nat) (hgd : o.guard = none) (s x : Operand) (t : TypeId) (e : TypeId) (z : Value) (bytes : Nat)
    (ho : o.op = .call { callee := .builtin .append, args := #[s, x], argTypes := #[t, t] })
    (ht : P.underlying t = some (.slice e)) (hinfo : (P.info? e).map (fun i => (i.zero, i.size, i.bytes)) = some (some z, kE.sz, bytes)) (hz : z.cells.size = kE.sz) (hb0 : 0 < bytes)
    (v v2 : Value) (xs ys : List En) (hs : a.eval s = v) (hx : a.eval x = v2)
    (HO : Own kE e base W v xs) (HO2 : Own kE e base2 W v2 ys) (hbase : base ≤ W.heap.size) (hl : (xs.length + ys.length) * bytes ≤ 140737488355328)
    (h : ∀ v1 w1, Own kE e base w1 v1 (xs ++ ys) → W.grownBy w1 v.ownBlock → (∀ k, v.ownBlock = some k → base ≤ k) → wpList P ops Q rest (a.put o.dst v1) w1) :
    wpList P ops Q (o :: rest) a W := by
  obtain ⟨A, c, rfl, hc, hC⟩ := HO2.reads
  exact Kd.R_append_rows kE (w0 := W) base hgd s x t e z bytes ho ht hinfo hz (by decide) hb0 v xs ys A ys.length c (fun _ => True) (fun _ => False) hs hx HO hC (fun x cs h => kE_KM h) (fun _ hk => hk.elim) (fun _ _ => trivial) (Below.refl _ _) hbase hl
    fun v1 w1 h1 _ h3 _ => h v1 w1 h1 h3 (Kd.R_base HO)
end

theorem neqE (k : BA) (x : Int) (w : World) : (binOp .neq EntT (.agg #[.string k, .int .i64 x]) (.agg #[.string k, .int .i64 x])).run Try.prog w = .ok (.bool false) w := by
  have hS : Try.prog.underlying EntT = some (.struct (Try.prog.fieldsOf EntT)) := by kernel_rfl
  have hp : Try.prog.stoodInHeld EntT = false := by kernel_rfl
  rw [run_neq_struct, show (10000 : Nat) = 9999 + 1 from rfl, run_equalIn_agg w 9999 EntT _ _ hS hp]
  simp only [Program.fieldsOf, Try.underlying35]
  go_simp

theorem neqR (k : BA) (x : Int) (w : World) : (binOp .neq R18.RefT (.agg #[.string k, .int .i64 x]) (.agg #[.string k, .int .i64 x])).run Try.prog w = .ok (.bool false) w := by
  have hS : Try.prog.underlying R18.RefT = some (.struct (Try.prog.fieldsOf R18.RefT)) := by kernel_rfl
  have hp : Try.prog.stoodInHeld R18.RefT = false := by kernel_rfl
  rw [run_neq_struct, show (10000 : Nat) = 9999 + 1 from rfl, run_equalIn_agg w 9999 R18.RefT _ _ hS hp]
  simp only [Program.fieldsOf, Try.underlying41]
  go_simp

theorem Mt.sorted {W w : World} {n b : Nat} {r : List En} {K : Nat} (h : Mt W w n b r K) : r.Pairwise ltE := by
  obtain ⟨l, h1, h2, h3, h4, h5, h6⟩ := h.ex
  exact h4.2

theorem filter_split {a b : Int} (hab : a ≤ b) : ∀ (r : List En), r.Pairwise ltE → r.filter (fun p => decide (p.2 ≤ a)) ++ (r.filter fun p => decide (a < p.2)).filter (fun p => decide (p.2 ≤ b)) = r.filter fun p => decide (p.2 ≤ b)
  | [], _ => rfl
  | e :: t, h => by
    have h' := List.pairwise_cons.1 h
    by_cases he : e.2 ≤ a
    · have h1 : ¬ a < e.2 := by omega
      have h2 : e.2 ≤ b := by omega
      have ih := filter_split hab t h'.2
      simp only [List.filter_cons, he, h1, h2, decide_true, decide_false, if_true, Bool.false_eq_true, if_false, List.cons_append, ih]
    · have hall : ∀ p ∈ e :: t, a < p.2 := by
        intro p hp
        rcases List.mem_cons.1 hp with rfl | hp
        · omega
        · rcases h'.1 p hp with h | h <;> omega
      have f1 : (e :: t).filter (fun p => decide (p.2 ≤ a)) = [] := List.filter_eq_nil_iff.2 fun p hp => by have := hall p hp; simp; omega
      have f2 : (e :: t).filter (fun p => decide (a < p.2)) = e :: t := List.filter_eq_self.2 fun p hp => by have := hall p hp; simpa using this
      rw [f1, f2, List.nil_append]

theorem filter_late {a b : Int} (hab : a ≤ b) (r : List En) : (r.filter fun p => decide (a < p.2)).filter (fun p => decide (b < p.2)) = r.filter fun p => decide (b < p.2) := by
  rw [List.filter_filter]
  refine List.filter_congr fun p _ => ?_
  by_cases h : b < p.2
  · have : a < p.2 := by omega
    simp [h, this]
  · simp [h]
end Go.Proofs.Ytbgondiibnjcgaa
