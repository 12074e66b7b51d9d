import Derived.Test.YtjhhnidfmoejdaaDoorLg
namespace Go.Proofs.YtjhhnidfmoejdaaDoor
open Go.RowKit Go.Proofs.YtjhhnidfmoejdaaDoor.PLedgerPlays Go.Proofs.YtjhhnidfmoejdaaDoorW.PrintWords Go.Proofs.YtjhhnidfmoejdaaDoorW.PrintLast
set_option maxRecDepth 10000
set_option linter.unusedVariables false
set_option maxHeartbeats 1000000
section
variable {W w w' w1 : World} {p : Pl} {S : Lg}
theorem Sd.bel_keep (h : Sd W w p S) {T : List Nat} (hk : Keep T w w') (hT : ∀ k ∈ T, p.F k ∨ w.heap.size ≤ k) : Below W.heap.size W w' :=
  Keep.below_of h.bel hk (fun k hm => by
    rcases hT k hm with h1 | h1
    · exact h.ge k h1
    · exact Nat.le_trans h.bel.size h1)
theorem Sd.upx (h : Sd W w p S) {id : Int} {q : Nat} {x : SX} (hq : AL.get p.l id = some q) (hk : Keep [q] w w') (hx : Blk w' q (exC x) ExT) : Sd W w' p { S with M := upM S.M id (some x) } ∧ Gone p p w w' := by
  have hF : p.F q := .inr (.inr (.inr (.inl ⟨id, hq⟩)))
  obtain ⟨q1, q2, q3, q4, q5⟩ := h.qne hq
  refine ⟨⟨h.box.keep hk (by simp; exact fun e => q1 e.symm), ⟨h.op.map.keep hk (by simp; exact fun e => q2 e.symm), fun k c hc => ?_, fun k hk' => ?_, h.op.inj⟩, h.tk.keep hk (by simp; exact fun e => q3 e.symm), h.dn.off fltX (fun k e => hk.block k (h.dn.blt e).2 (by simp; rintro rfl; exact q4 e)), h.er.off fltS (fun k e => hk.block k (h.er.blt e).2 (by simp; rintro rfl; exact q5 e)), h.ne, h.nq, h.ge, h.bel_keep hk (fun k hm => by simp at hm; subst hm; exact .inl hF)⟩, Gone.of hk (fun k hm _ => by simp at hm; subst hm; exact hF) (fun _ h => .inl h)⟩
  · by_cases e : k = id
    · subst e
      rw [hq] at hc
      cases hc
      exact ⟨x, by simp [upM], hx⟩
    · obtain ⟨y, hy, hC⟩ := h.op.at_ k c hc
      refine ⟨y, by simp [upM, e, hy], hC.keep hk ?_⟩
      simp
      intro e'
      subst e'
      exact e (h.op.inj _ _ _ hc hq)
  · by_cases e : k = id
    · subst e; rw [hq] at hk'; cases hk'
    · simp [upM, e, h.op.none k hk']
theorem Sd.addx (h : Sd W w p S) {id : Int} {q : Nat} {x : SX} (h1 : Keep [] w w1) (hqn : w.heap.size ≤ q) (hx : Blk w1 q (exC x) ExT) (h2 : Keep [p.bo] w1 w') (hm : MapAt w' p.bo (Value.int .u32) ptrTo (AL.set p.l id q)) :
    Sd W w' { p with l := AL.set p.l id q } { S with M := upM S.M id (some x) } ∧ Gone p { p with l := AL.set p.l id q } w w' := by
  have g := h.keep h1
  have hqb : q ≠ p.bo := g.op.map.ne_blk hx
  have hs1 := h1.size
  have hkk : Keep [p.bo] w w' := h1.trans h2 (by simp) (fun x hx _ => hx)
  have hbo : p.F p.bo := .inr (.inl rfl)
  refine ⟨⟨g.box.keep h2 (by simp; exact g.nbo), ⟨hm, fun k c hc => ?_, fun k hk' => ?_, fun k k' c hc hc' => ?_⟩, g.tk.keep h2 (by simp; exact fun e => g.ne e.symm), g.dn.off fltX (fun k e => h2.block k (g.dn.blt e).2 (by simp; exact (g.dne e).2.1)), g.er.off fltS (fun k e => h2.block k (g.er.blt e).2 (by simp; exact (g.ene e).2.1)), h.ne, fun k c hc => ?_, ?_, h.bel_keep hkk (fun k hm => by simp at hm; subst hm; exact .inl hbo)⟩, Gone.of hkk (fun k hm _ => by simp at hm; subst hm; exact hbo) ?_⟩
  · simp only [AL.get_set] at hc
    by_cases e : k = id
    · rw [if_pos e] at hc; cases hc
      exact ⟨x, by simp [upM, e], hx.keep h2 (by simpa using hqb)⟩
    · rw [if_neg e] at hc
      obtain ⟨y, hy, hC⟩ := g.op.at_ k c hc
      exact ⟨y, by simp [upM, e, hy], hC.keep h2 (by simp; exact (g.qne hc).2.1)⟩
  · simp only [AL.get_set] at hk'
    by_cases e : k = id
    · rw [if_pos e] at hk'; cases hk'
    · rw [if_neg e] at hk'; simp [upM, e, h.op.none k hk']
  · simp only [AL.get_set] at hc hc'
    by_cases e : k = id
    · by_cases e' : k' = id
      · rw [e, e']
      · rw [if_pos e] at hc; rw [if_neg e'] at hc'; cases hc
        have := h.qlt hc'; omega
    · by_cases e' : k' = id
      · rw [if_neg e] at hc; rw [if_pos e'] at hc'; cases hc'
        have := h.qlt hc; omega
      · rw [if_neg e] at hc; rw [if_neg e'] at hc'; exact h.op.inj _ _ _ hc hc'
  · simp only [AL.get_set] at hc
    by_cases e : k = id
    · rw [if_pos e] at hc; cases hc
      intro e2; have := (h.dn.blt e2).2; omega
    · rw [if_neg e] at hc; exact h.nq k c hc
  · rintro k (rfl | rfl | rfl | ⟨i, hi⟩ | hd | he)
    · exact h.ge _ (.inl rfl)
    · exact h.ge _ (.inr (.inl rfl))
    · exact h.ge _ (.inr (.inr (.inl rfl)))
    · simp only [AL.get_set] at hi
      split at hi
      · cases hi; exact Nat.le_trans h.bel.size hqn
      · exact h.ge _ (.inr (.inr (.inr (.inl ⟨i, hi⟩))))
    · exact h.ge _ (.inr (.inr (.inr (.inr (.inl hd)))))
    · exact h.ge _ (.inr (.inr (.inr (.inr (.inr he)))))
  · rintro k (rfl | rfl | rfl | ⟨i, hi⟩ | hd | he)
    · exact .inl (.inl rfl)
    · exact .inl (.inr (.inl rfl))
    · exact .inl (.inr (.inr (.inl rfl)))
    · simp only [AL.get_set] at hi
      split at hi
      · cases hi; exact .inr hqn
      · exact .inl (.inr (.inr (.inr (.inl ⟨i, hi⟩))))
    · exact .inl (.inr (.inr (.inr (.inr (.inl hd)))))
    · exact .inl (.inr (.inr (.inr (.inr (.inr he)))))
theorem Sd.less (h : Sd W w p S) {l' : List (Int × Nat)} {M' : Int → Option SX} (hk : Keep [p.bo] w w') (hm : MapAt w' p.bo (Value.int .u32) ptrTo l') (hsub : ∀ k c, AL.get l' k = some c → AL.get p.l k = some c ∧ M' k = S.M k) (hnone : ∀ k, AL.get l' k = none → M' k = none) :
    Sd W w' { p with l := l' } { S with M := M' } ∧ Gone p { p with l := l' } w w' := by
  have hbo : p.F p.bo := .inr (.inl rfl)
  refine ⟨⟨h.box.keep hk (by simp; exact h.nbo), ⟨hm, fun k c hc => ?_, hnone, fun k k' c hc hc' => h.op.inj _ _ _ (hsub _ _ hc).1 (hsub _ _ hc').1⟩, h.tk.keep hk (by simp; exact fun e => h.ne e.symm), h.dn.off fltX (fun k e => hk.block k (h.dn.blt e).2 (by simp; exact (h.dne e).2.1)), h.er.off fltS (fun k e => hk.block k (h.er.blt e).2 (by simp; exact (h.ene e).2.1)), h.ne, fun k c hc => h.nq k c (hsub _ _ hc).1, ?_, h.bel_keep hk (fun k hm => by simp at hm; subst hm; exact .inl hbo)⟩, Gone.of hk (fun k hm _ => by simp at hm; subst hm; exact hbo) ?_⟩
  · obtain ⟨h1, h2⟩ := hsub k c hc
    obtain ⟨y, hy, hC⟩ := h.op.at_ k c h1
    exact ⟨y, h2.trans hy, hC.keep hk (by simp; exact (h.qne h1).2.1)⟩
  · rintro k (rfl | rfl | rfl | ⟨i, hi⟩ | hd | he)
    · exact h.ge _ (.inl rfl)
    · exact h.ge _ (.inr (.inl rfl))
    · exact h.ge _ (.inr (.inr (.inl rfl)))
    · exact h.ge _ (.inr (.inr (.inr (.inl ⟨i, (hsub _ _ hi).1⟩))))
    · exact h.ge _ (.inr (.inr (.inr (.inr (.inl hd)))))
    · exact h.ge _ (.inr (.inr (.inr (.inr (.inr he)))))
  · rintro k (rfl | rfl | rfl | ⟨i, hi⟩ | hd | he)
    · exact .inl (.inl rfl)
    · exact .inl (.inr (.inl rfl))
    · exact .inl (.inr (.inr (.inl rfl)))
    · exact .inl (.inr (.inr (.inr (.inl ⟨i, (hsub _ _ hi).1⟩))))
    · exact .inl (.inr (.inr (.inr (.inr (.inl hd)))))
    · exact .inl (.inr (.inr (.inr (.inr (.inr he)))))
theorem Sd.delx (h : Sd W w p S) {id : Int} (hk : Keep [p.bo] w w') (hm : MapAt w' p.bo (Value.int .u32) ptrTo (AL.del p.l id)) :
    Sd W w' { p with l := AL.del p.l id } { S with M := upM S.M id none } ∧ Gone p { p with l := AL.del p.l id } w w' := by
  have hnd := h.op.map.nodup
  refine h.less hk hm (fun k c hc => ?_) (fun k hc => ?_)
  · rw [AL.get_del hnd] at hc
    by_cases e : k = id
    · rw [if_pos e] at hc; cases hc
    · rw [if_neg e] at hc; exact ⟨hc, by simp [upM, e]⟩
  · rw [AL.get_del hnd] at hc
    by_cases e : k = id
    · simp [upM, e]
    · rw [if_neg e] at hc; simp [upM, e, h.op.none k hc]
theorem Sd.clro (h : Sd W w p S) (hk : Keep [p.bo] w w') (hm : MapAt w' p.bo (Value.int .u32) ptrTo ([] : List (Int × Nat))) :
    Sd W w' { p with l := [] } { S with M := fun _ => none } ∧ Gone p { p with l := [] } w w' :=
  h.less hk hm (fun k c hc => by simp [AL.get] at hc) (fun _ _ => rfl)
theorem Sd.tkp (h : Sd W w p S) {t' : List (Int × Int)} (hk : Keep [p.bt] w w') (hm : MapAt w' p.bt (Value.int .u32) (Value.int .i64) t') : Sd W w' p { S with tk := t' } ∧ Gone p p w w' := by
  have hbt : p.F p.bt := .inr (.inr (.inl rfl))
  exact ⟨⟨h.box.keep hk (by simp; exact h.nbt), h.op.keep (hk.block _ h.op.map.lt (by simp; exact h.ne)) (fun k q hq => hk.block q (h.qlt hq) (by simp; exact (h.qne hq).2.2.1)), hm, h.dn.off fltX (fun k e => hk.block k (h.dn.blt e).2 (by simp; exact (h.dne e).2.2.1)), h.er.off fltS (fun k e => hk.block k (h.er.blt e).2 (by simp; exact (h.ene e).2.2.1)), h.ne, h.nq, h.ge, h.bel_keep hk (fun k hm => by simp at hm; subst hm; exact .inl hbt)⟩, Gone.of hk (fun k hm _ => by simp at hm; subst hm; exact hbt) (fun _ h => .inl h)⟩
theorem Sd.nwp (h : Sd W w p S) (v : Int) : Sd W (w.setCell ⟨p.n, 3, none⟩ (.int .i64 v)) p { S with nw := v } ∧ Gone p p w (w.setCell ⟨p.n, 3, none⟩ (.int .i64 v)) := by
  have hk : Keep [p.n] w (w.setCell ⟨p.n, 3, none⟩ (.int .i64 v)) := (Keep.refl _ w).setCell (fun _ => by simp) _
  have hn : p.F p.n := .inl rfl
  have hb := h.box.set 3 (.int .i64 v)
  refine ⟨⟨by simpa using hb, h.op.keep (hk.block _ h.op.map.lt (by simp; exact fun e => h.nbo e.symm)) (fun k q hq => hk.block q (h.qlt hq) (by simp; exact (h.qne hq).1)), h.tk.keep hk (by simp; exact fun e => h.nbt e.symm), h.dn.off fltX (fun k e => hk.block k (h.dn.blt e).2 (by simp; exact (h.dne e).1)), h.er.off fltS (fun k e => hk.block k (h.er.blt e).2 (by simp; exact (h.ene e).1)), h.ne, h.nq, h.ge, h.bel_keep hk (fun k hm => by simp at hm; subst hm; exact .inl hn)⟩, Gone.of hk (fun k hm _ => by simp at hm; subst hm; exact hn) (fun _ h => .inl h)⟩
end
theorem Sd.dvp {W w wm w7 : World} {p : Pl} {S : Lg} (h : Sd W w p S) (hk : Keep [] w wm) (hg : wm.grownBy w7 p.dv.ownBlock) {v : Value} {ys : List SX} (hO : Own kX ExT W.heap.size w7 v ys) (hv : ∀ k, v.ownBlock = some k → p.dv.ownBlock = some k ∨ wm.heap.size ≤ k) :
    Sd W (w7.setCell ⟨p.n, 1, none⟩ v) { p with dv := v } { S with dn := ys } ∧ Gone p { p with dv := v } w (w7.setCell ⟨p.n, 1, none⟩ v) := by
  have hsz := hk.size
  have h1 := h.keep hk
  have hb : ∀ k, p.F k → p.dv.ownBlock ≠ some k → w7.heap[k]? = wm.heap[k]? := fun k hf hne => hg.block k (h1.flt hf) (fun e => hne e.symm)
  have hB7 : Below W.heap.size W w7 := Keep.below_of h1.bel (Keep.of_grown (S := p.dv.ownBlock.toList) hg (fun k e _ => by simp [e])) (fun k hm => h.ge k (.inr (.inr (.inr (.inr (.inl (by simpa using hm)))))))
  have box7 := h1.box.of_block (hb _ (.inl rfl) (fun e => (h1.dne e).1 rfl))
  have hne : ∀ k, p.F k → k ≠ p.n → p.dv.ownBlock ≠ some k → (w7.setCell ⟨p.n, 1, none⟩ v).heap[k]? = wm.heap[k]? := fun k hf hkn he => by
    rw [Below.heap_setCell _ _ _ _ hkn]; exact hb k hf he
  have hnev : v.ownBlock ≠ some p.n := fun e => by
    obtain ⟨_, _, ho, _⟩ := hO
    obtain ⟨cells, hc⟩ := own_typed ho _ e
    obtain ⟨lo, hi, h2, _⟩ := box7
    rw [hc] at h2; cases h2
  have hB8 : Below W.heap.size W (w7.setCell ⟨p.n, 1, none⟩ v) := Keep.below_of hB7 ((Keep.refl [p.n] w7).setCell (fun _ => by simp) v) (fun k hm => by simp at hm; subst hm; exact h.ge _ (.inl rfl))
  refine ⟨⟨?_, h1.op.keep (hne _ (.inr (.inl rfl)) h.nbo.symm (fun e => (h1.dne e).2.1 rfl)) (fun k q hq => hne _ (.inr (.inr (.inr (.inl ⟨k, hq⟩)))) (h1.qne hq).1 (h1.qne hq).2.2.2.1), h1.tk.of_block (hne _ (.inr (.inr (.inl rfl))) h.nbt.symm (fun e => (h1.dne e).2.2.1 rfl)), hO.off fltX (fun k hk => Below.heap_setCell _ _ _ _ (fun e => hnev (hk.trans (congrArg some e)))), h1.er.off fltS (fun k hk => hne _ (.inr (.inr (.inr (.inr (.inr hk))))) (h1.ene hk).1 (h1.ene hk).2.2.2), h.ne, fun k q hq e => ?_, ?_, hB8⟩, ?_⟩
  · have := box7.set 1 v
    simpa using this
  · rcases hv q e with h2 | h2
    · exact h.nq k q hq h2
    · have := h1.qlt hq; omega
  · rintro k (rfl | rfl | rfl | hq | hd | he)
    · exact h.ge _ (.inl rfl)
    · exact h.ge _ (.inr (.inl rfl))
    · exact h.ge _ (.inr (.inr (.inl rfl)))
    · exact h.ge _ (.inr (.inr (.inr (.inl hq))))
    · exact (hO.blt hd).1
    · exact h.ge _ (.inr (.inr (.inr (.inr (.inr he)))))
  · refine Gone.of (S := p.n :: p.dv.ownBlock.toList) ?_ (fun k hm _ => ?_) ?_
    · refine Keep.setCell ?_ (fun _ => by simp) v
      exact hk.trans (Keep.of_grown (S := p.dv.ownBlock.toList) hg (fun k e _ => by simp [e])) (by simp) (fun x hx _ => by simp at hx; simp [hx])
    · rcases List.mem_cons.1 hm with rfl | hm
      · exact .inl rfl
      · exact .inr (.inr (.inr (.inr (.inl (by simpa using hm)))))
    · rintro k (rfl | rfl | rfl | hq | hd | he)
      · exact .inl (.inl rfl)
      · exact .inl (.inr (.inl rfl))
      · exact .inl (.inr (.inr (.inl rfl)))
      · exact .inl (.inr (.inr (.inr (.inl hq))))
      · rcases hv k hd with h | h
        · exact .inl (.inr (.inr (.inr (.inr (.inl h)))))
        · exact .inr (by omega)
      · exact .inl (.inr (.inr (.inr (.inr (.inr he)))))
end Go.Proofs.YtjhhnidfmoejdaaDoor
