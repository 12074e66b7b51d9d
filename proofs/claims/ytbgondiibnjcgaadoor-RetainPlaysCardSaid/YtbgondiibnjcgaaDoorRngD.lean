import Derived.Test.YtbgondiibnjcgaaDoorRngP
namespace Go.Proofs.YtbgondiibnjcgaaDoor
open Go.RowKit
set_option maxRecDepth 10000
set_option linter.unusedVariables false
set_option maxHeartbeats 1000000
section
variable {κ ν : Type} [DecidableEq κ] {P : Program} {w : World} {b r : Nat} {kf : κ → Value} {vf : ν → Value} {l : List (κ × ν)} {ss : List κ} {K E T : TypeId}
omit [DecidableEq κ] in
theorem RangeAt.mapAt (h : RangeAt w b r kf vf l ss) (hnd : (l.map (·.1)).Nodup) : MapAt w b kf vf l := by
  obtain ⟨es, cl, since, seen, c0, h1, he, hn, hr, hold, hsc, hsk, _⟩ := h
  exact ⟨es, cl, h1, he, hn, fun e h => Nat.lt_of_lt_of_le (hold e h) hsk, hnd⟩
theorem RangeAt.delete {x : κ} (h : RangeAt w b r kf vf l (ss ++ [x])) (KL : KeyLaw P K kf) (hinj : ∀ x y, kf x = kf y → x = y) (hnd : (l.map (·.1)).Nodup) (ht : P.underlying T = some (.map K E)) (ty : TypeId) :
    ∃ w', (Builtin.delete_ #[T, K] ty #[.map (some b), kf x]).run P w = .ok (.tuple #[]) w' ∧ RangeAt w' b r kf vf (AL.del l x) ss ∧ Keep [b] w w' ∧ w'.heap.size = w.heap.size ∧ w'.rangeLeft b r ≤ w.rangeLeft b r := by
  have hne := h.ne
  obtain ⟨es, cl, since, seen, c0, hb, he, hn, hr, hold, hsc, hsk, hss, hsub, hseen, hlen⟩ := h
  have hlt := (Array.getElem?_eq_some_iff.1 hb).1
  have hxl : x ∈ AL.keys l := hsub x (by simp)
  cases hi : AL.idx l x with
  | none =>
    exfalso
    have := AL.get_idx l x
    rw [hi] at this
    exact AL.get_none.1 this hxl
  | some p =>
    obtain ⟨i, v⟩ := p
    obtain ⟨h1, h2⟩ := del_of_idx hi
    have hlen2 : es.toList.length = l.length := by simpa [emb] using congrArg List.length he
    have hsz : i < es.size := by rw [← Array.length_toList, hlen2]; exact h1
    have hel : (es.eraseIdxIfInBounds i).toList = es.toList.eraseIdx i := by simp [Array.eraseIdxIfInBounds, hsz]
    have he' : (es.eraseIdxIfInBounds i).toList.map (fun e => (e.key, e.val)) = emb kf vf (AL.del l x) := by
      rw [hel, h2, map_eraseIdx, he]; simp [emb, map_eraseIdx]
    have hr' : (w.heap.setIfInBounds b (.map (es.eraseIdxIfInBounds i) cl))[r]? = some (.mapIter (some b) since seen c0) := by
      rw [Array.getElem?_setIfInBounds, if_neg (fun e => hne e.symm)]; exact hr
    have hb' : (w.heap.setIfInBounds b (.map (es.eraseIdxIfInBounds i) cl))[b]? = some (.map (es.eraseIdxIfInBounds i) cl) := by simp [hlt]
    have hsl : (leftOf (es.eraseIdxIfInBounds i) seen).size ≤ (leftOf es seen).size := by
      unfold leftOf
      have hA : ∀ a : Array MapEntry, (a.filter fun e => !seen.contains e.born).size = (a.toList.filter fun e => !seen.contains e.born).length := fun a => by rw [← Array.length_toList, Array.toList_filter]
      rw [hA, hA, hel]
      exact ((List.eraseIdx_sublist _ _).filter _).length_le
    have hss' := hss
    rw [List.nodup_append] at hss'
    refine ⟨_, by simp only [Builtin.delete_]; simp [run_underlying ht, Result.andThen, MapKept.run_getObj_map hb, KL.chk, run_findKey_emb KL x _ he, hi, MapKept.run_setObj_map _ hb], ⟨es.eraseIdxIfInBounds i, cl, since, seen, c0, hb', he', ?_, hr', ?_, hsc, hsk, hss'.1, ?_, ?_, ?_⟩, keep_setObj _ _ _, by simp, ?_⟩
    · rw [hel, map_eraseIdx]; exact hn.sublist (List.eraseIdx_sublist _ _)
    · rw [hel]; exact fun e h => hold e (List.mem_of_mem_eraseIdx h)
    · intro k hk
      exact (AL.keys_del hnd x k).2 ⟨hss'.2.2 k hk x (by simp), hsub k (by simp [hk])⟩
    · intro e hem
      have hem' : e ∈ es.toList := by rw [hel] at hem; exact List.mem_of_mem_eraseIdx hem
      rw [hseen e hem']
      obtain ⟨y, v', hy, hky, _⟩ := emb_mem he' hem
      have hyx : y ≠ x := ((AL.keys_del hnd x y).1 (List.mem_map.2 ⟨_, hy, rfl⟩)).1
      constructor
      · rintro ⟨k, hk, h3⟩
        rcases List.mem_append.1 hk with hk | hk
        · exact ⟨k, hk, h3⟩
        · simp at hk; subst hk; exact absurd (hinj _ _ (hky.symm.trans h3)) hyx
      · rintro ⟨k, hk, h3⟩; exact ⟨k, by simp [hk], h3⟩
    · have hl3 : (AL.del l x).length = l.length - 1 := by
        rw [h2, List.length_eraseIdx]; simp [h1]
      simp at hlen
      omega
    · show World.rangeLeft { w with heap := w.heap.setIfInBounds b (.map (es.eraseIdxIfInBounds i) cl) } b r ≤ _
      unfold World.rangeLeft
      simp only [hb', hr', hb, hr]
      exact hsl
variable {ops : Array Oper} {rest : List Oper} {o : Oper} {a : Act} {Q : Exit → Act → World → Prop}
theorem wpList_delete_range (hg : o.guard = none) (m x : Operand) (t K : TypeId) (hop : o.op = Op.call { callee := Callee.builtin Builtin.delete, args := #[m, x], argTypes := #[t, K] }) (E : TypeId) (KL : KeyLaw P K kf) (hinj : ∀ x y, kf x = kf y → x = y) (ht : P.underlying t = some (.map K E))
    (b r : Nat) (l : List (κ × ν)) (ss : List κ) (k : κ) (hnd : (l.map (·.1)).Nodup) (hm : a.eval m = .map (some b)) (hM : RangeAt w b r kf vf l (ss ++ [k])) (hx : a.eval x = kf k)
    (hK : ∀ w', RangeAt w' b r kf vf (AL.del l k) ss → Keep [b] w w' → w'.heap.size = w.heap.size → w'.rangeLeft b r ≤ w.rangeLeft b r → wpList P ops Q rest (a.put o.dst (.tuple #[])) w') : wpList P ops Q (o :: rest) a w := by
  refine wpList_plain hg fun K' hK' => ?_
  obtain ⟨w', hrun, r1, r2, r3, r4⟩ := hM.delete KL hinj hnd ht o.type
  unfold Oper.wp
  simp [execOp, hop, resolve, invoke, builtin, hm, hx, hrun, Result.andThen]
  exact hK' _ _ (hK w' r1 r2 r3 r4)
end
section
variable {κ ν : Type} {w w' : World} {b r : Nat} {kf : κ → Value} {vf : ν → Value} {l : List (κ × ν)} {ss : List κ}
theorem RangeAt.keep {S : List Nat} (h : RangeAt w b r kf vf l ss) (hk : Keep S w w') (h1 : b ∉ S) (h2 : r ∉ S) : RangeAt w' b r kf vf l ss ∧ w'.rangeLeft b r = w.rangeLeft b r := by
  obtain ⟨es, cl, since, seen, c0, hb, he, hn, hr, rest⟩ := h
  have hb' := (hk.block b (Array.getElem?_eq_some_iff.1 hb).1 h1).trans hb
  have hr' := (hk.block r (Array.getElem?_eq_some_iff.1 hr).1 h2).trans hr
  exact ⟨⟨es, cl, since, seen, c0, hb', he, hn, hr', rest⟩, by simp [World.rangeLeft, hb, hr, hb', hr']⟩
end
theorem filter_of {α : Type} {κ : Type} (f : α → κ) {l l' : List α} (p : α → Bool) (hs : l'.Sublist l) (hn : (l.map f).Nodup) (h1 : ∀ x ∈ l', p x = false) (h2 : ∀ x ∈ l, p x = false → x ∈ l') : l' = l.filter fun x => !p x := by
  have e1 : l'.filter (fun x => !p x) = l' := List.filter_eq_self.2 fun x hx => by simp [h1 x hx]
  have hs2 := hs.filter (fun x => !p x)
  rw [e1] at hs2
  have hnl : l.Nodup := (List.pairwise_map.1 hn).imp fun h e => h (by rw [e])
  have hp : l'.Perm (l.filter fun x => !p x) := (List.perm_ext_iff_of_nodup (hnl.sublist hs) (hnl.sublist List.filter_sublist)).2 fun x => by
    constructor
    · intro hx; exact List.mem_filter.2 ⟨hs.subset hx, by simp [h1 x hx]⟩
    · intro hx; obtain ⟨h3, h4⟩ := List.mem_filter.1 hx; exact h2 x h3 (by simpa using h4)
  exact hs2.eq_of_length hp.length_eq
theorem del_sublist {κ ν : Type} [DecidableEq κ] (l : List (κ × ν)) (k : κ) : (AL.del l k).Sublist l := by
  induction l with
  | nil => exact List.Sublist.slnil
  | cons a t ih =>
    obtain ⟨a, x⟩ := a
    simp only [AL.del]
    split
    · exact List.sublist_cons_self _ _
    · exact ih.cons_cons _
end Go.Proofs.YtbgondiibnjcgaaDoor
