import Derived.Test.YtjhhnidfmoejdaaDoorMem
import Derived.Maps.RangeRun
import Derived.Maps.Range
import Derived.Sort.MapsRangeIn
import Derived.RangeFuncNested
import Derived.RangeFuncBound
import Derived.RangeFuncCalls
import Derived.RangeFuncLeaves
import Derived.Shelf.Abstract
import Derived.Shelf.RegionOpen
import Derived.WalkKit
import Derived.OwnWalkIn
import Derived.TacticsInMore
import Derived.LoopNIn
import Derived.LoopIn
import Derived.Maps.OwnIn
import Derived.Maps.AppendAt
namespace Go.Proofs.YtjhhnidfmoejdaaDoor
open Go.RowKit
set_option maxRecDepth 10000
set_option linter.unusedVariables false
set_option maxHeartbeats 1000000
section
variable {κ ν : Type} {P : Program} {w : World} {b r : Nat} {kf : κ → Value} {vf : ν → Value} {l : List (κ × ν)} {ss : List κ}
def RangeAt {κ ν : Type} (w : World) (b r : Nat) (kf : κ → Value) (vf : ν → Value) (l : List (κ × ν)) (ss : List κ) : Prop :=
  ∃ es cl since seen c0, w.heap[b]? = some (.map es cl) ∧ es.toList.map (fun e => (e.key, e.val)) = emb kf vf l ∧ (es.toList.map (·.born)).Nodup ∧ w.heap[r]? = some (.mapIter (some b) since seen c0) ∧
    (∀ x ∈ es.toList, x.born < since) ∧ since ≤ c0 ∧ since ≤ cl ∧ ss.Nodup ∧ (∀ k ∈ ss, k ∈ l.map (·.1)) ∧ (∀ e ∈ es.toList, (seen.contains e.born = true ↔ ∃ k ∈ ss, e.key = kf k)) ∧ (leftOf es seen).size + ss.length ≤ l.length
theorem emb_len {es : List MapEntry} (he : es.map (fun e => (e.key, e.val)) = emb kf vf l) : es.length = l.length := by
  have := congrArg List.length he
  simpa [emb] using this
theorem emb_mem {es : List MapEntry} (he : es.map (fun e => (e.key, e.val)) = emb kf vf l) {e : MapEntry} (h : e ∈ es) : ∃ x v, (x, v) ∈ l ∧ e.key = kf x ∧ e.val = vf v := by
  have h1 : (e.key, e.val) ∈ es.map (fun e => (e.key, e.val)) := List.mem_map.2 ⟨e, h, rfl⟩
  rw [he] at h1
  obtain ⟨p, hp, hq⟩ := List.mem_map.1 h1
  exact ⟨p.1, p.2, hp, (congrArg Prod.fst hq).symm, (congrArg Prod.snd hq).symm⟩
theorem emb_mem' {es : List MapEntry} (he : es.map (fun e => (e.key, e.val)) = emb kf vf l) {x : κ} {v : ν} (h : (x, v) ∈ l) : ∃ e ∈ es, e.key = kf x ∧ e.val = vf v := by
  have h1 : (kf x, vf v) ∈ emb kf vf l := List.mem_map.2 ⟨(x, v), h, rfl⟩
  rw [← he] at h1
  obtain ⟨p, hp, hq⟩ := List.mem_map.1 h1
  exact ⟨p, hp, congrArg Prod.fst hq, congrArg Prod.snd hq⟩
theorem emb_keys {es : List MapEntry} (he : es.map (fun e => (e.key, e.val)) = emb kf vf l) (hinj : ∀ x y, kf x = kf y → x = y) (hnd : (l.map (·.1)).Nodup) : es.Pairwise (fun x y => x.key ≠ y.key) := by
  have h1 := congrArg (List.map Prod.fst) he
  simp only [emb, List.map_map] at h1
  have h2 : (es.map (·.key)) = (l.map (·.1)).map kf := by
    rw [List.map_map]; exact h1
  have h3 : ((l.map (·.1)).map kf).Nodup := List.pairwise_map.2 (hnd.imp fun h e => h (hinj _ _ e))
  rw [← h2] at h3
  exact List.pairwise_map.1 h3
theorem MapAt.range {T K E : TypeId} (h : MapAt w b kf vf l) (ht : P.underlying T = some (.map K E)) :
    ∃ w', (Instr.range T (.map (some b))).run P w = .ok (.pointer (some ⟨w.heap.size, 0, none⟩)) w' ∧ RangeAt w' b w.heap.size kf vf l [] ∧ w.grownBy w' none ∧ w'.heap.size = w.heap.size + 1 := by
  have hlt := h.lt
  obtain ⟨es, cl, hb, he, hn, hc, _⟩ := h
  refine ⟨_, run_range_map w T K E b es cl ht hb, ⟨es, cl, cl, #[], cl, (Below.heap_alloc _ _ _ hlt).trans hb, he, hn, World.alloc_heap_new w _, hc, Nat.le_refl _, Nat.le_refl _, List.nodup_nil, by simp, ?_, ?_⟩, World.grownBy_alloc w _ none, by simp⟩
  · intro e _; simp
  · have h1 : (leftOf es #[]).size ≤ es.size := by unfold leftOf; exact Array.size_filter_le
    have h2 := emb_len he
    simp at h2 ⊢
    omega
theorem RangeAt.ne (h : RangeAt w b r kf vf l ss) : r ≠ b := by
  obtain ⟨es, cl, since, seen, c0, hb, _, _, hr, _⟩ := h
  intro e
  rw [e, hb] at hr
  cases hr
theorem RangeAt.nodup (h : RangeAt w b r kf vf l ss) : ss.Nodup := by
  obtain ⟨es, cl, since, seen, c0, _, _, _, _, _, _, _, h, _⟩ := h
  exact h
theorem RangeAt.iter_walk (h : RangeAt w b r kf vf l ss) : ∃ o : Obj, w.heap[r]? = some o ∧ o.isWalk = true := by
  obtain ⟨es, cl, since, seen, c0, _, _, _, hr, _⟩ := h
  exact ⟨_, hr, rfl⟩
theorem RangeAt.of_walks {w' : World} (h : RangeAt w b r kf vf l ss) (hk : KeepsWalks w w') : RangeAt w' b r kf vf l ss := by
  obtain ⟨es, cl, since, seen, c0, hb, he, hn, hr, rest⟩ := h
  exact ⟨es, cl, since, seen, c0, hk.same b _ hb rfl, he, hn, hk.same r _ hr rfl, rest⟩
theorem RangeAt.left_walks {w' : World} (h : RangeAt w b r kf vf l ss) (hk : KeepsWalks w w') : w'.rangeLeft b r = w.rangeLeft b r := by
  obtain ⟨es, cl, since, seen, c0, hb, he, hn, hr, rest⟩ := h
  have h1 := hk.same b _ hb rfl
  have h2 := hk.same r _ hr rfl
  simp [World.rangeLeft, hb, hr, h1, h2]
theorem RangeAt.sub (h : RangeAt w b r kf vf l ss) : ∀ k ∈ ss, k ∈ l.map (·.1) := by
  obtain ⟨es, cl, since, seen, c0, _, _, _, _, _, _, _, _, h, _⟩ := h
  exact h
theorem RangeAt.perm (h : RangeAt w b r kf vf l ss) (hnd : (l.map (·.1)).Nodup) (hall : ∀ k ∈ l.map (·.1), k ∈ ss) : ss.Perm (l.map (·.1)) :=
  (List.perm_ext_iff_of_nodup h.nodup hnd).2 fun k => ⟨h.sub k, hall k⟩
theorem RangeAt.next (h : RangeAt w b r kf vf l ss) (hinj : ∀ x y, kf x = kf y → x = y) (hnd : (l.map (·.1)).Nodup) (ty : TypeId) :
    ((∀ k ∈ l.map (·.1), k ∈ ss) ∧ (Instr.next (.pointer (some ⟨r, 0, none⟩)) false ty).run P w = .ok (.tuple #[.bool false]) w) ∨
    ∃ x v w', (x, v) ∈ l ∧ ss.length < l.length ∧ (Instr.next (.pointer (some ⟨r, 0, none⟩)) false ty).run P w = .ok (.tuple #[.bool true, kf x, vf v]) w' ∧ RangeAt w' b r kf vf l (ss ++ [x]) ∧
      w'.rangeLeft b r < w.rangeLeft b r ∧ w.grownBy w' (some r) ∧ w'.heap.size = w.heap.size ∧ (Instr.entry (.pointer (some ⟨r, 0, none⟩))).run P w' = .ok (.tuple #[kf x, vf v]) w' := by
  have hne := h.ne
  obtain ⟨es, cl, since, seen, c0, hb, he, hn, hr, hold, hsc, hsk, hss, hsub, hseen, hlen⟩ := h
  rcases run_next_at (P := P) w ty r b since c0 seen es cl hr hb hold hsc with ⟨h0, hrun⟩ | ⟨e, hel, w1, hal, hrun⟩
  · refine .inl ⟨fun k hk => ?_, hrun⟩
    obtain ⟨p, hp, rfl⟩ := List.mem_map.1 hk
    obtain ⟨e, hee, hkey, _⟩ := emb_mem' he (x := p.1) (v := p.2) hp
    obtain ⟨k', hk', hk2⟩ := (hseen e hee).1 (all_seen es seen h0 e hee)
    rw [hkey] at hk2
    rw [hinj _ _ hk2]; exact hk'
  · obtain ⟨hem, hes⟩ := mem_left hel
    obtain ⟨x, v, hxv, hkey, hval⟩ := emb_mem he hem
    have hpw := emb_keys he hinj hnd
    have hr1 : w1.heap[r]? = some (.mapIter (some b) since seen c0) := by rcases hal with rfl | rfl <;> exact hr
    have hb1 : w1.heap[b]? = some (.map es cl) := by rcases hal with rfl | rfl <;> exact hb
    have hset := MapKept.heap_set (o' := .mapIter (some b) since (seen.push e.born) cl) hr1
    have hb' : (ChangeMaps.setBlock w1 r (.mapIter (some b) since (seen.push e.born) cl)).heap[b]? = some (.map es cl) := (hset.2 b (fun e1 => hne e1.symm)).trans hb1
    have hnew : x ∉ ss := fun hx => by
      have := (hseen e hem).2 ⟨x, hx, hkey⟩
      rw [hes] at this; cases this
    have hsh := left_shrinks es seen e hel
    refine .inr ⟨x, v, _, hxv, by omega, by rw [← hkey, ← hval]; exact hrun, ⟨es, cl, since, seen.push e.born, cl, hb', he, hn, hset.1, hold, hsk, hsk, ?_, ?_, ?_, ?_⟩, ?_, ?_, ?_, ?_⟩
    · refine List.nodup_append.2 ⟨hss, by simp, fun a ha c hc => ?_⟩
      simp at hc
      subst hc
      exact fun e => hnew (e ▸ ha)
    · intro k hk
      rcases List.mem_append.1 hk with hk | hk
      · exact hsub k hk
      · simp at hk; subst hk; exact List.mem_map.2 ⟨_, hxv, rfl⟩
    · intro e' he'
      rw [contains_push, Bool.or_eq_true, hseen e' he']
      constructor
      · rintro (⟨k, hk, h1⟩ | h1)
        · exact ⟨k, List.mem_append_left _ hk, h1⟩
        · have : e' = e := born_inj hn he' hem (by simpa using h1)
          exact ⟨x, by simp, by rw [this]; exact hkey⟩
      · rintro ⟨k, hk, h1⟩
        rcases List.mem_append.1 hk with hk | hk
        · exact .inl ⟨k, hk, h1⟩
        · simp at hk
          subst hk
          have : e' = e := entry_eq_of_key hpw he' hem (by rw [h1, hkey])
          exact .inr (by simp [this])
    · simp; omega
    · have e1 : (ChangeMaps.setBlock w1 r (.mapIter (some b) since (seen.push e.born) cl)).heap[r]? = some (.mapIter (some b) since (seen.push e.born) cl) := hset.1
      unfold World.rangeLeft; rw [hb', e1, hb, hr]; exact hsh
    · rcases hal with rfl | rfl <;> exact ⟨rfl, rfl, rfl, by simp [ChangeMaps.setBlock], fun i _ hi => hset.2 i (fun e1 => hi (by rw [e1]))⟩
    · rcases hal with rfl | rfl <;> simp [ChangeMaps.setBlock]
    · rw [← hkey, ← hval]; exact run_entry_at _ r b since seen es cl e hset.1 hb' hem hn
end
section
variable {κ ν : Type} {F : Fence} {n : Nat} {P : Program} {ops : Array Oper} {rest : List Oper} {o : Oper} {a : Act} {Q : Exit → Act → World → Prop} {kf : κ → Value} {vf : ν → Value}
theorem wpListIn_range_map (w : World) (hg : o.guard = none) (m : Operand) (t : TypeId) (hop : o.op = Op.range t m) (K E : TypeId) (ht : P.underlying t = some (.map K E)) (b : Nat) (l : List (κ × ν))
    (hm : a.eval m = .map (some b)) (hM : MapAt w b kf vf l)
    (hK : ∀ w', RangeAt w' b w.heap.size kf vf l [] → w.grownBy w' none → w'.heap.size = w.heap.size + 1 → wpListIn F n P ops Q rest (a.put o.dst (.pointer (some ⟨w.heap.size, 0, none⟩))) w') :
    wpListIn F n P ops Q (o :: rest) a w := by
  refine wpListIn_plain hg fun K' hK' => ?_
  obtain ⟨w', hrun, r1, r2, r3⟩ := hM.range ht
  unfold Oper.wpIn
  refine ⟨?_, ?_⟩
  · simp [Oper.about, hop]
  · rw [Oper.semAt_plain F _ _ (by rw [hop]; intro c hc'; cases hc')]
    simp [execOp, hop, hm, hrun, Result.andThen]
    exact hK' _ _ (hK w' r1 r2 r3)
theorem wpListIn_next_map (w : World) (hg : o.guard = none) (it : Operand) (hop : o.op = Op.next it false) (b r : Nat) (l : List (κ × ν)) (ss : List κ) (hinj : ∀ x y, kf x = kf y → x = y) (hnd : (l.map (·.1)).Nodup)
    (hit : a.eval it = .pointer (some ⟨r, 0, none⟩)) (h : RangeAt w b r kf vf l ss)
    (hDone : (∀ k ∈ l.map (·.1), k ∈ ss) → wpListIn F n P ops Q rest (a.put o.dst (.tuple #[.bool false])) w)
    (hMore : ∀ (x : κ) (v : ν) (w' : World), (x, v) ∈ l → ss.length < l.length → RangeAt w' b r kf vf l (ss ++ [x]) → w'.rangeLeft b r < w.rangeLeft b r → w.grownBy w' (some r) → w'.heap.size = w.heap.size →
      (Instr.entry (.pointer (some ⟨r, 0, none⟩))).run P w' = .ok (.tuple #[kf x, vf v]) w' → wpListIn F n P ops Q rest (a.put o.dst (.tuple #[.bool true, kf x, vf v])) w') :
    wpListIn F n P ops Q (o :: rest) a w := by
  refine wpListIn_plain hg fun K' hK' => ?_
  unfold Oper.wpIn
  refine ⟨by simp [Oper.about, hop], ?_⟩
  rw [Oper.semAt_plain F _ _ (by rw [hop]; intro c hc'; cases hc')]
  rcases h.next (P := P) hinj hnd o.type with ⟨hall, hrun⟩ | ⟨x, v, w', hxv, hll, hrun, h1, h2, h3, h4, h5⟩
  · simp [execOp, hop, hit, hrun, Result.andThen]
    exact hK' _ _ (hDone hall)
  · simp [execOp, hop, hit, hrun, Result.andThen]
    exact hK' _ _ (hMore x v w' hxv hll h1 h2 h3 h4 h5)
end
end Go.Proofs.YtjhhnidfmoejdaaDoor
