/- timer.Next; the law's list. -/
import Derived.Test.YtbgondiibnjcgaaDue
namespace Go.Proofs.Ytbgondiibnjcgaa
open Go.RowKit Go.Shelf Go.Proofs.YtbgondiibnjcgaaW.PrintWords Go.Proofs.YtbgondiibnjcgaaW.PrintLast
set_option maxRecDepth 100000
set_option linter.unusedVariables false
set_option maxHeartbeats 2000000
attribute [local go_sem] Oper.semAt_some

/-- The same, the row's first block r0 laid ahead of w1. -/
def ListAt (w1 : World) (Bo r0 base : Nat) (pre : List En) (W : World) : Prop := ∃ v, Blk W Bo #[v] EntsT ∧ Own kE EntT base W v pre ∧ (∀ k, v.ownBlock = some k → k = r0 ∨ w1.heap.size ≤ k) ∧ Keep [Bo, r0] w1 W

theorem ListAt.from (w1 : World) (Bo r0 base : Nat) : OwnFrom w1.heap.size (ListAt w1 Bo r0 base) := fun s W W' row ⟨v, h1, h2, h4, h3⟩ hg hr =>
  ⟨v, blk_grown h1 hg (fun r e => (hr r e).2), own_grown h2 hg (fun r e => (hr r e).2), h4, keep_grown h3 hg (fun r e => (hr r e).1)⟩

theorem timList_any (n b : Nat) (l : List En) (w : World) (h : TimAt w n b l) (hs : ∀ p ∈ l, p.1.size ≤ maxLen) (hl : l.length < 1000000) :
    Calls Try.prog 23 #[ptrTo n] w (Px fun (x : Value × List En) e w' => e = .returned x.1 ∧ EntsOf x.2 l ∧ Own kE EntT w.heap.size w' x.1 x.2 ∧ Keep [] w w') := by
  refine callsIn_wide (n := 10) |>.1 ?_
  refine callsIn_of_wp_marks Try.func23 rfl trivial ?_
  simp only [Try.ntmps23, List.size_toArray, List.length_cons, List.length_nil, Nat.reduceAdd, Nat.reduceSub, Array.replicate_succ, Array.replicate_zero, List.push_toArray, List.append_toArray, List.nil_append, List.cons_append]
  have hK0 := ((Keep.refl [] w).alloc (.cells #[] EntT)).alloc (.cells #[.slice (some ⟨w.heap.size, 0, none⟩) 0 0] EntsT)
  have h2 := h.keep hK0 (by simp) (by simp)
  have hO0 := (Own.fresh (d := kE) (e := EntT) (base := w.heap.size) (w := w) (Nat.le_refl _)).keep ((Keep.refl [] _).alloc (.cells #[.slice (some ⟨w.heap.size, 0, none⟩) 0 0] EntsT)) (by simp)
  have hX : Blk _ (w.heap.size + 1) #[.slice (some ⟨w.heap.size, 0, none⟩) 0 0] EntsT := Blk.new' (w := w.alloc (.cells #[] EntT)) _ _ (by simp)
  have hsz0 : ((w.alloc (.cells #[] EntT)).alloc (.cells #[.slice (some ⟨w.heap.size, 0, none⟩) 0 0] EntsT)).heap.size = w.heap.size + 2 := by simp
  obtain ⟨w0, hw0⟩ : ∃ w0, (w.alloc (.cells #[] EntT)).alloc (.cells #[.slice (some ⟨w.heap.size, 0, none⟩) 0 0] EntsT) = w0 := ⟨_, rfl⟩
  have hall := hide (fun W h => callsIn_wide (n := 9) |>.2 (timAll_any n b l W h hs hl))
  gi_wp2_with fail
  refine ⟨trivial, ?_⟩
  rw [hw0] at hK0 h2 hO0 hX hsz0
  refine (hall.out _ h2).mono ?_
  rintro e w1 ⟨xs, rfl, hE, hR, hK1⟩
  rw [hsz0] at hR ⊢
  clear hw0
  gi_wp2_with fail
  obtain ⟨v0, hR1, hR2⟩ := hR
  have hxl : xs.length = l.length := hE.1.length_eq
  have hkw1 := hK0.then hK1
  have hX1 := hX.keep hK1 (by simp)
  have hO1 := hO0.keep hK1 (by simp)
  have hsz1 := hK1.size
  have hB1 := hR1.lt
  have hv0 : ∀ k, v0.ownBlock = some k → w.heap.size + 3 ≤ k ∧ k < w1.heap.size := fun k e => by
    have h1 := Kd.R_base hR2 k e
    obtain ⟨_, _, ho, _⟩ := hR2
    have := own_lt ho k e
    omega
  have hT : ∀ k ∈ (w.heap.size + 2) :: v0.ownBlock.toList, w.heap.size + 2 ≤ k ∧ k < w1.heap.size := fun k hk => by
    rcases List.mem_cons.1 hk with rfl | hk
    · omega
    · have := hv0 k (by simpa using hk); omega
  refine wpIn_rangeFunc_ownG (n := 10) (F := Fence.wide) rfl (by omega) (gf := 28) (lb := #[ptrTo (w.heap.size + 2)]) rfl trivial (enters_of Try.func28 (by kernel_rfl) rfl)
    (allIt_stops 9 (by omega) (w.heap.size + 2) _ v0 xs w1 hR1 hR2 (by omega)) SameOn.trans (fun W q o o' hq _ _ _ => SameOn.put (B := w1.heap.size) (fun k hk => (hT k hk).2) W q o o' hq) (Below.refl _ _) (fun _ => rfl)
    (fun pre W => ListAt w1 (w.heap.size + 1) w.heap.size w.heap.size pre W)
    (fun _ _ _ => False)
    (ListAt.from _ _ _ _)
    (fun c s A B row hs hg hr => hs.elim)
    ⟨_, hX1, hO1, fun k e => by simp [Value.ownBlock] at e; omega, Keep.refl _ _⟩
    (fun x => { tmps := #[ptrTo n, undef, .slice none 0 0, ptrTo (w.heap.size + 1), .string x.1, .int .i64 x.2, .slice (some ⟨w.heap.size, 0, none⟩) 0 0, ptrTo n, .func (.func 28) #[] #[ptrTo (w.heap.size + 2)], .string x.1, .int .i64 x.2, undef, undef, undef, undef, undef, undef, undef], defers := [] }) ?assign ?body ?done ?stop
  case assign =>
    intro q x W K hK
    gi_wp2
    exact hK
  case body =>
    rintro q pre x W ⟨v, hBv, hO, hvb, hK⟩ hlen
    have c1 := hBv.cell 0
    have f1 := hBv.frozen 0 (by simp)
    have hszW := hK.size
    simp at c1
    have HO := hide hO
    have HK := hide hK
    have HB := hide hBv
    have HV := hide hvb
    clear hO hK hBv hvb
    gi_wp2_with (first
      | (gi_at_builtin; refine Own.append_in_at kE flatE (fun x u hu => by simp [encE] at hu; rcases hu with rfl | rfl <;> rfl) (W := W) w.heap.size rfl (.tmp 11) (.tmp 15) EntsT EntT _ _ rfl Try.underlying32 infoE rfl (by decide) (by decide) v pre x rfl _ rfl rfl HO.out (by omega) (by omega) ?_; intro v1 w7 hO2 hg2 hr2 hat2; obtain ⟨A7, c7, rfl⟩ := hO2.slice; have HO2 := hide hO2; clear hO2; have hne : v.ownBlock ≠ some (w.heap.size + 1) := (fun e => by have := HV.out _ e; omega); have HB7 := HB.out.of_block (hg2.block (w.heap.size + 1) (by omega) (by intro e; exact hne e.symm)); have hc7 := HB7.cell 0; have hf7 := HB7.frozen 0 (by simp); simp at hc7; have HG := hide hg2; have HAT := hide hat2; clear hg2 hr2 hat2)
      | gi_in)
    have K7 : Keep v.ownBlock.toList W w7 := Keep.of_grown HG.out (fun k e _ => by simp [e])
    have K8 := fun u => K7.trans (S := (w.heap.size + 1) :: v.ownBlock.toList) ((Keep.refl [w.heap.size + 1] w7).setCell (p := ⟨w.heap.size + 1, 0, none⟩) (fun _ => by simp) u) (fun x h _ => List.mem_cons_of_mem _ h) (fun x h _ => by simp at h; simp [h])
    have hOf := fun u => HO2.out.keep ((Keep.refl [w.heap.size + 1] w7).setCell (p := ⟨w.heap.size + 1, 0, none⟩) (fun _ => by simp) u) (by simp; exact not_of_blk HB7 (by decide))
    rw [show (pre ++ [x]).length = pre.length + 1 by simp] at hOf
    refine ⟨((KeepsOthers.of_grownBy HG.out ?_).trans (KeepsOthers.setCell _ _ _)).from _, SameOn.of_keep (K8 _) ?_, _, HB7.set 0 _, hOf _, ?_, ?_⟩
    · intro q o e ho
      obtain ⟨_, _, hown, _⟩ := HO.out
      obtain ⟨cells, hcl⟩ := own_typed hown q e
      rw [hcl] at ho; cases ho; rfl
    · intro k hk
      have h1 := hT k hk
      refine ⟨by omega, ?_⟩
      simp only [List.mem_cons, Option.mem_toList]
      rintro (h3 | h3)
      · omega
      · have := HV.out k h3; omega
    · intro k hk
      have h4 := HAT.out
      rw [show (pre ++ [x]).length = pre.length + 1 by simp] at h4
      rcases h4 with h4 | h4
      · exact HV.out k (h4 ▸ hk)
      · rw [hk] at h4; simp at h4; omega
    · exact HK.out.trans (K8 _) (fun _ h _ => h) (fun x hx hlt => by
        rcases List.mem_cons.1 hx with rfl | hx
        · simp
        · rcases HV.out x (by simpa using hx) with h | h
          · simp [h]
          · omega)
  case stop =>
    intro D c pre W _ _ h _
    exact h.elim
  case done =>
    rintro D ys W hD rfl ⟨v, hBv, hO, hvb, hK⟩ hDef
    have c1 := hBv.cell 0
    simp at c1
    gi_wp2
    refine ⟨by simp, .inl ⟨_, _, rfl, run_takeDeferred hDef, ?_⟩⟩
    have hpd : Keep [D] W (W.putObj D (.deferred none)) := Keep.of_grown (grownBy_putObj' W D _) (fun k e _ => by cases e; simp)
    have hw : Keep [] w W := hkw1.trans hK (by simp) (fun x hx hlt => by simp at hx; omega)
    exact ⟨_, results_tmp rfl _ _ _, (v, ys), rfl, hE, hO.keep hpd (by simp; exact not_of_other ⟨_, hDef, rfl⟩ _), hw.putObj (fun h => by omega) _⟩

/-- Where Next's loop has been left. -/
def NextStop (w1 : World) (r2 r3 : Nat) (pre : List En) (W : World) : Prop := ∃ x : En, pre = [x] ∧ Blk W r2 #[.string x.1, .int .i64 x.2] EntT ∧ Blk W r3 #[.bool true] 4 ∧ Keep [r2, r3] w1 W

def NextGo (w1 : World) (r2 r3 : Nat) (pre : List En) (W : World) : Prop := pre = [] ∧ Blk W r2 #[.string ByteArray.empty, .int .i64 0] EntT ∧ Blk W r3 #[.bool false] 4 ∧ Keep [r2, r3] w1 W

theorem timNext_any (n b : Nat) (l : List En) (w : World) (h : TimAt w n b l) (hs : ∀ p ∈ l, p.1.size ≤ maxLen) (hl : l.length < 1000000) :
    Calls Try.prog 22 #[ptrTo n] w (Px fun (x : En × Bool × List En) e w' => e = .returned (.tuple #[.agg #[.string x.1.1, .int .i64 x.1.2], .bool x.2.1]) ∧ EntsOf x.2.2 l ∧ x.2.1 = decide (0 < x.2.2.length) ∧ (x.2.1 = true → x.2.2.head? = some x.1) ∧ Keep [] w w') := by
  refine callsIn_wide (n := 10) |>.1 ?_
  refine callsIn_of_wp_marks Try.func22 rfl trivial ?_
  simp only [Try.ntmps22, List.size_toArray, List.length_cons, List.length_nil, Nat.reduceAdd, Nat.reduceSub, Array.replicate_succ, Array.replicate_zero, List.push_toArray, List.append_toArray, List.nil_append, List.cons_append]
  have hK0 := ((Keep.refl [] w).alloc (.cells #[.string ByteArray.empty, .int .i64 0] EntT)).alloc (.cells #[.bool false] 4)
  have h2 := h.keep hK0 (by simp) (by simp)
  have hE2 := (Blk.new w #[.string ByteArray.empty, .int .i64 0] EntT).alloc (.cells #[.bool false] 4)
  have hX : Blk _ (w.heap.size + 1) #[.bool false] 4 := Blk.new' (w := w.alloc (.cells #[.string ByteArray.empty, .int .i64 0] EntT)) _ _ (by simp)
  have hsz0 : ((w.alloc (.cells #[.string ByteArray.empty, .int .i64 0] EntT)).alloc (.cells #[.bool false] 4)).heap.size = w.heap.size + 2 := by simp
  have hall := hide (fun W h => callsIn_wide (n := 9) |>.2 (timAll_any n b l W h hs hl))
  gi_wp2_with fail
  refine ⟨trivial, ?_⟩
  refine (hall.out _ h2).mono ?_
  rintro e w1 ⟨xs, rfl, hE, hR, hK1⟩
  rw [hsz0] at hR ⊢
  gi_wp2_with fail
  obtain ⟨v0, hR1, hR2⟩ := hR
  have hxl : xs.length = l.length := hE.1.length_eq
  have hkw1 := hK0.then hK1
  have hE1 := hE2.keep hK1 (by simp)
  have hX1 := hX.keep hK1 (by simp)
  have hsz1 := hK1.size
  rw [hsz0] at hsz1
  have hB1 := hR1.lt
  have hv0 : ∀ k, v0.ownBlock = some k → w.heap.size + 3 ≤ k ∧ k < w1.heap.size := fun k e => by
    have h1 := Kd.R_base hR2 k e
    obtain ⟨_, _, ho, _⟩ := hR2
    have := own_lt ho k e
    omega
  have hT : ∀ k ∈ (w.heap.size + 2) :: v0.ownBlock.toList, w.heap.size + 2 ≤ k ∧ k < w1.heap.size := fun k hk => by
    rcases List.mem_cons.1 hk with rfl | hk
    · omega
    · have := hv0 k (by simpa using hk); omega
  refine wpIn_rangeFunc_ownG (n := 10) (F := Fence.wide) rfl (by omega) (gf := 28) (lb := #[ptrTo (w.heap.size + 2)]) rfl trivial (enters_of Try.func28 (by kernel_rfl) rfl)
    (allIt_stops 9 (by omega) (w.heap.size + 2) _ v0 xs w1 hR1 hR2 (by omega)) SameOn.trans (fun W q o o' hq _ _ _ => SameOn.put (B := w1.heap.size) (fun k hk => (hT k hk).2) W q o o' hq) (Below.refl _ _) (fun _ => rfl)
    (fun pre W => NextGo w1 w.heap.size (w.heap.size + 1) pre W)
    (fun c pre W => c = .ret ∧ NextStop w1 w.heap.size (w.heap.size + 1) pre W)
    (fun s A B row hs hg hr => ⟨hs.1, blk_grown hs.2.1 hg (fun r e => (hr r e).2), blk_grown hs.2.2.1 hg (fun r e => (hr r e).2), keep_grown hs.2.2.2 hg (fun r e => (hr r e).1)⟩)
    (fun c s A B row hs hg hr => by obtain ⟨h1, x, h2, h3, h4, h5⟩ := hs; exact ⟨h1, x, h2, blk_grown h3 hg (fun r e => (hr r e).2), blk_grown h4 hg (fun r e => (hr r e).2), keep_grown h5 hg (fun r e => (hr r e).1)⟩)
    ⟨rfl, hE1, hX1, Keep.refl _ _⟩
    (fun x => { tmps := #[ptrTo n, undef, ptrTo w.heap.size, ptrTo (w.heap.size + 1), .string x.1, .int .i64 x.2, ptrTo n, .func (.func 28) #[] #[ptrTo (w.heap.size + 2)], .string x.1, .int .i64 x.2, undef, undef, undef, undef], defers := [] }) ?assign ?body ?done ?stop
  case assign =>
    intro q x W K hK
    gi_wp2
    exact hK
  case body =>
    rintro q pre x W ⟨rfl, hB2, hB3, hK⟩ hlen
    have c2 := hB2.cell 0
    have c2' := hB2.cell 1
    have f2 := hB2.frozen 0 (by simp)
    have f2' := hB2.frozen 1 (by simp)
    have c3 := hB3.cell 0
    have f3 := hB3.frozen 0 (by simp)
    simp at c2 c2' c3
    gi_wp2
    refine ⟨(((KeepsOthers.setCell _ _ _).trans (KeepsOthers.setCell _ _ _)).trans (KeepsOthers.setCell _ _ _)).from _, rfl, x, rfl, ?_, ?_, ?_⟩
    · have := (((hB2.set 0 (.string x.1)).set 1 (.int .i64 x.2)).other (a := ⟨w.heap.size + 1, 0, none⟩) (by simp) (.bool true))
      simpa using this
    · have := (((hB3.other (a := ⟨w.heap.size, 0, none⟩) (by simp) (.string x.1)).other (a := ⟨w.heap.size, 1, none⟩) (by simp) (.int .i64 x.2)).set 0 (.bool true))
      simpa using this
    · exact ((hK.setCell (p := ⟨w.heap.size, 0, none⟩) (fun _ => by simp) _).setCell (p := ⟨w.heap.size, 1, none⟩) (fun _ => by simp) _).setCell (p := ⟨w.heap.size + 1, 0, none⟩) (fun _ => by simp) _
  case stop =>
    rintro D c pre W hD hpre ⟨rfl, x, rfl, hB2, hB3, hK⟩ hDef
    have hpd : Keep [D] W (W.putObj D (.deferred none)) := Keep.of_grown (grownBy_putObj' W D _) (fun k e _ => by cases e; simp)
    have hw : Keep [] w W := hkw1.trans hK (by simp) (fun x hx hlt => by simp at hx; omega)
    have hB2' := hB2.keep hpd (by simp; omega)
    have hB3' := hB3.keep hpd (by simp; omega)
    have c2 := hB2'.cell 0
    have c2' := hB2'.cell 1
    have c3 := hB3'.cell 0
    simp at c2 c2' c3
    gi_wp2
    refine ⟨by simp, .inl ⟨_, _, rfl, run_takeDeferred hDef, ?_⟩⟩
    refine ⟨.tuple #[.agg #[.string x.1, .int .i64 x.2], .bool true], by simp [results, Try.results22, go_sem, c2, c2', c3], (x, true, xs), rfl, hE, ?_, ?_, hw.putObj (fun h => by omega) _⟩
    · obtain ⟨rest, hr⟩ := hpre
      subst hr; simp
    · obtain ⟨rest, hr⟩ := hpre
      subst hr; simp
  case done =>
    rintro D ys W hD rfl ⟨rfl, hB2, hB3, hK⟩ hDef
    have hpd : Keep [D] W (W.putObj D (.deferred none)) := Keep.of_grown (grownBy_putObj' W D _) (fun k e _ => by cases e; simp)
    have hw : Keep [] w W := hkw1.trans hK (by simp) (fun x hx hlt => by simp at hx; omega)
    have c2 := hB2.cell 0
    have c2' := hB2.cell 1
    have f2 := hB2.frozen 0 (by simp)
    have f2' := hB2.frozen 1 (by simp)
    have c3 := hB3.cell 0
    have f3 := hB3.frozen 0 (by simp)
    simp at c2 c2' c3
    gi_wp2
    refine ⟨by simp, .inl ⟨_, _, rfl, run_takeDeferred ((((KeepsOthers.setCell _ _ _).trans (KeepsOthers.setCell _ _ _)).trans (KeepsOthers.setCell _ _ _)).same D _ hDef rfl), ?_⟩⟩
    have g2 := ((((hB2.set 0 (.string ⟨#[]⟩)).set 1 (.int .i64 0)).other (a := ⟨w.heap.size + 1, 0, none⟩) (by simp) (.bool false))).of_block (w' := World.putObj _ D (.deferred none)) (World.putObj_heap_other (by omega))
    have g3 := (((hB3.other (a := ⟨w.heap.size, 0, none⟩) (by simp) (.string ⟨#[]⟩)).other (a := ⟨w.heap.size, 1, none⟩) (by simp) (.int .i64 0)).set 0 (.bool false)).of_block (w' := World.putObj _ D (.deferred none)) (World.putObj_heap_other (by omega))
    have e2 := g2.cell 0
    have e2' := g2.cell 1
    have e3 := g3.cell 0
    simp only [List.setIfInBounds_toArray, List.set_cons_zero, List.set_cons_succ, List.getElem?_toArray, List.getElem?_cons_zero, List.getElem?_cons_succ] at e2 e2' e3
    have hkp := (((hw.setCell (p := ⟨w.heap.size, 0, none⟩) (fun h => by simp at h) (.string ⟨#[]⟩)).setCell (p := ⟨w.heap.size, 1, none⟩) (fun h => by simp at h) (.int .i64 0)).setCell (p := ⟨w.heap.size + 1, 0, none⟩) (fun h => by simp at h; omega) (.bool false)).putObj (D := D) (fun h => by omega) (.deferred none)
    generalize World.putObj _ D _ = wz at e2 e2' e3 hkp ⊢
    refine ⟨.tuple #[.agg #[.string ⟨#[]⟩, .int .i64 0], .bool false], by simp [results, Try.results22, go_sem, e2, e2', e3], ((⟨#[]⟩, 0), false, []), rfl, hE, rfl, (fun h => by cases h), hkp⟩
end Go.Proofs.Ytbgondiibnjcgaa
