import Derived.Test.YtbgondiibnjcgaaDoorKd
import Derived.Test.YtbgondiibnjcgaaDoorPRetainPlaysx2
import Derived.Test.YtbgondiibnjcgaaDoorPh
import Derived.Lib.LazyBuf
namespace Go.Proofs.YtbgondiibnjcgaaDoor
open Go.RowKit Go.Proofs.YtbgondiibnjcgaaDoor.PRetainPlays Go.Proofs.YtbgondiibnjcgaaDoorW.PrintWords Go.Proofs.YtbgondiibnjcgaaDoorW.PrintLast
set_option maxRecDepth 10000
set_option linter.unusedVariables false
set_option maxHeartbeats 1000000
abbrev PrT : Nat := 30
abbrev PrsT : Nat := 23
abbrev SP := S30
abbrev kPr : Kd SP := k30
theorem kPr_KM {w w' : World} {base : Nat} {ok : Nat → Prop} {x : SP} {cs : List Value} (h : kPr.K w x cs) : kPr.M w' base ok x cs := by
  obtain rfl := k30_open h
  exact k30_mkM _ _ _ _
section
variable {α : Type} {P : Program} {ops : Array Oper} {rest : List Oper} {o : Oper} {a : Act} {Q : Exit → Act → World → Prop}
theorem Own.append_rows (d : Kd α) (hKM : ∀ {w w' : World} {base : Nat} {ok : Nat → Prop} {x : α} {cs : List Value}, d.K w x cs → d.M w' base ok x cs) {W : World} (base base2 : Nat) (hgd : o.guard = none) (s x : Operand) (t : TypeId) (e : TypeId) (e2 : Nat) (z : Value) (bytes : Nat)
    (ho : o.op = .call { callee := .builtin .append, args := #[s, x], argTypes := #[t, t] })
    (ht : P.underlying t = some (.slice e)) (hinfo : (P.info? e).map (fun i => (i.zero, i.size, i.bytes)) = some (some z, d.sz, bytes)) (hz : z.cells.size = d.sz) (hs0 : 0 < d.sz) (hb0 : 0 < bytes)
    (v v2 : Value) (xs ys : List α) (hs : a.eval s = v) (hx : a.eval x = v2)
    (HO : Own d e base W v xs) (HO2 : Own d e2 base2 W v2 ys) (hbase : base ≤ W.heap.size) (hl : (xs.length + ys.length) * bytes ≤ 140737488355328)
    (h : ∀ v1 w1, Own d e base w1 v1 (xs ++ ys) → W.grownBy w1 v.ownBlock → (∀ k, v.ownBlock = some k → base ≤ k) → wpList P ops Q rest (a.put o.dst v1) w1) :
    wpList P ops Q (o :: rest) a W := by
  obtain ⟨A, c, rfl, hc, hC⟩ := HO2.reads
  exact Kd.R_append_rows d (w0 := W) base hgd s x t e z bytes ho ht hinfo hz hs0 hb0 v xs ys A ys.length c (fun _ => True) (fun _ => False) hs hx HO hC (fun x cs h => hKM h) (fun _ hk => hk.elim) (fun _ _ => trivial) (Below.refl _ _) hbase hl
    fun v1 w1 h1 _ h3 _ => h v1 w1 h1 h3 (Kd.R_base HO)
end
theorem infoPr : (Tryd.prog.info? PrT).map (fun i => (i.zero, i.size, i.bytes)) = some (some (.agg #[.int .i64 0, .int .u32 0, .string ByteArray.empty, .string ByteArray.empty]), 4, 48) := by kernel_rfl
theorem clonePr {w : World} {base : Nat} {v : Value} {l : List SP} (h : Own kPr PrT base w v l) (hl : l.length < 100000) :
    Calls Tryd.prog 38 #[v] w (Px fun (v' : Value) e w' => e = .returned v' ∧ Own kPr PrT w.heap.size w' v' l ∧ Keep [] w w') := by
  obtain ⟨A, c, rfl⟩ := h.slice
  rcases A with _ | A
  · have hl0 : l = [] := by
      rcases Nat.eq_zero_or_pos l.length with h0 | h0
      · exact List.eq_nil_of_length_eq_zero h0
      · obtain ⟨g, cap, hv, _⟩ := h.form h0
        injection hv with hv; cases hv
    subst hl0
    have he := Lib.run_eql_slice_nil (P := Tryd.prog) w PrsT PrT none 0 c 0 0 Tryd.underlying23
    simp only [List.length_nil]
    go_enter Tryd.func38, Tryd.ntmps38
    go_wp2_with fail
    go_ret
    exact ⟨_, rfl, Own.nil _ _ _ _, Keep.refl _ _⟩
  · have hf := Own.fresh (d := kPr) (e := PrT) (base := w.heap.size) (w := w) (Nat.le_refl _)
    have hk0 := (Keep.refl [] w).alloc (.cells #[] PrT)
    have h2 := h.keep hk0 (by simp)
    have he := Lib.run_eql_slice_nil (P := Tryd.prog) w PrsT PrT (some A) l.length c 0 0 Tryd.underlying23
    go_enter Tryd.func38, Tryd.ntmps38
    go_wp2_with (at_builtin; refine Own.append_rows kPr (fun h => kPr_KM h) w.heap.size base rfl (.tmp 5) (.tmp 6) PrsT PrT PrT _ _ rfl Tryd.underlying23 infoPr rfl (by decide) (by decide) _ _ [] l rfl rfl hf h2 (by simp) (by simp; omega) ?_; intro v1 w1 hO hg hr)
    go_ret
    exact ⟨v1, rfl, by simpa using hO, hk0.grown_base (by simp) hg hr⟩
theorem rdP_at (l : List SP) (i : Nat) (h : i < l.length) : rd_T30 l (i : Int) = l[i] := by
  unfold rd_T30; simp [List.getD, h]
def getPr (l : List SP) (id : Int) : Int × Int × ByteArray × ByteArray × Bool := match l.find? (fun p => decide (p.f0 = id)) with | some p => (p.f0, p.f1, p.f2, p.f3, true) | none => (0, 0, ⟨#[]⟩, ⟨#[]⟩, false)
def numPr (l : List SP) (id other : Int) : Int := match l.find? (fun p => decide (p.f0 = id)) with | some p => p.f1 | none => other
def noWD (l : List SP) : List SP := l.filter fun p => decide (p.f0 ≠ 24)
theorem get_l0 (l : List SP) (id : Int) (hl : l.length < 1000000) : ∀ (d k i : Nat), l.length - i = d → i ≤ l.length → d < k → prop_List_Get.l0 k id l (l.length : Int) (i : Int) = some (getPr (l.drop i) id) := by
  intro d
  induction d with
  | zero =>
    intro k i h1 h2 h3
    obtain ⟨k, rfl⟩ : ∃ m, k = m + 1 := ⟨k - 1, by omega⟩
    simp only [prop_List_Get.l0]
    rw [if_neg (by omega), List.drop_of_length_le (by omega)]
    rfl
  | succ d ih =>
    intro k i h1 h2 h3
    obtain ⟨k, rfl⟩ : ∃ m, k = m + 1 := ⟨k - 1, by omega⟩
    have hi : i < l.length := by omega
    have e : wrap64 ((i : Int) + 1) = ((i + 1 : Nat) : Int) := by unfold wrap64; omega
    simp only [prop_List_Get.l0]
    rw [if_pos (by omega), if_pos (by omega), if_pos (by omega), rdP_at l i hi, e, ih k (i + 1) (by omega) (by omega) (by omega), List.drop_eq_getElem_cons hi]
    by_cases hx : l[i].f0 = id
    · rw [if_pos hx]
      unfold getPr
      rw [List.find?_cons_of_pos (by simpa using hx)]
    · rw [if_neg hx]
      unfold getPr
      rw [List.find?_cons_of_neg (by simpa using hx)]
theorem get_f (l : List SP) (id : Int) (hl : l.length < 1000000) (k : Nat) (hk : l.length < k) : prop_List_Get.f k l id = some (getPr l id) := by
  have := get_l0 l id hl l.length k 0 (by omega) (by omega) hk
  simpa [prop_List_Get.f] using this
theorem num_f (l : List SP) (id other : Int) (hl : l.length < 1000000) (k : Nat) (hk : l.length < k) : prop_List_Num.f k l id other = some (numPr l id other) := by
  unfold prop_List_Num.f
  rw [get_f l id hl k hk]
  unfold getPr numPr
  cases l.find? (fun p => decide (p.f0 = id)) <;> simp
def leftV (at_ : Int) (l : List SP) (now : Int) : Int × Bool := match l.find? (fun p => decide (p.f0 = 2)) with | some p => (wrap64 (wrap64 (at_ + wrap64 p.f1) - now), true) | none => (0, false)
def goneV (at_ : Int) (l : List SP) (now : Int) : Bool := (leftV at_ l now).2 && decide ((leftV at_ l now).1 ≤ 0)
theorem left_f (fr tp pl : ByteArray) (at_ q : Int) (rt : Bool) (l : List SP) (now : Int) (hl : l.length < 1000000) (k : Nat) (hk : l.length < k) : retain_Message_Left.f k fr at_ q rt l tp pl now = some (leftV at_ l now) := by
  unfold retain_Message_Left.f
  rw [get_f l 2 hl k hk]
  unfold getPr leftV
  cases l.find? (fun p => decide (p.f0 = 2)) <;> simp
theorem gone_f (fr tp pl : ByteArray) (at_ q : Int) (rt : Bool) (l : List SP) (now : Int) (hl : l.length < 1000000) (k : Nat) (hk : l.length < k) : retain_Message_Gone.f k fr at_ q rt l tp pl now = some (goneV at_ l now) := by
  unfold retain_Message_Gone.f
  rw [left_f fr tp pl at_ q rt l now hl k hk]
  unfold goneV
  cases h : (leftV at_ l now).2 <;> simp [h]
theorem mleft {w : World} {base : Nat} {v : Value} {l : List SP} (h : Own kPr PrT base w v l) (hl : l.length < 100000) (fr tp pl : ByteArray) (at_ q : Int) (rt : Bool) (now : Int) :
    Calls Tryd.prog 11 #[.agg #[.string fr, .int .i64 at_, .int .u8 q, .bool rt, v, .string tp, .string pl], .int .i64 now] w fun e w' => e = .returned (.tuple #[.int .i64 (leftV at_ l now).1, .bool (leftV at_ l now).2]) ∧ Keep [] w w' := by
  obtain ⟨A, c, rfl, hc, hC⟩ := h.reads
  exact (retain_Message_Left.calls (l.length + 1) fr at_ q rt A c l tp pl now _ _ w hC hc (left_f fr tp pl at_ q rt l now (by omega) _ (by omega))).mono fun e w' h => ⟨h.1, Keep.of_below h.2⟩
theorem mgone {w : World} {base : Nat} {v : Value} {l : List SP} (h : Own kPr PrT base w v l) (hl : l.length < 100000) (fr tp pl : ByteArray) (at_ q : Int) (rt : Bool) (now : Int) :
    Calls Tryd.prog 13 #[.agg #[.string fr, .int .i64 at_, .int .u8 q, .bool rt, v, .string tp, .string pl], .int .i64 now] w fun e w' => e = .returned (.bool (goneV at_ l now)) ∧ Keep [] w w' := by
  obtain ⟨A, c, rfl, hc, hC⟩ := h.reads
  exact (retain_Message_Gone.calls (l.length + 1) fr at_ q rt A c l tp pl now _ w hC hc (gone_f fr tp pl at_ q rt l now (by omega) _ (by omega))).mono fun e w' h => ⟨h.1, Keep.of_below h.2⟩
theorem mnum {w : World} {base : Nat} {v : Value} {l : List SP} (h : Own kPr PrT base w v l) (hl : l.length < 100000) (id other : Int) :
    Calls Tryd.prog 37 #[v, .int .i64 id, .int .u32 other] w fun e w' => e = .returned (.int .u32 (numPr l id other)) ∧ Keep [] w w' := by
  obtain ⟨A, c, rfl, hc, hC⟩ := h.reads
  exact (prop_List_Num.calls (l.length + 1) A c l id other _ w hC hc (num_f l id other (by omega) _ (by omega))).mono fun e w' h => ⟨h.1, Keep.of_below h.2⟩
end Go.Proofs.YtbgondiibnjcgaaDoor
