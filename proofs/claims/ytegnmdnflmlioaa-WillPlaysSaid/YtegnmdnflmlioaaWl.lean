import Derived.Test.YtegnmdnflmlioaaPp
import Derived.Test.YtegnmdnflmlioaaMt
import Derived.Deep.RegionHeld3
import Derived.Deep.DeepFit
import Derived.Outline
namespace Go.Proofs.Ytegnmdnflmlioaa
open Go.RowKit Go.Shelf Go.Proofs.Ytegnmdnflmlioaa.PWillPlays Go.Proofs.YtegnmdnflmlioaaW.PrintWords Go.Proofs.YtegnmdnflmlioaaW.PrintLast
set_option maxRecDepth 100000
set_option linter.unusedVariables false
set_option maxHeartbeats 1000000
attribute [local go_sem] Go.Proofs.YtegnmdnflmlioaaW.PrintMore.min2_int
abbrev SM := S39
structure Hd where
  m : SM
  pv : Value
  d : Int
def heldV (h : Hd) : Value := .agg #[.string h.m.f0, .int .i64 h.m.f1, .int .u8 h.m.f2, .bool h.m.f3, h.pv, .string h.m.f5, .string h.m.f6, .int .u32 h.d]
def Hd.zero : Hd := ⟨⟨⟨#[]⟩, 0, 0, false, [], ⟨#[]⟩, ⟨#[]⟩⟩, .slice none 0 0, 0⟩
theorem zeroHeld (w : World) : (zeroValue 73).run Try.prog w = .ok (heldV Hd.zero) w := by kernel_rfl
def KM (W w w' : World) : Prop := ∃ S : List Nat, Keep S w w' ∧ ∀ x ∈ S, W.heap.size ≤ x ∧ ∃ es cl, w.heap[x]? = some (.map es cl)
theorem KM.of {W w w' : World} (h : Keep [] w w') : KM W w w' := ⟨[], h, by simp⟩
theorem KM.own {α : Type} {d : Kd α} {e base : Nat} {W w w' : World} {v : Value} {xs : List α} (h : KM W w w') (ho : Own d e base w v xs) : Own d e base w' v xs := by
  obtain ⟨S, hk, hS⟩ := h
  refine ho.keep hk fun k hm => ?_
  obtain ⟨_, es, cl, hb⟩ := hS k hm
  rintro ⟨q, _, cells, hc⟩
  rw [hb] at hc; cases hc
theorem KM.blk {W w w' : World} {q : Nat} {cs : Array Value} {T : TypeId} (h : KM W w w') (hb : Blk w q cs T) : Blk w' q cs T := by
  obtain ⟨S, hk, hS⟩ := h
  refine hb.keep hk fun hm => ?_
  obtain ⟨_, es, cl, hm⟩ := hS q hm
  obtain ⟨lo, hi, hb, _⟩ := hb
  rw [hm] at hb; cases hb
theorem KM.below {W w w' : World} (h : KM W w w') (hb : Below W.heap.size W w) : Below W.heap.size W w' := by
  obtain ⟨S, hk, hS⟩ := h
  exact Keep.below_of hb hk fun k hm => (hS k hm).1
theorem KM.size {W w w' : World} (h : KM W w w') : w.heap.size ≤ w'.heap.size := by obtain ⟨S, hk, hS⟩ := h; exact hk.size
theorem KM.trans {W w w1 w2 : World} (h1 : KM W w w1) (h2 : KM W w1 w2) : KM W w w2 := by
  obtain ⟨S1, k1, m1⟩ := h1
  obtain ⟨S2, k2, m2⟩ := h2
  refine ⟨S1 ++ S2.filter (fun x => decide (x < w.heap.size)), k1.trans k2 (fun x hx _ => by simp [hx]) (fun x hx hlt => by simp [hx, hlt]), fun x hx => ?_⟩
  rcases List.mem_append.1 hx with hx | hx
  · exact m1 x hx
  · simp only [List.mem_filter, decide_eq_true_eq] at hx
    refine ⟨(m2 x hx.1).1, ?_⟩
    by_cases h : x ∈ S1
    · exact (m1 x h).2
    · rw [← k1.block x hx.2 h]; exact (m2 x hx.1).2
structure Ws (W w : World) (n b tn tb : Nat) (hs : List (BA × Hd)) (r : List En) (K : Nat) : Prop where
  box : Blk w n #[.map (some b), ptrTo tn] 69
  map : MapAt w b Value.string heldV hs
  tim : Mt W w tn tb r K
  bn : W.heap.size ≤ n
  bb : W.heap.size ≤ b
  ne : b ≠ tb
  own : ∀ p ∈ hs, Own kPr PrT W.heap.size w p.2.pv p.2.m.f4
  dl : ∀ p ∈ hs, 0 ≤ p.2.d ∧ p.2.d ≤ 4294967295
  inn : ∀ p ∈ r, (AL.get hs p.1).isSome = true
  len : hs.length ≤ K
  plen : ∀ p ∈ hs, p.2.m.f4.length ≤ 100
theorem Ws.keep {W w w' : World} {n b tn tb : Nat} {hs : List (BA × Hd)} {r : List En} {K : Nat} (h : Ws W w n b tn tb hs r K) (hk : Keep [] w w') : Ws W w' n b tn tb hs r K :=
  ⟨h.box.keep hk (by simp), h.map.keep hk (by simp), h.tim.keep hk, h.bn, h.bb, h.ne, fun p hp => (h.own p hp).keep hk (by simp), h.dl, h.inn, h.len, h.plen⟩
theorem Ws.mono {W w : World} {n b tn tb : Nat} {hs : List (BA × Hd)} {r : List En} {K K' : Nat} (h : Ws W w n b tn tb hs r K) (hk : K ≤ K') : Ws W w n b tn tb hs r K' :=
  ⟨h.box, h.map, h.tim.mono hk, h.bn, h.bb, h.ne, h.own, h.dl, h.inn, Nat.le_trans h.len hk, h.plen⟩
theorem Ws.km {W w w' : World} {n b tn tb : Nat} {hs : List (BA × Hd)} {r : List En} {K : Nat} (h : Ws W w n b tn tb hs r K) {S : List Nat} (hk : Keep S w w') (hS : ∀ x ∈ S, x = b ∨ x = tb) : KM W w w' := by
  refine ⟨S, hk, fun x hx => ?_⟩
  rcases hS x hx with rfl | rfl
  · obtain ⟨es, cl, hb, _⟩ := h.map
    exact ⟨h.bb, es, cl, hb⟩
  · obtain ⟨l, h1, h2, h3, _⟩ := h.tim.ex
    obtain ⟨es, cl, hb, _⟩ := h1.2
    exact ⟨h3, es, cl, hb⟩
theorem Ws.ntn {W w : World} {n b tn tb : Nat} {hs : List (BA × Hd)} {r : List En} {K : Nat} (h : Ws W w n b tn tb hs r K) : b ≠ tn := by
  obtain ⟨l, h1, h2, h3, _⟩ := h.tim.ex
  exact (h.map.ne_blk h1.1).symm
theorem Ws.offb {W w w' : World} {n b tn tb : Nat} {hs hs' : List (BA × Hd)} {r : List En} {K K' : Nat} (h : Ws W w n b tn tb hs r K) (hk : Keep [b] w w') (hm : MapAt w' b Value.string heldV hs') (hK : K ≤ K')
    (own : ∀ p ∈ hs', Own kPr PrT W.heap.size w p.2.pv p.2.m.f4) (dl : ∀ p ∈ hs', 0 ≤ p.2.d ∧ p.2.d ≤ 4294967295) (inn : ∀ p ∈ r, (AL.get hs' p.1).isSome = true) (len : hs'.length ≤ K') (pl : ∀ p ∈ hs', p.2.m.f4.length ≤ 100) : Ws W w' n b tn tb hs' r K' :=
  ⟨h.box.keep hk (by simpa using h.map.ne_blk h.box), hm, (h.tim.off hk (by intro q hq _; simp at hq; subst hq; exact ⟨h.ntn, h.ne⟩)).mono hK, h.bn, h.bb, h.ne, fun p hp => (own p hp).keep hk (by simp; exact not_of_map h.map _), dl, inn, len, pl⟩
theorem Ws.offt {W w w' : World} {n b tn tb : Nat} {hs : List (BA × Hd)} {r r' : List En} {K K' : Nat} (h : Ws W w n b tn tb hs r K) (hk : Keep [tb] w w') (hm : Mt W w' tn tb r' K') (hK : K ≤ K') (inn : ∀ p ∈ r', (AL.get hs p.1).isSome = true) : Ws W w' n b tn tb hs r' K' := by
  obtain ⟨l, h1, h2, h3, _⟩ := h.tim.ex
  exact ⟨h.box.keep hk (by simpa using h1.2.ne_blk h.box), h.map.keep hk (by simpa using h.ne), hm, h.bn, h.bb, h.ne, fun p hp => (h.own p hp).keep hk (by simp; exact not_of_map h1.2 _), h.dl, inn, Nat.le_trans h.len hK, h.plen⟩
theorem wNew {W w : World} (hW : W.heap.size ≤ w.heap.size) : Calls Try.prog 7 #[] w (Px fun (x : Nat × Nat × Nat × Nat) e w' => e = .returned (ptrTo x.1) ∧ Ws W w' x.1 x.2.1 x.2.2.1 x.2.2.2 [] [] 0 ∧ Keep [] w w') := by
  have hmm := @run_makeMap Try.prog
  go_enter Try.func7, Try.ntmps7
  go_wp2_with fail
  have hz : (w.alloc (Obj.map #[] 0)).heap.size = w.heap.size + 1 := by simp
  refine (tNew (W := W) (w := w.alloc (Obj.map #[] 0)) (by rw [hz]; omega)).mono ?_
  rintro e w1 ⟨rfl, hT, hK⟩
  rw [hz] at hT
  go_wp2_with fail
  go_ret
  have hz1 := hK.size
  rw [hz] at hz1
  have hM := (MapAt.new w Value.string heldV).keep hK (by simp)
  have hk1 := (Keep.refl [] w1).alloc (.cells #[.map (some w.heap.size), ptrTo (w.heap.size + 1 + 1)] 69)
  exact ⟨(w1.heap.size, w.heap.size, w.heap.size + 1 + 1, w.heap.size + 1), rfl, ⟨Blk.new _ _ _, hM.keep hk1 (by simp), hT.keep hk1, by simp only; omega, by simp only; omega, by simp only; omega, by simp, by simp, by simp, by simp, by simp⟩, (((Keep.refl [] w).alloc _).then hK).then hk1⟩
theorem wLen {W w : World} {n b tn tb : Nat} {hs : List (BA × Hd)} {r : List En} {K : Nat} (h : Ws W w n b tn tb hs r K) :
    Calls Try.prog 11 #[ptrTo n] w fun e w' => e = .returned (.int .i64 hs.length) ∧ w = w' := by
  have c0 : w.cell? ⟨n, 0, none⟩ = some (.map (some b)) := h.box.cell 0
  have hlen := fun ty => run_len_map (w := w) Try.underlying65 h.map ty
  generalize (hs.length : Int) = q at hlen ⊢
  go_enter Try.func11, Try.ntmps11
  go_wp2
  go_ret
  exact ⟨rfl, rfl⟩
theorem lookH {W w : World} {n b tn tb : Nat} {hs : List (BA × Hd)} {r : List En} {K : Nat} (h : Ws W w n b tn tb hs r K) (k : BA) (ok : Bool) :
    (Instr.lookup 65 (.map (some b)) (.string k) ok).run Try.prog w = .ok (if ok then .tuple #[heldV ((AL.get hs k).getD Hd.zero), .bool (AL.get hs k).isSome] else heldV ((AL.get hs k).getD Hd.zero)) w := by
  have := run_lookup_map lawStr Try.underlying65 h.map (zeroHeld _) k ok
  rw [this]
  cases AL.get hs k <;> rfl
theorem get_mem2 {ν : Type} {hs : List (BA × ν)} {k : BA} {x : ν} (h : AL.get hs k = some x) : (k, x) ∈ hs := by
  induction hs with
  | nil => simp [AL.get] at h
  | cons a t ih =>
    obtain ⟨a, y⟩ := a
    simp only [AL.get] at h
    split at h
    · rename_i e; cases h; subst e; simp
    · exact List.mem_cons_of_mem _ (ih h)
theorem Ws.pvf {W w : World} {n b tn tb : Nat} {hs : List (BA × Hd)} {r : List En} {K : Nat} (h : Ws W w n b tn tb hs r K) (k : BA) : ∃ A c, ((AL.get hs k).getD Hd.zero).pv = .slice A ((AL.get hs k).getD Hd.zero).m.f4.length c := by
  cases hg : AL.get hs k with
  | none => exact ⟨none, 0, rfl⟩
  | some x => exact (h.own _ (get_mem2 hg)).slice
def hasW (hs : List (BA × Hd)) (r : List En) (c : BA) : Int × Bool := if (AL.get hs c).isSome then (if (findE r c).2 then ((findE r c).1, true) else (-1, true)) else (0, false)
theorem wHas {W w : World} {n b tn tb : Nat} {hs : List (BA × Hd)} {r : List En} {K : Nat} (h : Ws W w n b tn tb hs r K) (c : BA) :
    Calls Try.prog 21 #[ptrTo n, .string c] w fun e w' => e = .returned (.tuple #[.int .i64 (hasW hs r c).1, .bool (hasW hs r c).2]) ∧ Keep [] w w' := by
  have c0 : w.cell? ⟨n, 0, none⟩ = some (.map (some b)) := h.box.cell 0
  have c1 : w.cell? ⟨n, 1, none⟩ = some (ptrTo tn) := h.box.cell 1
  have d0 : ∀ o, (w.alloc o).cell? ⟨n, 0, none⟩ = some (.map (some b)) := fun o => (h.box.alloc o).cell 0
  have d1 : ∀ o, (w.alloc o).cell? ⟨n, 1, none⟩ = some (ptrTo tn) := fun o => (h.box.alloc o).cell 1
  have look := lookH h c true
  have HG := hide (fun w' (hk : Keep [] w w') => tGet (h.tim.keep hk) c)
  unfold hasW
  generalize findE r c = q at *
  obtain ⟨q1, q2⟩ := q
  obtain ⟨xA, xc, hpv⟩ := h.pvf c
  obtain ⟨x, hx⟩ : ∃ x, (AL.get hs c).getD Hd.zero = x := ⟨_, rfl⟩
  rw [hx] at look hpv
  obtain ⟨⟨x0, x1, x2, x3, x4, x5, x6⟩, xp, xd⟩ := x
  simp only at hpv
  subst hpv
  simp only [heldV, if_true] at look
  obtain ⟨xl, hxl⟩ : ∃ xl, x4.length = xl := ⟨_, rfl⟩
  rw [hxl] at look
  clear hx h hxl
  generalize (AL.get hs c).isSome = q3 at look ⊢
  cases q3
  · go_enter Try.func21, Try.ntmps21
    go_wp2_with fail
    go_ret2
    exact ⟨rfl, (Keep.refl _ _).alloc _⟩
  · cases q2
    all_goals
      go_enter Try.func21, Try.ntmps21
      go_wp2_with fail
      refine (HG.out _ ((Keep.refl _ _).alloc _)).mono ?_
      rintro e w1 ⟨rfl, rfl⟩
      go_wp2_with fail
      go_ret2
      exact ⟨rfl, (Keep.refl _ _).alloc _⟩
theorem isSome_get {hs : List (BA × Hd)} {r : List En} {c : BA} (hn : (hs.map (·.1)).Nodup) (hi : ∀ p ∈ r, (AL.get hs p.1).isSome = true) : ∀ p ∈ rmE r c, (AL.get (AL.del hs c) p.1).isSome = true := by
  intro p hp
  obtain ⟨h1, h2⟩ := List.mem_filter.1 hp
  rw [AL.get_del hn, if_neg (by simpa using h2)]
  exact hi p h1
theorem mem_del {ν : Type} {hs : List (BA × ν)} {c : BA} {p : BA × ν} (h : p ∈ AL.del hs c) : p ∈ hs := by
  induction hs with
  | nil => simp [AL.del] at h
  | cons a t ih =>
    obtain ⟨k, x⟩ := a
    simp only [AL.del] at h
    split at h
    · exact List.mem_cons_of_mem _ h
    · rcases List.mem_cons.1 h with h | h
      · subst h; simp
      · exact List.mem_cons_of_mem _ (ih h)
theorem mem_set {ν : Type} {hs : List (BA × ν)} {c : BA} {y : ν} {p : BA × ν} (h : p ∈ AL.set hs c y) : p.2 = y ∨ p ∈ hs := by
  induction hs with
  | nil => simp [AL.set] at h; subst h; simp
  | cons a t ih =>
    obtain ⟨k, x⟩ := a
    simp only [AL.set] at h
    split at h
    · rcases List.mem_cons.1 h with h | h
      · subst h; simp
      · exact .inr (List.mem_cons_of_mem _ h)
    · rcases List.mem_cons.1 h with h | h
      · subst h; simp
      · rcases ih h with h | h
        · exact .inl h
        · exact .inr (List.mem_cons_of_mem _ h)
theorem wDropK {W w : World} {n b tn tb : Nat} {hs : List (BA × Hd)} {r : List En} {K : Nat} (h : Ws W w n b tn tb hs r K) (c : BA) :
    Calls Try.prog 16 #[ptrTo n, .string c] w fun e w' => e = .returned (.bool (AL.get hs c).isSome) ∧ Ws W w' n b tn tb (AL.del hs c) (rmE r c) K ∧ Keep [b, tb] w w' := by
  have c0 : w.cell? ⟨n, 0, none⟩ = some (.map (some b)) := h.box.cell 0
  have c1 : w.cell? ⟨n, 1, none⟩ = some (ptrTo tn) := h.box.cell 1
  have d0 : ∀ o, (w.alloc o).cell? ⟨n, 0, none⟩ = some (.map (some b)) := fun o => (h.box.alloc o).cell 0
  have d1 : ∀ o, (w.alloc o).cell? ⟨n, 1, none⟩ = some (ptrTo tn) := fun o => (h.box.alloc o).cell 1
  have hne := h.map.ne_blk h.box
  have look := lookH h c true
  have hH := hide h
  obtain ⟨xA, xc, hpv⟩ := h.pvf c
  obtain ⟨x, hx⟩ : ∃ x, (AL.get hs c).getD Hd.zero = x := ⟨_, rfl⟩
  rw [hx] at look hpv
  obtain ⟨⟨x0, x1, x2, x3, x4, x5, x6⟩, xp, xd⟩ := x
  simp only at hpv
  subst hpv
  simp only [heldV, if_true] at look
  obtain ⟨xl, hxl⟩ : ∃ xl, x4.length = xl := ⟨_, rfl⟩
  rw [hxl] at look
  have hka := (Keep.refl [] w).alloc (.cells #[.string x0, .int .i64 x1, .int .u8 x2, .bool x3, .slice xA xl xc, .string x5, .string x6, .int .u32 xd] 73)
  have hA := h.keep hka
  generalize (AL.get hs c).isSome = q at look ⊢
  clear hx h hxl
  go_enter Try.func16, Try.ntmps16
  go_wp2_with (refine wpList_delete_map rfl _ _ 65 9 rfl 73 lawStr Try.underlying65 b hs rfl hA.map c rfl ?_; intro w1 hM1 hK1 hz1; have e1 : w1.cell? ⟨n, 1, none⟩ = some (ptrTo tn) := (hA.box.keep hK1 (by simpa using hne)).cell 1)
  refine (tStop (hA.tim.off hK1 (by intro q hq _; simp at hq; subst hq; exact ⟨hA.ntn, hA.ne⟩)) c).mono ?_
  rintro e w2 ⟨rfl, hT, hK2⟩
  go_wp2_with fail
  go_ret
  have hnd := hA.map.nodup
  have hkk : Keep [b, tb] w w2 := (hka.trans hK1 (S := [b, tb]) (by simp) (by simp)).trans hK2 (fun _ h _ => h) (by simp)
  refine ⟨rfl, ?_, hkk⟩
  have hk2 : ∀ {q : Nat}, q ≠ tb → q ∉ [tb] := fun h => by simpa using h
  obtain ⟨l, e1, e2, e3, _⟩ := hA.tim.ex
  have hbx : n ≠ tb := e1.2.ne_blk hA.box
  refine ⟨(hA.box.keep hK1 (by simpa using hne)).keep hK2 (hk2 hbx), hM1.keep hK2 (hk2 hA.ne), hT, hA.bn, hA.bb, hA.ne, fun p hp => ?_, fun p hp => hA.dl p (mem_del hp), isSome_get hnd hA.inn, ?_, fun p hp => hA.plen p (mem_del hp)⟩
  · refine ((hA.own p (mem_del hp)).keep hK1 (by simp; exact not_of_map hA.map _)).keep hK2 (by simp; exact not_of_map (e1.2.keep hK1 (by simpa using hA.ne.symm)) _)
  · have := AL.length_del hs c
    have := hA.len
    split at * <;> omega
theorem wDrop {W w : World} {n b tn tb : Nat} {hs : List (BA × Hd)} {r : List En} {K : Nat} (h : Ws W w n b tn tb hs r K) (c : BA) :
    Calls Try.prog 16 #[ptrTo n, .string c] w fun e w' => e = .returned (.bool (AL.get hs c).isSome) ∧ Ws W w' n b tn tb (AL.del hs c) (rmE r c) K ∧ KM W w w' :=
  (wDropK h c).mono fun e w' ⟨h1, h2, h3⟩ => ⟨h1, h2, h.km h3 (by simp)⟩
end Go.Proofs.Ytegnmdnflmlioaa
