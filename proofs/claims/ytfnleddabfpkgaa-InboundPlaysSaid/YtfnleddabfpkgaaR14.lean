/- The document's answer for layer 14 as plain lists: what the printed functions give, and how it goes with the pairs that package inbound holds. -/
import Derived.Test.YtfnleddabfpkgaaPInboundPlaysx7
import Derived.Test.YtfnleddabfpkgaaL14r
namespace Go.Proofs.Ytfnleddabfpkgaa
open Go.RowKit Go.Proofs.Ytfnleddabfpkgaa.PInboundPlays
set_option maxRecDepth 10000
set_option linter.unusedVariables false

namespace R14
abbrev One := S64

def lk : List One → Int → Option Int
  | [], _ => none
  | x :: t, id => if x.f0 = id then some x.f1 else lk t id

def fnd : List One → Nat → Int → Int
  | [], _, _ => -1
  | x :: t, i, id => if x.f0 = id then i else fnd t (i + 1) id

def upd : List One → Int → List One
  | [], _ => []
  | x :: t, id => if x.f0 = id then ⟨x.f0, x.f1 + 1⟩ :: t else x :: upd t id

def ins : List One → Int → List One
  | [], id => [⟨id, 1⟩]
  | x :: t, id => if id < x.f0 then ⟨id, 1⟩ :: x :: t else x :: ins t id

def del : List One → Int → List One
  | [], _ => []
  | x :: t, id => if x.f0 = id then t else x :: del t id

def RB (l : List One) (id most : Int) : List One × Bool × Int :=
  if id < 1 ∨ 65535 < id then (l, false, 3)
  else if (lk l id).isSome then (upd l id, false, 0)
  else if most ≤ l.length then (l, false, 12)
  else (ins l id, true, 0)

def RE (l : List One) (id : Int) : List One × Bool := (del l id, (lk l id).isSome)

theorem rd_at (l : List One) (i : Nat) (h : i < l.length) : rd_T64 l (i : Int) = l[i] := by
  unfold rd_T64
  simp [List.getD, h]

theorem fnd_none (l : List One) (i : Nat) (id : Int) (h : lk l id = none) : fnd l i id = -1 := by
  induction l generalizing i with
  | nil => rfl
  | cons x t ih =>
    simp only [lk] at h
    split at h
    · cases h
    · rename_i hx; simp only [fnd, if_neg hx]; exact ih _ h

theorem fnd_some (l : List One) (i : Nat) (id v : Int) (h : lk l id = some v) : ∃ j, fnd l i id = ((i + j : Nat) : Int) ∧ j < l.length ∧ l[j]? = some ⟨id, v⟩ ∧ l.set j ⟨id, v + 1⟩ = upd l id ∧ l.take j ++ l.drop (j + 1) = del l id := by
  induction l generalizing i with
  | nil => simp [lk] at h
  | cons x t ih =>
    simp only [lk] at h
    split at h
    · rename_i hx
      simp at h
      obtain ⟨a, b⟩ := x
      simp only at hx h
      subst hx; subst h
      exact ⟨0, by simp [fnd], by simp, by simp, by simp [upd], by simp [del]⟩
    · rename_i hx
      obtain ⟨j, h1, h2, h3, h4, h5⟩ := ih (i + 1) h
      refine ⟨j + 1, ?_, by simpa using h2, by simpa using h3, by simp [upd, hx, h4], by simp [del, hx, h5]⟩
      simp only [fnd, if_neg hx]
      rw [h1]; congr 1; omega

theorem find_l0 (l : List One) (id : Int) (hl : l.length < 1000000) : ∀ (d k i : Nat), l.length - i = d → i ≤ l.length → d < k → switchboardref14_find.l0 k id l (l.length : Int) (i : Int) = some (fnd (l.drop i) i id) := by
  intro d
  induction d with
  | zero =>
    intro k i h1 h2 h3
    obtain ⟨k, rfl⟩ : ∃ m, k = m + 1 := ⟨k - 1, by omega⟩
    simp only [switchboardref14_find.l0]
    rw [if_neg (by omega), List.drop_of_length_le (by omega)]
    rfl
  | succ d ih =>
    intro k i h1 h2 h3
    obtain ⟨k, rfl⟩ : ∃ m, k = m + 1 := ⟨k - 1, by omega⟩
    have hi : i < l.length := by omega
    simp only [switchboardref14_find.l0]
    rw [if_pos (by omega), if_pos (by omega), if_pos (by omega), rd_at l i hi, List.drop_eq_getElem_cons hi]
    simp only [fnd]
    split
    · rfl
    · have e : wrap64 ((i : Int) + 1) = ((i + 1 : Nat) : Int) := by unfold wrap64; omega
      rw [e]; exact ih k (i + 1) (by omega) (by omega) (by omega)

theorem find_f (l : List One) (id : Int) (hl : l.length < 1000000) (k : Nat) (hk : l.length < k) : switchboardref14_find.f k l id = some (fnd l 0 id) := by
  have := find_l0 l id hl l.length k 0 (by omega) (by omega) hk
  unfold switchboardref14_find.f
  simpa using this

def insR (l : List One) (done : Bool) (id : Int) : List One := if done then l else ins l id

theorem begin_l0 (l : List One) (id : Int) (hl : l.length < 1000000) : ∀ (d k i : Nat) (out : List One) (done : Bool), l.length - i = d → i ≤ l.length → d < k → out.length ≤ i + done.toNat →
    switchboardref14_Begin.l0 k id out done l (l.length : Int) (i : Int) = some (out ++ insR (l.drop i) done id, true, 0) := by
  intro d
  induction d with
  | zero =>
    intro k i out done h1 h2 h3 h4
    obtain ⟨k, rfl⟩ : ∃ m, k = m + 1 := ⟨k - 1, by omega⟩
    simp only [switchboardref14_Begin.l0]
    rw [if_neg (by omega), List.drop_of_length_le (by omega)]
    cases done
    · simp at h4
      rw [if_neg (by simp), if_pos (by omega)]; rfl
    · rw [if_pos rfl]; simp [insR]
  | succ d ih =>
    intro k i out done h1 h2 h3 h4
    obtain ⟨k, rfl⟩ : ∃ m, k = m + 1 := ⟨k - 1, by omega⟩
    have hi : i < l.length := by omega
    have e : wrap64 ((i : Int) + 1) = ((i + 1 : Nat) : Int) := by unfold wrap64; omega
    simp only [switchboardref14_Begin.l0]
    rw [if_pos (by omega), if_pos (by omega), if_pos (by omega), rd_at l i hi, e, List.drop_eq_getElem_cons hi]
    cases done
    · simp at h4
      rw [if_neg (by simp)]
      by_cases hx : l[i].f0 > id
      · rw [if_pos hx, if_pos (by omega)]
        simp only [Option.bind_some]
        rw [if_pos (by simp; omega), ih k (i + 1) _ true (by omega) (by omega) (by omega) (by simp at h4 ⊢; omega)]
        simp [insR, ins, hx]
        exact (List.drop_eq_getElem_cons hi).symm
      · rw [if_neg hx, if_pos (by omega), ih k (i + 1) _ false (by omega) (by omega) (by omega) (by simp; omega)]
        simp [insR, ins, show ¬ id < l[i].f0 from hx]
    · simp at h4
      rw [if_pos rfl, if_pos (by omega), ih k (i + 1) _ true (by omega) (by omega) (by omega) (by simp; omega)]
      simp [insR]
      exact (List.drop_eq_getElem_cons hi).symm

theorem begin_f (l : List One) (id most : Int) (hl : l.length < 1000000) (ht : ∀ x v, lk l x = some v → 0 ≤ v ∧ v < 1000000) (k : Nat) (hk : l.length + 1 < k) : switchboardref14_Begin.f k l id most = some (RB l id most) := by
  obtain ⟨k, rfl⟩ : ∃ m, k = m + 1 := ⟨k - 1, by omega⟩
  have bad : switchboardref14_Begin.j0 (k + 1) l id most true = some (l, false, 3) := by simp only [switchboardref14_Begin.j0]; simp
  unfold switchboardref14_Begin.f RB
  by_cases h1 : id < 1
  · rw [if_pos h1, if_pos (.inl h1)]; exact bad
  · rw [if_neg h1]
    by_cases h2 : 65535 < id
    · rw [if_pos (.inr h2), show decide (id > 65535) = true from decide_eq_true h2]; exact bad
    · rw [if_neg (by omega), show decide (id > 65535) = false from decide_eq_false h2]
      simp only [switchboardref14_Begin.j0]
      rw [if_neg (by simp), find_f l id hl k (by omega)]
      simp only [Option.bind_some]
      cases hk : lk l id with
      | none =>
        rw [fnd_none l 0 id hk, if_neg (by omega)]
        simp only [Option.isSome_none, Bool.false_eq_true, if_false]
        by_cases h3 : most ≤ l.length
        · rw [if_pos (by omega), if_pos h3]
        · rw [if_neg (by omega), if_neg h3]
          have := begin_l0 l id hl l.length k 0 [] false (by omega) (by omega) (by omega) (by simp)
          simpa [insR] using this
      | some v =>
        obtain ⟨j, e1, e2, e3, e4, _⟩ := fnd_some l 0 id v hk
        have hv := ht id v hk
        have ej : l[j] = ⟨id, v⟩ := by rw [List.getElem?_eq_getElem e2] at e3; simpa using e3
        rw [e1, if_pos (by omega)]
        simp only [Nat.zero_add, List.nil_append, List.length_nil, Option.isSome_some, if_true]
        rw [if_pos (by omega), if_pos (by omega), if_pos (by omega), rd_at l j e2, ej, show (j : Int).toNat = j by omega, show wrap64 (v + 1) = v + 1 by unfold wrap64; omega]
        simp only [e4]

theorem del_none (l : List One) (id : Int) (h : lk l id = none) : del l id = l := by
  induction l with
  | nil => rfl
  | cons x t ih =>
    simp only [lk] at h
    split at h
    · cases h
    · rename_i hx; simp only [del, if_neg hx, ih h]

theorem end_f (l : List One) (id : Int) (hl : l.length < 1000000) (k : Nat) (hk : l.length < k) : switchboardref14_End.f k l id = some (RE l id) := by
  unfold switchboardref14_End.f RE
  rw [find_f l id hl k hk]
  simp only [Option.bind_some]
  cases hk : lk l id with
  | none =>
    rw [fnd_none l 0 id hk, if_pos (by omega)]
    rw [del_none l id hk]; rfl
  | some v =>
    obtain ⟨j, e1, e2, e3, _, e5⟩ := fnd_some l 0 id v hk
    have e : wrap64 ((j : Int) + 1) = ((j + 1 : Nat) : Int) := by unfold wrap64; omega
    rw [e1]
    simp only [Nat.zero_add, List.nil_append, List.length_nil, e]
    rw [if_neg (by omega), if_pos (by omega), if_pos (by omega), if_pos (by simp; omega), if_pos (by omega), if_pos (by omega), if_pos (by simp; omega)]
    rw [show (j : Int).toNat = j by omega, show ((j + 1 : Nat) : Int).toNat = j + 1 by omega, e5]
    rfl

/-- The list rises, and holds what the pairs hold. -/
structure Same (has : List (Int × Int)) (l : List One) : Prop where
  rise : l.Pairwise (fun x y => x.f0 < y.f0)
  look : ∀ x, AL.get has x = lk l x
  len : has.length = l.length

theorem lk_mem {l : List One} {x : Int} : (lk l x).isSome = true ↔ x ∈ l.map (·.f0) := by
  induction l with
  | nil => simp [lk]
  | cons y t ih =>
    simp only [lk]
    by_cases h : y.f0 = x
    · simp [h]
    · rw [if_neg h, ih, List.map_cons, List.mem_cons]
      exact ⟨.inr, fun e => e.elim (fun e => absurd e.symm h) id⟩

theorem lk_upd (l : List One) (id x : Int) : lk (upd l id) x = if x = id then (lk l id).map (· + 1) else lk l x := by
  induction l with
  | nil => simp [upd, lk]
  | cons y t ih =>
    simp only [upd]
    by_cases h : y.f0 = id
    · rw [if_pos h]
      simp only [lk]
      by_cases hx : x = id
      · subst hx; simp [h]
      · rw [if_neg hx, if_neg (by omega), if_neg (by omega)]
    · rw [if_neg h]
      simp only [lk, ih]
      by_cases hx : x = id
      · subst hx; simp [h]
      · rw [if_neg hx]; simp [hx]

theorem lk_ins (l : List One) (id x : Int) (h : lk l id = none) : lk (ins l id) x = if x = id then some 1 else lk l x := by
  induction l with
  | nil => simp only [ins, lk]; by_cases hx : id = x <;> simp [hx] <;> (intro e; exact absurd e.symm hx)
  | cons y t ih =>
    simp only [lk] at h
    split at h
    · cases h
    · rename_i hy
      simp only [ins]
      by_cases hlt : id < y.f0
      · rw [if_pos hlt]
        simp only [lk]
        by_cases hx : x = id
        · subst hx; simp
        · rw [if_neg (by omega), if_neg hx]
      · rw [if_neg hlt]
        simp only [lk, ih h]
        by_cases hx : x = id
        · subst hx; simp [hy]
        · simp [hx]

theorem lk_del {l : List One} (hr : l.Pairwise (fun x y => x.f0 < y.f0)) (id x : Int) : lk (del l id) x = if x = id then none else lk l x := by
  induction l with
  | nil => simp [del, lk]
  | cons y t ih =>
    have h1 := (List.pairwise_cons.1 hr).1
    have h2 := (List.pairwise_cons.1 hr).2
    simp only [del]
    by_cases h : y.f0 = id
    · rw [if_pos h]
      by_cases hx : x = id
      · rw [if_pos hx]
        cases e : lk t x with
        | none => rfl
        | some v =>
          have := lk_mem.1 (show (lk t x).isSome = true by rw [e]; rfl)
          obtain ⟨z, hz, hzx⟩ := List.mem_map.1 this
          have := h1 z hz
          omega
      · rw [if_neg hx]; simp only [lk]; rw [if_neg (by omega)]
    · rw [if_neg h]
      simp only [lk, ih h2]
      by_cases hx : x = id
      · subst hx; simp [h]
      · simp [hx]

theorem upd_f0 (l : List One) (id : Int) : (upd l id).map (·.f0) = l.map (·.f0) := by
  induction l with
  | nil => rfl
  | cons y t ih => simp only [upd]; split <;> simp [ih]

theorem rise_iff {l : List One} : l.Pairwise (fun x y => x.f0 < y.f0) ↔ (l.map (·.f0)).Pairwise (· < ·) := by rw [List.pairwise_map]

theorem del_sub (l : List One) (id : Int) : (del l id).Sublist l := by
  induction l with
  | nil => exact List.Sublist.refl _
  | cons y t ih =>
    simp only [del]
    split
    · exact List.sublist_cons_self _ _
    · exact ih.cons_cons _

theorem ins_mem (l : List One) (id : Int) : ∀ z ∈ ins l id, z.f0 = id ∨ z ∈ l := by
  induction l with
  | nil => simp [ins]
  | cons y t ih =>
    simp only [ins]
    split
    · intro z hz; simp at hz; rcases hz with rfl | rfl | hz
      · exact .inl rfl
      · exact .inr (by simp)
      · exact .inr (by simp [hz])
    · intro z hz; simp at hz; rcases hz with rfl | hz
      · exact .inr (by simp)
      · rcases ih z hz with h | h
        · exact .inl h
        · exact .inr (by simp [h])

theorem ins_rise {l : List One} (hr : l.Pairwise (fun x y => x.f0 < y.f0)) (id : Int) (h : lk l id = none) : (ins l id).Pairwise (fun x y => x.f0 < y.f0) := by
  induction l with
  | nil => simp [ins]
  | cons y t ih =>
    have h1 := (List.pairwise_cons.1 hr).1
    have h2 := (List.pairwise_cons.1 hr).2
    simp only [lk] at h
    split at h
    · cases h
    · rename_i hy
      simp only [ins]
      by_cases hlt : id < y.f0
      · rw [if_pos hlt]
        refine List.pairwise_cons.2 ⟨fun z hz => ?_, hr⟩
        simp at hz
        rcases hz with rfl | hz
        · exact hlt
        · have := h1 z hz; simp only; omega
      · rw [if_neg hlt]
        refine List.pairwise_cons.2 ⟨fun z hz => ?_, ih h2 h⟩
        rcases ins_mem t id z hz with e | e
        · rw [e]; omega
        · exact h1 z e

theorem ins_len (l : List One) (id : Int) : (ins l id).length = l.length + 1 := by
  induction l with
  | nil => rfl
  | cons y t ih => simp only [ins]; split <;> simp [ih]

theorem upd_len (l : List One) (id : Int) : (upd l id).length = l.length := by
  have := congrArg List.length (upd_f0 l id); simpa using this

theorem del_len (l : List One) (id : Int) (h : (lk l id).isSome = true) : (del l id).length + 1 = l.length := by
  induction l with
  | nil => simp [lk] at h
  | cons y t ih =>
    simp only [lk] at h
    simp only [del]
    by_cases hy : y.f0 = id
    · rw [if_pos hy]; rfl
    · rw [if_neg hy] at h ⊢; simp [ih h]

theorem Same.begin {has : List (Int × Int)} {l : List One} {n : Int} (h : Same has l) (hG : Inb.Good has n) (id most : Int) (hn : 0 ≤ most) :
    (RB l id most).2.1 = (Inb.begin has most id).1 ∧ (RB l id most).2.2 = (Inb.begin has most id).2.1 ∧ Same (Inb.begin has most id).2.2 (RB l id most).1 := by
  unfold RB Inb.begin
  by_cases h1 : id < 1 ∨ 65535 < id
  · rw [if_pos h1, if_pos h1]; exact ⟨rfl, rfl, h⟩
  · rw [if_neg h1, if_neg h1]
    have e := hG.some id
    rw [h.look] at e
    by_cases h2 : (lk l id).isSome = true
    · rw [if_pos h2, if_pos (by rw [h.look]; exact e.2 h2)]
      refine ⟨rfl, rfl, rise_iff.2 (by rw [upd_f0]; exact rise_iff.1 h.rise), fun x => ?_, ?_⟩
      · rw [AL.get_set, lk_upd, h.look, h.look]
        by_cases hx : x = id
        · rw [if_pos hx, if_pos hx]
          cases hk : lk l id with
          | none => rw [hk] at h2; cases h2
          | some v => rfl
        · rw [if_neg hx, if_neg hx]
      · simp only [upd_len]
        rw [AL.length_set, h.look, h2, if_pos rfl, h.len]
    · have h2' : lk l id = none := by simpa using h2
      rw [if_neg h2, if_neg (c := 0 < (AL.get has id).getD 0) (by rw [h.look]; exact fun hh => h2 (e.1 hh))]
      by_cases h3 : most ≤ (l.length : Int)
      · rw [if_pos h3, if_pos (by rw [h.len]; exact h3)]; exact ⟨rfl, rfl, h⟩
      · rw [if_neg h3, if_neg (by rw [h.len]; exact h3)]
        refine ⟨rfl, rfl, ins_rise h.rise id h2', fun x => ?_, ?_⟩
        · rw [AL.get_set, lk_ins l id x h2', h.look]
        · simp only [ins_len]
          rw [AL.length_set, h.look, h2', if_neg (by simp), h.len]

theorem Same.end_ {has : List (Int × Int)} {l : List One} (h : Same has l) (hnd : (AL.keys has).Nodup) (id : Int) : (RE l id).2 = (AL.get has id).isSome ∧ Same (AL.del has id) (RE l id).1 := by
  refine ⟨by rw [h.look]; rfl, h.rise.sublist (del_sub l id), fun x => ?_, ?_⟩
  · show _ = lk (del l id) x
    rw [AL.get_del hnd, lk_del h.rise, h.look]
  · show _ = (del l id).length
    rw [AL.length_del, h.look, h.len]
    cases hk : lk l id with
    | none => rw [del_none l id hk]; simp
    | some v => have := del_len l id (by rw [hk]; rfl); simp; omega

theorem sorted_ext : ∀ {L M : List Int}, L.Pairwise (· < ·) → M.Pairwise (· < ·) → (∀ x, x ∈ L ↔ x ∈ M) → L = M
  | [], [], _, _, _ => rfl
  | [], b :: M, _, _, h => by have := (h b).2 (by simp); simp at this
  | a :: L, [], _, _, h => by have := (h a).1 (by simp); simp at this
  | a :: L, b :: M, h1, h2, h => by
    have a1 := (List.pairwise_cons.1 h1).1
    have b1 := (List.pairwise_cons.1 h2).1
    have e : a = b := by
      have g1 := (h a).1 (by simp)
      have g2 := (h b).2 (by simp)
      simp only [List.mem_cons] at g1 g2
      rcases g1 with g1 | g1
      · exact g1
      · rcases g2 with g2 | g2
        · exact g2.symm
        · have := a1 b g2; have := b1 a g1; omega
    subst e
    have ih := sorted_ext (List.pairwise_cons.1 h1).2 (List.pairwise_cons.1 h2).2 (fun x => by
      constructor
      · intro hx
        have := (h x).1 (by simp [hx])
        simp only [List.mem_cons] at this
        rcases this with rfl | this
        · exact absurd (a1 x hx) (by omega)
        · exact this
      · intro hx
        have := (h x).2 (by simp [hx])
        simp only [List.mem_cons] at this
        rcases this with rfl | this
        · exact absurd (b1 x hx) (by omega)
        · exact this)
    rw [ih]

theorem lk_at {l : List One} (hr : l.Pairwise (fun x y => x.f0 < y.f0)) {k : Nat} (hk : k < l.length) : lk l l[k].f0 = some l[k].f1 := by
  induction l generalizing k with
  | nil => simp at hk
  | cons y t ih =>
    have h1 := (List.pairwise_cons.1 hr).1
    cases k with
    | zero => simp [lk]
    | succ k =>
      simp at hk
      have := h1 t[k] (List.getElem_mem hk)
      simp only [lk, List.getElem_cons_succ]
      rw [if_neg (by omega)]; exact ih (List.pairwise_cons.1 hr).2 hk

/-- What the list of package inbound is. -/
theorem Same.keys {has : List (Int × Int)} {l : List One} {L : List Int} (h : Same has l) (hK : KeysOf L has) : L = l.map (·.f0) :=
  sorted_ext hK.1 (rise_iff.1 h.rise) (fun x => by rw [hK.2.1, ← lk_mem, ← h.look]; exact AL.get_isSome.symm)
end R14
end Go.Proofs.Ytfnleddabfpkgaa
