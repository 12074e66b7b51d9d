import Derived.Test.YtjhhnidfmoejdaaDoorR25
namespace Go.Proofs.YtjhhnidfmoejdaaDoor
open Go.RowKit Go.Lib Go.Proofs.YtjhhnidfmoejdaaDoor.PLedgerPlays Go.Proofs.YtjhhnidfmoejdaaDoorW.PrintWords Go.Proofs.YtjhhnidfmoejdaaDoorW.PrintLast
set_option maxRecDepth 10000
set_option linter.unusedVariables false
set_option maxHeartbeats 1000000
namespace R25
def Rx.answer (x : Rx) (kind id code : Int) : Rx :=
  if kind = 6 then { x with T := x.T.filter fun n => decide (n ≠ id) }
  else if place id 0 x.O < 0 then x
  else
    let y := rd_T87 x.O (place id 0 x.O)
    if kind = 5 then (if 128 ≤ code ∧ y.f4 = false then { x with O := x.O.filter fun y => decide (y.f0 ≠ id) } else { x with O := setL ⟨y.f0, y.f1, y.f2, y.f3, true, y.f5⟩ false x.O })
    else if kind = 7 ∧ y.f4 = true then { x with O := x.O.filter (fun y => decide (y.f0 ≠ id)), D := x.D ++ [⟨y.f0, y.f1, y.f2, y.f3, y.f4, true⟩] }
    else x
def Rx.fresh (x : Rx) : Rx := { x with O := [], T := [] }
theorem place_none {id : Int} : ∀ {l : List RX} {i : Nat}, (∀ y ∈ l, y.f0 ≠ id) → place id i l = -1
  | [], _, _ => rfl
  | y :: t, i, h => by
    simp only [place]
    rw [if_neg (h y (by simp)), place_none (fun z hz => h z (by simp [hz]))]
theorem place_some {id : Int} : ∀ {l : List RX} {i : Nat} {y : RX}, y ∈ l → y.f0 = id → ∃ (j : Nat) (h : j < l.length), place id i l = ((i + j : Nat) : Int) ∧ (l[j]).f0 = id
  | z :: t, i, y, hy, he => by
    by_cases hz : z.f0 = id
    · exact ⟨0, by simp, by simp [place, hz], hz⟩
    · have hy' : y ∈ t := by
        rcases List.mem_cons.1 hy with rfl | h
        · exact absurd he hz
        · exact h
      obtain ⟨j, hj, hp, hf⟩ := place_some (i := i + 1) hy' he
      exact ⟨j + 1, by simpa using hj, by simp only [place]; rw [if_neg hz, hp]; omega, by simpa using hf⟩
theorem setL_true {x : RX} : ∀ {l : List RX}, setL x true l = l.filter fun y => decide (y.f0 ≠ x.f0)
  | [] => by simp [setL]
  | y :: t => by
    simp only [setL]
    by_cases h : y.f0 = x.f0
    · rw [if_pos h, setL_true, List.filter_cons, if_neg (by simpa using h)]
    · rw [if_neg h, if_pos trivial, setL_true, List.filter_cons, if_pos (by simpa using h)]
theorem mem_setL {x z : RX} : ∀ {l : List RX}, z ∈ setL x false l ↔ z = x ∨ (z ∈ l ∧ z.f0 ≠ x.f0)
  | [] => by simp [setL]
  | y :: t => by
    simp only [setL]
    by_cases h : y.f0 = x.f0
    · rw [if_pos h, mem_setL, List.mem_cons]
      constructor
      · rintro (h1 | ⟨h1, h2⟩)
        · exact Or.inl h1
        · exact Or.inr ⟨Or.inr h1, h2⟩
      · rintro (h1 | ⟨rfl | h1, h2⟩)
        · exact Or.inl h1
        · exact absurd h h2
        · exact Or.inr ⟨h1, h2⟩
    · rw [if_neg h, if_neg (by simp)]
      by_cases hlt : x.f0 < y.f0
      · rw [if_pos hlt, setL_true, List.mem_cons, List.mem_cons, List.mem_filter, List.mem_cons]
        constructor
        · rintro (h1 | rfl | ⟨h1, h2⟩)
          · exact Or.inl h1
          · exact Or.inr ⟨Or.inl rfl, h⟩
          · exact Or.inr ⟨Or.inr h1, by simpa using h2⟩
        · rintro (h1 | ⟨rfl | h1, h2⟩)
          · exact Or.inl h1
          · exact Or.inr (Or.inl rfl)
          · exact Or.inr (Or.inr ⟨h1, by simpa using h2⟩)
      · rw [if_neg hlt, List.mem_cons, mem_setL, List.mem_cons]
        constructor
        · rintro (rfl | h1 | ⟨h1, h2⟩)
          · exact Or.inr ⟨Or.inl rfl, h⟩
          · exact Or.inl h1
          · exact Or.inr ⟨Or.inr h1, h2⟩
        · rintro (h1 | ⟨rfl | h1, h2⟩)
          · exact Or.inr (Or.inl h1)
          · exact Or.inl rfl
          · exact Or.inr (Or.inr ⟨h1, h2⟩)
abbrev Sorted (l : List RX) : Prop := l.Pairwise fun a b => a.f0 < b.f0
theorem setL_sorted {x : RX} : ∀ {l : List RX}, Sorted l → Sorted (setL x false l)
  | [], _ => by simp [setL, Sorted]
  | y :: t, h => by
    obtain ⟨h1, h2⟩ := List.pairwise_cons.1 h
    simp only [setL]
    by_cases he : y.f0 = x.f0
    · rw [if_pos he]; exact setL_sorted h2
    · rw [if_neg he, if_neg (by simp)]
      by_cases hlt : x.f0 < y.f0
      · rw [if_pos hlt, setL_true]
        refine List.pairwise_cons.2 ⟨fun z hz => ?_, List.pairwise_cons.2 ⟨fun z hz => h1 z (List.mem_filter.1 hz).1, h2.sublist List.filter_sublist⟩⟩
        rcases List.mem_cons.1 hz with rfl | hz
        · exact hlt
        · have := h1 z (List.mem_filter.1 hz).1; omega
      · rw [if_neg hlt]
        refine List.pairwise_cons.2 ⟨fun z hz => ?_, setL_sorted h2⟩
        rcases mem_setL.1 hz with rfl | ⟨hz, _⟩
        · omega
        · exact h1 z hz
theorem setL_len {x : RX} : ∀ {l : List RX} {b : Bool}, (setL x b l).length ≤ l.length + 1
  | [], b => by cases b <;> simp [setL]
  | y :: t, b => by
    have h1 := setL_len (x := x) (l := t) (b := b)
    have h2 := setL_len (x := x) (l := t) (b := true)
    have h3 : (setL x true t).length ≤ t.length := by rw [setL_true]; exact List.length_filter_le _ _
    simp only [setL, List.length_cons]
    split
    · omega
    · split
      · simp; omega
      · split <;> simp <;> omega
structure Rel (K : Nat) (S : Lg) (x : Rx) : Prop where
  sorted : Sorted x.O
  mem : ∀ k e, S.M k = some e → e.f0 = k ∧ toX e ∈ x.O
  back : ∀ y ∈ x.O, ∃ e, S.M y.f0 = some e ∧ toX e = y
  dom : ∀ k e, S.M k = some e → 0 ≤ k ∧ k < 100000 ∧ 0 ≤ e.f3 ∧ e.f3 ≤ K
  D : x.D = S.dn.map toX
  ddom : ∀ e ∈ S.dn, 0 ≤ e.f0 ∧ e.f0 < 100000
  n : x.n = S.nw
  E : x.E = S.er
  T : ∀ id, id ∈ x.T ↔ 0 < (AL.get S.tk id).getD 0
  tpos : ∀ id, 0 ≤ (AL.get S.tk id).getD 0 ∧ (AL.get S.tk id).getD 0 ≤ K
  nb : 0 ≤ S.nw ∧ S.nw ≤ K
  ol : x.O.length ≤ K
  tl : x.T.length ≤ K
  dl : S.dn.length ≤ K
  el : S.er.length ≤ K
  nd : (AL.keys S.tk).Nodup
theorem Rel.new : Rel 0 Lg.new ⟨[], [], [], 0, []⟩ where
  sorted := List.Pairwise.nil
  mem := fun k e h => by cases h
  back := fun y h => by cases h
  dom := fun k e h => by cases h
  D := rfl
  ddom := fun e h => by cases h
  n := rfl
  E := rfl
  T := fun id => by simp [Lg.new, AL.get]
  tpos := fun id => by simp [Lg.new, AL.get]
  nb := by simp [Lg.new]
  ol := by simp
  tl := by simp
  dl := by simp [Lg.new]
  el := by simp [Lg.new]
  nd := by simp [Lg.new, AL.keys]
section
variable {K : Nat} {S : Lg} {x : Rx}
theorem Rel.mono {K' : Nat} (h : Rel K S x) (hk : K ≤ K') : Rel K' S x where
  sorted := h.sorted
  mem := h.mem
  back := h.back
  dom := fun k e he => by have := h.dom k e he; omega
  D := h.D
  ddom := h.ddom
  n := h.n
  E := h.E
  T := h.T
  tpos := fun id => by have := h.tpos id; omega
  nb := by have := h.nb; omega
  ol := by have := h.ol; omega
  tl := by have := h.tl; omega
  dl := by have := h.dl; omega
  el := by have := h.el; omega
  nd := h.nd
theorem Rel.ok (h : Rel K S x) : S.Ok K := ⟨h.el, h.dl, fun k e he => (h.dom k e he).2.2⟩
theorem Rel.none (h : Rel K S x) {id : Int} (hn : S.M id = none) : place id 0 x.O = -1 :=
  place_none fun y hy he => by
    obtain ⟨e, h1, _⟩ := h.back y hy
    rw [he, hn] at h1; cases h1
theorem Rel.some (h : Rel K S x) {id : Int} {e : SX} (hs : S.M id = some e) : ¬ place id 0 x.O < 0 ∧ rd_T87 x.O (place id 0 x.O) = toX e := by
  obtain ⟨h1, h2⟩ := h.mem id e hs
  obtain ⟨j, hj, hp, hf⟩ := place_some (id := id) (i := 0) h2 h1
  rw [hp]
  refine ⟨by omega, ?_⟩
  rw [Nat.zero_add, rdR_at _ j hj]
  obtain ⟨e', h3, h4⟩ := h.back _ (List.getElem_mem hj)
  rw [hf, hs] at h3
  cases h3
  exact h4.symm
theorem Rel.wrong (h : Rel K S x) (s : BA) (id : Int) : Rel (K + 1) (S.wrong s id) (x.wrong s id) :=
  { h.mono (Nat.le_succ K) with
    E := by show x.E ++ _ = S.er ++ _; rw [h.E]
    el := by show (S.er ++ _).length ≤ _; have := h.el; simp; omega }
theorem Rel.up (h : Rel K S x) {k : Int} {e : SX} (he : e.f0 = k) (hk : 0 ≤ k ∧ k < 100000) (ht : 0 ≤ e.f3 ∧ e.f3 ≤ K + 1) : Rel (K + 1) { S with M := upM S.M k (Option.some e) } { x with O := setL (toX e) false x.O } :=
  { h.mono (Nat.le_succ K) with
    sorted := setL_sorted h.sorted
    mem := fun k' e' h' => by
      simp only [upM] at h'
      split at h'
      · rename_i hk'
        cases h'
        exact ⟨by rw [he, hk'], mem_setL.2 (Or.inl rfl)⟩
      · rename_i hk'
        obtain ⟨h1, h2⟩ := h.mem k' e' h'
        exact ⟨h1, mem_setL.2 (Or.inr ⟨h2, by show e'.f0 ≠ e.f0; rw [h1, he]; exact hk'⟩)⟩
    back := fun y hy => by
      rcases mem_setL.1 hy with rfl | ⟨hy, hne⟩
      · exact ⟨e, by simp [upM, toX, he], rfl⟩
      · obtain ⟨e', h1, h2⟩ := h.back y hy
        refine ⟨e', ?_, h2⟩
        simp only [upM]
        rw [if_neg (by show y.f0 ≠ k; rw [← he]; exact hne)]
        exact h1
    dom := fun k' e' h' => by
      simp only [upM] at h'
      split at h'
      · rename_i hk'
        cases h'
        exact ⟨by omega, by omega, ht.1, by push_cast; exact ht.2⟩
      · have := h.dom k' e' h'
        exact ⟨this.1, this.2.1, this.2.2.1, by push_cast; omega⟩
    ol := by have := setL_len (x := toX e) (l := x.O) (b := false); have := h.ol; show (setL (toX e) false x.O).length ≤ _; omega }
theorem Rel.dele (h : Rel K S x) (k : Int) : Rel K { S with M := upM S.M k Option.none } { x with O := x.O.filter fun y => decide (y.f0 ≠ k) } :=
  { h with
    sorted := h.sorted.sublist List.filter_sublist
    mem := fun k' e' h' => by
      simp only [upM] at h'
      split at h'
      · cases h'
      · rename_i hk'
        obtain ⟨h1, h2⟩ := h.mem k' e' h'
        exact ⟨h1, List.mem_filter.2 ⟨h2, by simp [toX, h1, hk']⟩⟩
    back := fun y hy => by
      obtain ⟨hy, hne⟩ := List.mem_filter.1 hy
      obtain ⟨e', h1, h2⟩ := h.back y hy
      refine ⟨e', ?_, h2⟩
      simp only [upM]
      rw [if_neg (by simpa using hne)]
      exact h1
    dom := fun k' e' h' => by
      simp only [upM] at h'
      split at h'
      · cases h'
      · exact h.dom k' e' h'
    ol := Nat.le_trans (List.length_filter_le _ _) h.ol }
theorem ba_eq {a b : BA} : a.toList = b.toList ↔ a = b := by
  rw [ByteArray.toList_eq, ByteArray.toList_eq]
  constructor
  · intro h; exact ByteArray.ext (Array.ext' h)
  · rintro rfl; rfl
theorem Rel.sent (h : Rel K S x) (hK : K < 1000) (id : Int) (tp pl : BA) (d : Bool) (h0 : 0 ≤ id) (h1 : id < 100000) : Rel (K + 1) (S.sent d 2 id tp pl) (x.sent id tp pl d) := by
  unfold Lg.sent Rx.sent
  rw [if_neg (by simp)]
  cases hM : S.M id with
  | none =>
    rw [h.none hM]
    cases d
    · rw [if_pos rfl, if_pos rfl, if_neg (by omega)]
      exact h.up (e := ⟨id, tp, pl, 1, false, false⟩) rfl ⟨h0, h1⟩ ⟨by simp, by simp; omega⟩
    · rw [if_neg (by simp), if_neg (by simp), if_pos (by omega)]
      exact h.wrong _ _
  | some e =>
    obtain ⟨hp, hr⟩ := h.some hM
    obtain ⟨hm, _⟩ := h.mem id e hM
    have hd := h.dom id e hM
    rw [hr]
    cases d
    · simp only [if_true]
      rw [if_pos (by omega)]
      exact h.wrong _ _
    · simp only [Bool.true_eq_false, if_false]
      rw [if_neg hp]
      show Rel _ _ (if e.f4 = true then _ else _)
      by_cases h4 : e.f4 = true
      · rw [if_pos h4, if_pos h4]
        exact h.wrong _ _
      · rw [if_neg h4, if_neg h4]
        show Rel _ _ (if e.f1.toList = tp.toList ∧ e.f2.toList = pl.toList then _ else _)
        by_cases hne : e.f1 = tp ∧ e.f2 = pl
        · rw [if_pos (show e.f1.toList = tp.toList ∧ e.f2.toList = pl.toList from ⟨ba_eq.2 hne.1, ba_eq.2 hne.2⟩), if_neg (by rintro (h5 | h5); exact h5 hne.1; exact h5 hne.2)]
          have e3 : wrap64 (e.f3 + 1) = e.f3 + 1 := by unfold wrap64; omega
          show Rel _ _ { x with O := setL ⟨e.f0, e.f1, e.f2, wrap64 (e.f3 + 1), e.f4, e.f5⟩ false x.O }
          rw [e3]
          exact h.up (e := { e with f3 := e.f3 + 1 }) hm ⟨h0, h1⟩ ⟨by show 0 ≤ e.f3 + 1; omega, by show e.f3 + 1 ≤ K + 1; omega⟩
        · rw [if_neg (show ¬ (e.f1.toList = tp.toList ∧ e.f2.toList = pl.toList) from fun h6 => hne ⟨ba_eq.1 h6.1, ba_eq.1 h6.2⟩), if_pos (by
            by_cases h5 : e.f1 = tp
            · exact Or.inr fun h6 => hne ⟨h5, h6⟩
            · exact Or.inl h5)]
          exact h.wrong _ _
theorem Rel.rel (h : Rel K S x) (id code : Int) : Rel (K + 1) (S.rel id code) (x.released id code) := by
  unfold Lg.rel Rx.released
  by_cases hc : code = 0
  · rw [if_neg (by simpa using hc), if_pos hc]
    cases hM : S.M id with
    | none => rw [h.none hM, if_pos (by omega)]; exact h.wrong _ _
    | some e =>
      obtain ⟨hp, hr⟩ := h.some hM
      rw [if_neg hp, hr]
      show Rel _ (if e.f4 = true then _ else _) (if e.f4 = true then _ else _)
      by_cases h4 : e.f4 = true
      · rw [if_pos h4, if_pos h4]; exact h.mono (Nat.le_succ K)
      · rw [if_neg h4, if_neg h4]; exact h.wrong _ _
  · rw [if_pos hc, if_neg hc]; exact h.mono (Nat.le_succ K)
theorem Rel.fresh (h : Rel K S x) : Rel (K + 1) { S with M := fun _ => Option.none, tk := [] } x.fresh :=
  { h.mono (Nat.le_succ K) with
    sorted := List.Pairwise.nil
    mem := fun k e h => by cases h
    back := fun y h => by cases h
    dom := fun k e h => by cases h
    T := fun id => by simp [Rx.fresh, AL.get]
    tpos := fun id => by simp [AL.get]; omega
    nd := by simp [AL.keys]
    ol := by simp [Rx.fresh]
    tl := by simp [Rx.fresh] }
theorem Rel.came (h : Rel K S x) (hK : K < 1000) (id : Int) : Rel (K + 1) (S.came 2 id) (x.came id) := by
  unfold Lg.came Rx.came
  rw [if_neg (by simp)]
  have hp := h.tpos id
  have hn := h.nb
  have hT := h.T id
  have ho := fun (i : Int) (hi : i ≠ id) (v : Int) => AL.get_set S.tk id v i
  by_cases h0 : (AL.get S.tk id).getD 0 = 0
  · rw [if_neg (show ¬ id ∈ x.T by rw [hT]; omega)]
    rw [h0]
    exact { h.mono (Nat.le_succ K) with
      n := by show wrap64 (x.n + 1) = S.nw + 1; rw [h.n]; unfold wrap64; omega
      nb := by show 0 ≤ (if (0 : Int) = 0 then S.nw + 1 else S.nw) ∧ (if (0 : Int) = 0 then S.nw + 1 else S.nw) ≤ _; rw [if_pos rfl]; push_cast; omega
      T := fun i => by
        show i ∈ x.T ++ [id] ↔ 0 < (AL.get (AL.set S.tk id (0 + 1)) i).getD 0
        rw [AL.get_set, List.mem_append, h.T i]
        by_cases hi : i = id
        · subst hi; simp
        · simp [hi]
      tpos := fun i => by
        show 0 ≤ (AL.get (AL.set S.tk id (0 + 1)) i).getD 0 ∧ (AL.get (AL.set S.tk id (0 + 1)) i).getD 0 ≤ _
        rw [AL.get_set]
        have := h.tpos i
        split
        · simp; omega
        · push_cast; omega
      nd := AL.nodup_set h.nd _ _
      tl := by show (x.T ++ [id]).length ≤ _; have := h.tl; simp; omega }
  · rw [if_pos (show id ∈ x.T by rw [hT]; omega), if_neg h0]
    exact { h.mono (Nat.le_succ K) with
      T := fun i => by
        show i ∈ x.T ↔ 0 < (AL.get (AL.set S.tk id ((AL.get S.tk id).getD 0 + 1)) i).getD 0
        rw [AL.get_set, h.T i]
        by_cases hi : i = id
        · subst hi; rw [if_pos rfl]; simp; omega
        · rw [if_neg hi]
      tpos := fun i => by
        show 0 ≤ (AL.get (AL.set S.tk id ((AL.get S.tk id).getD 0 + 1)) i).getD 0 ∧ (AL.get (AL.set S.tk id ((AL.get S.tk id).getD 0 + 1)) i).getD 0 ≤ _
        rw [AL.get_set]
        have := h.tpos i
        split
        · simp; omega
        · push_cast; omega
      nd := AL.nodup_set h.nd _ _ }
theorem Rel.answer (h : Rel K S x) (hK : K < 1000) (kind id code : Int) (h0 : 0 ≤ id) (h1 : id < 100000) : Rel (K + 1) (S.heard kind id code) (x.answer kind id code) := by
  unfold Lg.heard Rx.answer
  by_cases h6 : kind = 6
  · rw [if_pos h6, if_pos h6]
    exact { h.mono (Nat.le_succ K) with
      T := fun i => by
        show i ∈ x.T.filter (fun n => decide (n ≠ id)) ↔ 0 < (AL.get (AL.del S.tk id) i).getD 0
        rw [AL.get_del h.nd, List.mem_filter, h.T i]
        by_cases hi : i = id
        · subst hi; simp
        · simp [hi]
      tpos := fun i => by
        show 0 ≤ (AL.get (AL.del S.tk id) i).getD 0 ∧ (AL.get (AL.del S.tk id) i).getD 0 ≤ _
        rw [AL.get_del h.nd]
        have := h.tpos i
        split
        · simp; omega
        · push_cast; omega
      nd := AL.nodup_del h.nd _
      tl := by show (x.T.filter (fun n => decide (n ≠ id))).length ≤ _; have := h.tl; have := List.length_filter_le (fun n => decide (n ≠ id)) x.T; omega }
  · rw [if_neg h6, if_neg h6]
    cases hM : S.M id with
    | none => rw [h.none hM, if_pos (by omega)]; exact h.mono (Nat.le_succ K)
    | some e =>
      obtain ⟨hp, hr⟩ := h.some hM
      obtain ⟨hm, _⟩ := h.mem id e hM
      have hd := h.dom id e hM
      rw [if_neg hp, hr]
      by_cases h5 : kind = 5
      · show Rel _ (if kind = 5 then _ else _) (if kind = 5 then (if 128 ≤ code ∧ e.f4 = false then _ else _) else _)
        rw [if_pos h5, if_pos h5]
        by_cases hc : 128 ≤ code ∧ e.f4 = false
        · rw [if_neg (by rintro (h7 | h7); omega; rw [hc.2] at h7; cases h7), if_pos hc]
          exact (h.dele id).mono (Nat.le_succ K)
        · rw [if_pos (by
            by_cases h7 : code < 128
            · exact Or.inl h7
            · refine Or.inr ?_
              cases h8 : e.f4 with
              | true => rfl
              | false => exact absurd ⟨by omega, h8⟩ hc), if_neg hc]
          exact h.up (e := { e with f4 := true }) hm ⟨h0, h1⟩ ⟨by show 0 ≤ e.f3; omega, by show e.f3 ≤ K + 1; omega⟩
      · show Rel _ (if kind = 5 then _ else if kind = 7 ∧ e.f4 = true then _ else _) (if kind = 5 then _ else if kind = 7 ∧ e.f4 = true then _ else _)
        rw [if_neg h5, if_neg h5]
        by_cases h7 : kind = 7 ∧ e.f4 = true
        · rw [if_pos h7, if_pos h7]
          exact { (h.dele id).mono (Nat.le_succ K) with
            D := by show x.D ++ _ = (S.dn ++ _).map toX; rw [h.D, List.map_append]; rfl
            ddom := fun y hy => by
              rcases List.mem_append.1 hy with hy | hy
              · exact h.ddom y hy
              · rw [List.mem_singleton] at hy; subst hy; show 0 ≤ e.f0 ∧ e.f0 < 100000; omega
            dl := by show (S.dn ++ _).length ≤ _; have := h.dl; simp; omega }
        · rw [if_neg h7, if_neg h7]
          exact h.mono (Nat.le_succ K)
theorem Rel.open_ (h : Rel K S x) {L : List Int} (hp : L.Pairwise (· < ·)) (hL : ∀ k, k ∈ L ↔ S.M k ≠ Option.none) : (L.map (exAt S.M)).map toX = x.O := by
  have hk : ∀ k ∈ L, ∃ e, S.M k = Option.some e ∧ exAt S.M k = e ∧ e.f0 = k := fun k hm => by
    cases hM : S.M k with
    | none => exact absurd hM ((hL k).1 hm)
    | some e => exact ⟨e, rfl, by simp [exAt, hM], (h.mem k e hM).1⟩
  refine List.Perm.eq_of_pairwise (le := fun a b : RX => a.f0 < b.f0) (fun a b _ _ h1 h2 => by omega) ?_ h.sorted ?_
  · rw [List.map_map]
    refine List.pairwise_map.2 (hp.imp_of_mem fun {a b} ha hb hlt => ?_)
    obtain ⟨e, _, h1, h2⟩ := hk a ha
    obtain ⟨e', _, h1', h2'⟩ := hk b hb
    show (exAt S.M a).f0 < (exAt S.M b).f0
    rw [h1, h1', h2, h2']; exact hlt
  · have hn1 : ((L.map (exAt S.M)).map toX).Nodup := by
      rw [List.map_map]
      refine List.pairwise_map.2 (hp.imp_of_mem fun {a b} ha hb hlt heq => ?_)
      obtain ⟨e, _, h1, h2⟩ := hk a ha
      obtain ⟨e', _, h1', h2'⟩ := hk b hb
      have : (toX (exAt S.M a)).f0 = (toX (exAt S.M b)).f0 := congrArg (·.f0) heq
      simp only [toX, h1, h1', h2, h2'] at this
      omega
    have hn2 : x.O.Nodup := h.sorted.imp fun {a b} hlt heq => by subst heq; omega
    refine (List.perm_ext_iff_of_nodup hn1 hn2).2 fun y => ?_
    rw [List.map_map, List.mem_map]
    constructor
    · rintro ⟨k, hm, rfl⟩
      obtain ⟨e, h0, h1, _⟩ := hk k hm
      show toX (exAt S.M k) ∈ _
      rw [h1]; exact (h.mem k e h0).2
    · intro hy
      obtain ⟨e, h1, h2⟩ := h.back y hy
      refine ⟨y.f0, (hL _).2 (by rw [h1]; simp), ?_⟩
      show toX (exAt S.M y.f0) = y
      simp [exAt, h1, h2]
theorem Rel.openLen (h : Rel K S x) {L : List Int} (hp : L.Pairwise (· < ·)) (hL : ∀ k, k ∈ L ↔ S.M k ≠ Option.none) : L.length ≤ K ∧ ∀ e ∈ L.map (exAt S.M), 0 ≤ e.f0 ∧ e.f0 < 100000 := by
  have := congrArg List.length (h.open_ hp hL)
  simp at this
  refine ⟨by have := h.ol; omega, fun e he => ?_⟩
  obtain ⟨k, hk, rfl⟩ := List.mem_map.1 he
  cases hM : S.M k with
  | none => exact absurd hM ((hL k).1 hk)
  | some e =>
    have h1 := h.dom k e hM
    have h2 := (h.mem k e hM).1
    simp [exAt, hM, h2]; omega
theorem Rel.sup (h : Rel K S x) : (∀ k, S.M k ≠ Option.none → k ∈ x.O.map (·.f0)) ∧ (x.O.map (·.f0)).length ≤ K := by
  refine ⟨fun k hk => ?_, by rw [List.length_map]; exact h.ol⟩
  cases hM : S.M k with
  | none => exact absurd hM hk
  | some e =>
    obtain ⟨h1, h2⟩ := h.mem k e hM
    exact List.mem_map.2 ⟨_, h2, h1⟩
end
end R25
end Go.Proofs.YtjhhnidfmoejdaaDoor
