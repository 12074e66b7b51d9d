/- The document's answer for layer 18 (printed functions) on sorted lists of entries. -/
import Derived.Test.YtbgondiibnjcgaaEnts
import Derived.Test.YtbgondiibnjcgaaPTimerPlaysx8
import Derived.Sort.Walk0
namespace Go.Proofs.Ytbgondiibnjcgaa
open Go.RowKit Go.Proofs.Ytbgondiibnjcgaa.PTimerPlays Go.Proofs.YtbgondiibnjcgaaW.PrintWords Go.Proofs.YtbgondiibnjcgaaW.PrintLast
set_option maxRecDepth 10000
set_option linter.unusedVariables false
set_option maxHeartbeats 1000000

namespace R18
abbrev S := S41
def tS (p : En) : S := ⟨p.1, p.2⟩

theorem tS_f0 (p : En) : (tS p).f0 = p.1 := rfl
theorem tS_f1 (p : En) : (tS p).f1 = p.2 := rfl

theorem rd_at (r : List En) (i : Nat) (h : i < r.length) : rd_T41 (r.map tS) (i : Int) = tS r[i] := by
  unfold rd_T41; simp [List.getD, h]
theorem toListE (a b : BA) : a.toList = b.toList ↔ a = b := by
  rw [ByteArray.toList_eq, ByteArray.toList_eq]
  exact ⟨ba_ext, fun h => by rw [h]⟩

theorem stop_l0 (r : List En) (key : BA) (hl : r.length < 1000000) : ∀ (d k i : Nat) (out : List En) (was : Bool), r.length - i = d → i ≤ r.length → d < k → out.length ≤ i →
    switchboardref18_Stop.l0 k key (out.map tS) was (r.map tS) ((r.map tS).length : Int) (i : Int) = some ((out ++ rmE (r.drop i) key).map tS, was || (r.drop i).any (fun p => decide (p.1 = key))) := by
  intro d
  induction d with
  | zero =>
    intro k i out was h1 h2 h3 h4
    obtain ⟨k, rfl⟩ : ∃ m, k = m + 1 := ⟨k - 1, by omega⟩
    simp only [switchboardref18_Stop.l0, List.length_map]
    rw [if_neg (by omega), List.drop_of_length_le (by omega)]
    simp [rmE]
  | succ d ih =>
    intro k i out was h1 h2 h3 h4
    obtain ⟨k, rfl⟩ : ∃ m, k = m + 1 := ⟨k - 1, by omega⟩
    have hi : i < r.length := by omega
    have e : wrap64 ((i : Int) + 1) = ((i + 1 : Nat) : Int) := by unfold wrap64; omega
    have hd := List.drop_eq_getElem_cons hi
    simp only [switchboardref18_Stop.l0, List.length_map]
    rw [if_pos (by omega), if_pos (by omega), if_pos (by omega), rd_at r i hi, e]
    simp only [tS_f0, tS_f1]
    by_cases hx : r[i].1 = key
    · have ih' := ih k (i + 1) out true (by omega) (by omega) (by omega) (by omega)
      simp only [List.length_map] at ih'
      refine (if_pos ((toListE _ _).2 hx)).trans ?_
      rw [ih', hd]
      simp [rmE, hx, -List.getElem_cons_drop]
    · have ih' := ih k (i + 1) (out ++ [r[i]]) was (by omega) (by omega) (by omega) (by simp; omega)
      simp only [List.length_map, List.map_append, List.map_cons, List.map_nil] at ih'
      refine (if_neg (fun h => hx ((toListE _ _).1 h))).trans ?_
      refine (if_pos (by omega)).trans ?_
      refine ih'.trans ?_
      rw [hd]
      simp [rmE, hx, -List.getElem_cons_drop]

theorem stop_f (r : List En) (key : BA) (hl : r.length < 1000000) (k : Nat) (hk : r.length < k) :
    switchboardref18_Stop.f k (r.map tS) key = some ((rmE r key).map tS, r.any (fun p => decide (p.1 = key))) := by
  have := stop_l0 r key hl r.length k 0 [] false (by omega) (by omega) hk (by simp)
  unfold switchboardref18_Stop.f
  simpa using this

def insR (r : List En) (done : Bool) (x : En) : List En := if done then r else insE r x

theorem set_l0 (r : List En) (key : BA) (at0 : Int) (hl : r.length < 1000000) : ∀ (d k i : Nat) (out : List En) (done : Bool), r.length - i = d → i ≤ r.length → d < k → out.length ≤ i + done.toNat →
    switchboardref18_Set.l0 k (out.map tS) done (r.map tS) ((r.map tS).length : Int) (i : Int) key at0 = some ((out ++ insR (r.drop i) done (key, at0)).map tS) := by
  intro d
  induction d with
  | zero =>
    intro k i out done h1 h2 h3 h4
    obtain ⟨k, rfl⟩ : ∃ m, k = m + 1 := ⟨k - 1, by omega⟩
    simp only [switchboardref18_Set.l0, List.length_map]
    rw [if_neg (by omega), List.drop_of_length_le (by omega)]
    cases done
    · simp at h4
      rw [if_neg (by simp), if_pos (by omega)]; simp [insR, insE, tS]
    · rw [if_pos rfl]; simp [insR]
  | succ d ih =>
    intro k i out done h1 h2 h3 h4
    obtain ⟨k, rfl⟩ : ∃ m, k = m + 1 := ⟨k - 1, by omega⟩
    have hi : i < r.length := by omega
    have e : wrap64 ((i : Int) + 1) = ((i + 1 : Nat) : Int) := by unfold wrap64; omega
    have hd := List.drop_eq_getElem_cons hi
    simp only [switchboardref18_Set.l0, List.length_map]
    rw [if_pos (by omega), if_pos (by omega), if_pos (by omega), rd_at r i hi, e]
    simp only [tS_f0, tS_f1]
    cases done
    · simp at h4
      rw [if_neg (by simp)]
      have ihk := ih k (i + 1) (out ++ [r[i]]) false (by omega) (by omega) (by omega) (by simp; omega)
      have ihi := ih k (i + 1) (out ++ [(key, at0)] ++ [r[i]]) true (by omega) (by omega) (by omega) (by simp; omega)
      simp only [List.length_map, List.map_append, List.map_cons, List.map_nil] at ihk ihi
      have keep : ¬ ltE (key, at0) r[i] → (switchboardref18_Set.l0 k (out.map tS ++ [(⟨r[i].1, r[i].2⟩ : S)]) false (r.map tS) (r.length : Int) ((i + 1 : Nat) : Int) key at0) = some ((out ++ insR (r.drop i) false (key, at0)).map tS) := by
        intro hn
        refine ihk.trans ?_
        rw [hd]
        simp [insR, insE, hn]
      have ins : ltE (key, at0) r[i] → (switchboardref18_Set.l0 k (out.map tS ++ [(⟨key, at0⟩ : S)] ++ [(⟨r[i].1, r[i].2⟩ : S)]) true (r.map tS) (r.length : Int) ((i + 1 : Nat) : Int) key at0) = some ((out ++ insR (r.drop i) false (key, at0)).map tS) := by
        intro hp
        refine ihi.trans ?_
        rw [hd]
        simp only [insR, insE, if_pos hp, Bool.false_eq_true, if_false, if_true, List.map_append, List.map_cons, List.append_assoc]; rfl
      by_cases hx : at0 < r[i].2
      · refine (if_pos hx).trans ?_
        refine (if_pos (by omega)).trans ?_
        simp only [Option.bind_some]
        refine (if_pos (by simp; omega)).trans ?_
        exact ins (.inl hx)
      · refine (if_neg hx).trans ?_
        by_cases hy : at0 = r[i].2
        · refine (if_pos hy).trans ?_
          by_cases hz : key.data.toList < r[i].1.data.toList
          · refine (if_pos (by rw [Go.Proofs.bytesLess_eq, ByteArray.toList_eq, ByteArray.toList_eq]; exact decide_eq_true hz)).trans ?_
            refine (if_pos (by omega)).trans ?_
            simp only [Option.bind_some]
            refine (if_pos (by simp; omega)).trans ?_
            exact ins (.inr ⟨hy, hz⟩)
          · refine (if_neg (by rw [Go.Proofs.bytesLess_eq, ByteArray.toList_eq, ByteArray.toList_eq]; simpa using hz)).trans ?_
            refine (if_pos (by omega)).trans ?_
            exact keep (by rintro (h | h); exact hx h; exact hz h.2)
        · refine (if_neg hy).trans ?_
          refine (if_pos (by omega)).trans ?_
          exact keep (by rintro (h | h); exact hx h; exact hy h.1)
    · simp at h4
      rw [if_pos rfl, if_pos (by omega)]
      have ih' := ih k (i + 1) (out ++ [r[i]]) true (by omega) (by omega) (by omega) (by simp; omega)
      simp only [List.length_map, List.map_append, List.map_cons, List.map_nil] at ih'
      show switchboardref18_Set.l0 k (out.map tS ++ [tS r[i]]) true (r.map tS) _ _ key at0 = _
      rw [ih', hd]
      simp only [insR, if_true, List.map_append, List.map_cons, List.append_assoc]; rfl

theorem rm_len (r : List En) (key : BA) : (rmE r key).length ≤ r.length := List.length_filter_le _ _

theorem set_f (r : List En) (key : BA) (at0 : Int) (hl : r.length < 1000000) (k : Nat) (hk : r.length < k) :
    switchboardref18_Set.f k (r.map tS) key at0 = some ((insE (rmE r key) (key, at0)).map tS) := by
  have hr := rm_len r key
  have := set_l0 (rmE r key) key at0 (by omega) (rmE r key).length k 0 [] false (by omega) (by omega) (by omega) (by simp)
  unfold switchboardref18_Set.f
  rw [stop_f r key hl k hk]
  simp only [Option.bind_some]
  simpa [insR] using this

theorem due_l0 (r : List En) (now : Int) (hl : r.length < 1000000) : ∀ (d k i : Nat) (st du : List En), r.length - i = d → i ≤ r.length → d < k → st.length + du.length ≤ i →
    switchboardref18_Due.l0 k now (st.map tS) (du.map tS) (r.map tS) ((r.map tS).length : Int) (i : Int) = some ((st ++ (r.drop i).filter fun p => decide (now < p.2)).map tS, (du ++ (r.drop i).filter fun p => decide (p.2 ≤ now)).map tS) := by
  intro d
  induction d with
  | zero =>
    intro k i st du h1 h2 h3 h4
    obtain ⟨k, rfl⟩ : ∃ m, k = m + 1 := ⟨k - 1, by omega⟩
    simp only [switchboardref18_Due.l0, List.length_map]
    rw [if_neg (by omega), List.drop_of_length_le (by omega)]
    simp
  | succ d ih =>
    intro k i st du h1 h2 h3 h4
    obtain ⟨k, rfl⟩ : ∃ m, k = m + 1 := ⟨k - 1, by omega⟩
    have hi : i < r.length := by omega
    have e : wrap64 ((i : Int) + 1) = ((i + 1 : Nat) : Int) := by unfold wrap64; omega
    have hd := List.drop_eq_getElem_cons hi
    simp only [switchboardref18_Due.l0, List.length_map]
    rw [if_pos (by omega), if_pos (by omega), if_pos (by omega), rd_at r i hi, e]
    simp only [tS_f0, tS_f1]
    by_cases hx : r[i].2 ≤ now
    · have ih' := ih k (i + 1) st (du ++ [r[i]]) (by omega) (by omega) (by omega) (by simp; omega)
      simp only [List.length_map, List.map_append, List.map_cons, List.map_nil] at ih'
      refine (if_pos hx).trans ?_
      refine (if_pos (by omega)).trans ?_
      show switchboardref18_Due.l0 k now (st.map tS) (du.map tS ++ [tS r[i]]) (r.map tS) _ _ = _
      rw [ih', hd]
      have : ¬ now < r[i].2 := by omega
      simp [hx, this, -List.getElem_cons_drop]
    · have ih' := ih k (i + 1) (st ++ [r[i]]) du (by omega) (by omega) (by omega) (by simp; omega)
      simp only [List.length_map, List.map_append, List.map_cons, List.map_nil] at ih'
      refine (if_neg hx).trans ?_
      refine (if_pos (by omega)).trans ?_
      show switchboardref18_Due.l0 k now (st.map tS ++ [tS r[i]]) (du.map tS) (r.map tS) _ _ = _
      rw [ih', hd]
      have : now < r[i].2 := by omega
      simp [hx, this, -List.getElem_cons_drop]

theorem due_f (r : List En) (now : Int) (hl : r.length < 1000000) (k : Nat) (hk : r.length < k) :
    switchboardref18_Due.f k (r.map tS) now = some ((r.filter fun p => decide (now < p.2)).map tS, (r.filter fun p => decide (p.2 ≤ now)).map tS) := by
  have := due_l0 r now hl r.length k 0 [] [] (by omega) (by omega) hk (by simp)
  unfold switchboardref18_Due.f
  simpa using this

abbrev kS : Kd S := k41
theorem flatTS : Flat kS (fun x => [Value.string x.f0, Value.int .i64 x.f1]) where
  len _ := rfl
  M := by
    intro w base ok x cs
    exact ⟨fun h => k41_openM h, fun h => h ▸ k41_mkM _ _ _ _⟩
/-- A row of pairs is a row of the print's structs, and back. -/
theorem own_tS {e base : Nat} {w : World} {v : Value} {r : List En} (h : Own kE e base w v r) : Own kS e base w v (r.map tS) :=
  Own.of_flat flatTS (by
    have := h.flat flatE
    rw [List.length_map, List.flatMap_map]
    exact this)
theorem own_ofS {e base : Nat} {w : World} {v : Value} {r : List En} (h : Own kS e base w v (r.map tS)) : Own kE e base w v r :=
  Own.of_flat flatE (by
    have := h.flat flatTS
    rw [List.length_map, List.flatMap_map] at this
    exact this)

abbrev RefT : Nat := 41

theorem rSet {w : World} {base : Nat} {v : Value} {r : List En} (h : Own kE RefT base w v r) (hl : r.length < 100000) (key : BA) (at0 : Int) :
    Calls Try.prog 14 #[v, .agg #[.string key, .int .i64 at0]] w (Px fun (v' : Value) e w' => e = .returned v' ∧ Own kE RefT w.heap.size w' v' (insE (rmE r key) (key, at0)) ∧ Keep [] w w') := by
  obtain ⟨A, c, rfl, hc, hC⟩ := (own_tS h).reads
  rw [List.length_map] at hc hC ⊢
  refine (switchboardref18_Set.calls (r.length + 1) A c (r.map tS) key at0 _ w (by rw [List.length_map]; exact hC) (by rw [List.length_map]; exact hc) (set_f r key at0 (by omega) (r.length + 1) (by omega)) |> fun H => (by rw [List.length_map] at H; exact H : Calls Try.prog 14 #[.slice A r.length c, .agg #[.string key, .int .i64 at0]] w _)).mono ?_
  rintro e w' ⟨v', rfl, hR, hb⟩
  exact ⟨v', rfl, own_ofS (Own.of hR), Keep.of_below hb⟩

theorem rStop {w : World} {base : Nat} {v : Value} {r : List En} (h : Own kE RefT base w v r) (hl : r.length < 100000) (key : BA) :
    Calls Try.prog 17 #[v, .string key] w (Px fun (v' : Value) e w' => e = .returned (.tuple #[v', .bool (r.any fun p => decide (p.1 = key))]) ∧ Own kE RefT w.heap.size w' v' (rmE r key) ∧ Keep [] w w') := by
  obtain ⟨A, c, rfl, hc, hC⟩ := (own_tS h).reads
  rw [List.length_map] at hc hC ⊢
  refine (switchboardref18_Stop.calls (r.length + 1) A c (r.map tS) key _ _ w (by rw [List.length_map]; exact hC) (by rw [List.length_map]; exact hc) (stop_f r key (by omega) (r.length + 1) (by omega)) |> fun H => (by rw [List.length_map] at H; exact H : Calls Try.prog 17 #[.slice A r.length c, .string key] w _)).mono ?_
  rintro e w' ⟨v', rfl, hR, hb⟩
  exact ⟨v', rfl, own_ofS (Own.of hR), Keep.of_below hb⟩

theorem rDue {w : World} {base : Nat} {v : Value} {r : List En} (h : Own kE RefT base w v r) (hl : r.length < 100000) (now : Int) :
    Calls Try.prog 18 #[v, .int .i64 now] w (Px fun (x : Value × Value) e w' => e = .returned (.tuple #[x.1, x.2]) ∧ Own kE RefT w.heap.size w' x.1 (r.filter fun p => decide (now < p.2)) ∧ Own kE RefT w.heap.size w' x.2 (r.filter fun p => decide (p.2 ≤ now)) ∧ Keep [] w w') := by
  obtain ⟨A, c, rfl, hc, hC⟩ := (own_tS h).reads
  rw [List.length_map] at hc hC ⊢
  refine (switchboardref18_Due.calls (r.length + 1) A c (r.map tS) now _ _ w (by rw [List.length_map]; exact hC) (by rw [List.length_map]; exact hc) (due_f r now (by omega) (r.length + 1) (by omega)) |> fun H => (by rw [List.length_map] at H; exact H : Calls Try.prog 18 #[.slice A r.length c, .int .i64 now] w _)).mono ?_
  rintro e w' ⟨v1, v2, rfl, hR1, hR2, hb⟩
  exact ⟨(v1, v2), rfl, own_ofS (Own.of hR1), own_ofS (Own.of hR2), Keep.of_below hb⟩
end R18
end Go.Proofs.Ytbgondiibnjcgaa
