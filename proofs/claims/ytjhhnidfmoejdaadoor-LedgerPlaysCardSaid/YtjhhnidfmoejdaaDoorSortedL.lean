import Derived.Test.YtjhhnidfmoejdaaDoorKeysL
import Derived.Test.YtjhhnidfmoejdaaDoorSrtS
namespace Go.Proofs.YtjhhnidfmoejdaaDoor
open Go.RowKit Go.Shelf
set_option maxRecDepth 10000
set_option linter.unusedVariables false
set_option maxHeartbeats 1000000
def RowAt (w : World) (v : Value) (L : List Int) : Prop :=
  (v = .slice none 0 0 ∧ L = []) ∨ ∃ (g cap : Nat) (d : Nat → Int) (rest : List Value), v = .slice (some ⟨g, 0, none⟩) L.length cap ∧ Arr w g L.length d 22 rest ∧ ∀ i (h : i < L.length), d i = L[i]
def KeysOf {ν : Type} (L : List Int) (l : List (Int × ν)) : Prop := L.Pairwise (· < ·) ∧ (∀ x, x ∈ L ↔ x ∈ l.map (·.1)) ∧ L.length = l.length
theorem RowAt.keep {w w' : World} {v : Value} {L : List Int} (h : RowAt w v L) (hk : Keep [] w w') : RowAt w' v L := by
  rcases h with h | ⟨g, cap, d, rest, h1, h2, h3⟩
  · exact .inl h
  · exact .inr ⟨g, cap, d, rest, h1, h2.keep hk (by simp), h3⟩
theorem arr_of_owns {w : World} {base g cap : Nat} {ss : List Int} (h : w.ownsRow base 22 1 (.slice (some ⟨g, 0, none⟩) ss.length cap) ss.length (ss.map (Value.int .u32))) :
    base ≤ g ∧ ∃ rest, Arr w g ss.length (fun i => ss.getD i 0) 22 rest := by
  rcases h.2 with ⟨h1, _⟩ | ⟨g', cap', cur, h1, hb, hg, hc, hm, hs, ht⟩
  · cases h1
  · cases h1
    refine ⟨hb, cur.toList.drop ss.length, ?_⟩
    have e : (((List.range ss.length).map fun i => Value.int .u32 (ss.getD i 0)) ++ cur.toList.drop ss.length).toArray = cur := by
      apply Array.ext'
      have e1 : ((List.range ss.length).map fun i => Value.int .u32 (ss.getD i 0)) = ss.map (Value.int .u32) := by
        apply List.ext_getElem
        · simp
        · intro i h1 h2
          have : i < ss.length := by simpa using h1
          simp [List.getD, this]
      rw [e1, ← ht, Nat.mul_one]
      simp
    unfold Arr
    rw [e]
    exact Blk.of hg (.inl (Nat.le_refl _))
theorem collect_any {g : Nat} {lb : Array Value} (eg : ∀ args w, (callFunc g args).run Tryd.prog w = .ok (.enter g args) w) {S Sp : List Int → Prop} {N : Nat} (hN : N < 1000000000) (w : World) (hseq : SeqStops Fence.wide 5 Tryd.prog g lb (Value.int .u32) S Sp N w) :
    Calls Tryd.prog 31 #[.func (.func g) #[] lb] w (Px fun (x : Value × List Int) e w' => e = .returned x.1 ∧ S x.2 ∧ w'.ownsRow w.heap.size 22 1 x.1 x.2.length (x.2.map (Value.int .u32)) ∧ (x.1 = .slice none 0 0 ↔ x.2 = []) ∧ Keep [] w w') := by
  go_enter Tryd.func31, Tryd.ntmps31
  go_wp2_with fail
  refine (callsIn_wide.1 (appendSeq_any eg hN _ hseq)).mono ?_
  rintro e w1 ⟨v, ss, rfl, h1, h2, h3, h4⟩
  go_wp2
  go_ret
  exact ⟨(v, ss), rfl, h1, h2, h3, Keep.of_below h4⟩
theorem sorted_any {g : Nat} {lb : Array Value} (eg : ∀ args w, (callFunc g args).run Tryd.prog w = .ok (.enter g args) w) {ν : Type} {Sp : List Int → Prop} {l : List (Int × ν)} (hN : l.length < 1000000000) (w : World)
    (hnd : (l.map (·.1)).Nodup) (hs : Sorts l.length) (hseq : SeqStops Fence.wide 5 Tryd.prog g lb (Value.int .u32) (fun ss => ss.Perm (l.map (·.1))) Sp l.length w) :
    Calls Tryd.prog 18 #[.func (.func g) #[] lb] w (Px fun (x : Value × List Int) e w' => e = .returned x.1 ∧ RowAt w' x.1 x.2 ∧ KeysOf x.2 l ∧ Keep [] w w') := by
  go_enter Tryd.func18, Tryd.ntmps18
  go_wp2_with fail
  refine (collect_any eg hN _ hseq).mono ?_
  rintro e w1 ⟨⟨v, ss⟩, rfl, hp, hrow, hnil, hk⟩
  have hss : ss.Nodup := hp.nodup_iff.2 hnd
  have hlen : ss.length = l.length := by have := hp.length_eq; simpa using this
  have hmem : ∀ x, x ∈ ss ↔ x ∈ l.map (·.1) := fun x => hp.mem_iff
  rcases hrow.2 with ⟨hv, h0⟩ | ⟨g', cap, cur, hv, hbase, _⟩
  · simp only at hv h0 hnil
    subst hv
    have hs0 : ss = [] := List.eq_nil_of_length_eq_zero h0
    subst hs0
    clear hrow hnil hp
    go_wp2_with fail
    refine (sort_nil _).mono ?_
    rintro e w2 ⟨rfl, rfl⟩
    go_wp2
    go_ret
    exact ⟨(_, []), rfl, .inl ⟨rfl, rfl⟩, ⟨List.Pairwise.nil, hmem, by simpa using hlen⟩, hk⟩
  · simp only at hv hrow hnil hbase
    subst hv
    obtain ⟨hgb, rest, hA⟩ := arr_of_owns hrow
    have hlt := hA.lt
    have hinj : ∀ i j, i < ss.length → j < ss.length → (fun i => ss.getD i 0) i = (fun i => ss.getD i 0) j → i = j := by
      intro i j hi hj e
      have hpw := List.pairwise_iff_getElem.1 hss
      simp [List.getD, hi, hj] at e
      rcases Nat.lt_trichotomy i j with h | h | h
      · exact absurd e (hpw i j hi hj h)
      · exact h
      · exact absurd e.symm (hpw j i hj hi h)
    have hS := hide (hs g' cap (fun i => ss.getD i 0) rest w1)
    clear hrow hnil hp
    rw [hlen] at hA hinj ⊢
    go_wp2_with fail
    refine (hS.out hA hinj).mono ?_
    rintro e w2 ⟨d', rfl, hA', hsw, hk', hris⟩
    go_wp2
    go_ret
    have hL : ((List.range l.length).map d').length = l.length := by simp
    refine ⟨(_, (List.range l.length).map d'), rfl, .inr ⟨g', cap, d', rest, ?_, ?_, ?_⟩, ⟨?_, ?_, hL⟩, hk.trans hk' (by simp) ?_⟩
    · rw [hL]
    · rw [hL]; exact hA'
    · intro i h; simp
    · refine List.pairwise_map.2 (List.pairwise_lt_range.imp_of_mem fun {i j} hi hj hij => ?_)
      have hi' := List.mem_range.1 hi
      have hj' := List.mem_range.1 hj
      have h1 := hris i j (by omega) (by omega) hj'
      have h2 : d' i ≠ d' j := fun e => by have := hsw.inj (Nat.le_refl _) hinj i j hi' hj' e; omega
      omega
    · intro x
      rw [← hmem, List.mem_map]
      have h1 := hsw.mem (Nat.le_refl _) x
      simp only [List.mem_range]
      rw [h1]
      constructor
      · rintro ⟨k, hk, rfl⟩
        have hk2 : k < ss.length := by omega
        simp [List.getD, hk2]
      · intro hx
        obtain ⟨k, hk, rfl⟩ := List.getElem_of_mem hx
        exact ⟨k, by omega, by simp [List.getD, hk]⟩
    · intro x hx hlt'
      simp at hx
      subst hx
      omega
theorem sortedKeys_any {ν : Type} (vf : ν → Value) (w : World) (Bm b : Nat) (l : List (Int × ν)) (hM : MapAt w b (Value.int .u32) vf l) (hBm : Bm < w.heap.size) (hm : w.cell? ⟨Bm, 0, none⟩ = some (.map (some b))) (hN : l.length < 1000000000) (hs : Sorts l.length) :
    Calls Tryd.prog 18 #[.func (.func 33) #[] #[.pointer (some ⟨Bm, 0, none⟩)]] w (Px fun (x : Value × List Int) e w' => e = .returned x.1 ∧ RowAt w' x.1 x.2 ∧ KeysOf x.2 l ∧ Keep [] w w') :=
  sorted_any (enters_of Tryd.func33 (by kernel_rfl) rfl) hN w hM.nodup hs (keysIt_stops vf 5 (by omega) w Bm b l hM hBm hm)
end Go.Proofs.YtjhhnidfmoejdaaDoor
