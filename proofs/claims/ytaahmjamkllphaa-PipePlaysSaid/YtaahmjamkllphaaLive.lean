/- Package pipe: the connections that live. -/
import Derived.Test.YtaahmjamkllphaaNet2
namespace Go.Proofs.Ytaahmjamkllphaa
open Go.RowKit
set_option maxRecDepth 10000
set_option linter.unusedVariables false
set_option maxHeartbeats 1000000

def liveK (M : Int → Option Cn) (k : Int) : Bool := match M k with
  | none => false
  | some x => !x.hung

theorem owns_rebase {w : World} {base base' : Nat} {e : TypeId} {size : Nat} {v : Value} {n : Nat} {xs : List Value} (h : w.ownsRow base e size v n xs) (hb : base' ≤ base) : w.ownsRow base' e size v n xs := by
  refine ⟨h.1, ?_⟩
  rcases h.2 with h | ⟨g, cap, cur, h1, h2, h3⟩
  · exact .inl h
  · exact .inr ⟨g, cap, cur, h1, by omega, h3⟩

def liveRel (w2 : World) (M : Int → Option Cn) (L : List Int) (o i : Value) (wr : World) : Prop :=
  ∃ k : Nat, i = .int .i64 k ∧ k ≤ L.length ∧ wr.ownsRow w2.heap.size 3 1 o ((L.take k).filter (liveK M)).length (((L.take k).filter (liveK M)).map (Value.int .i64)) ∧ Keep [] w2 wr

theorem take_filter (L : List Int) (p : Int → Bool) (k : Nat) (h : k < L.length) : (L.take (k + 1)).filter p = (L.take k).filter p ++ if p L[k] then [L[k]] else [] := by
  rw [List.take_add_one, List.filter_append, List.getElem?_eq_getElem h]
  cases hp : p L[k] <;> simp [hp]

theorem live_any (w : World) (n b : Nat) (l : List (Int × Nat)) (M : Int → Option Cn) (h : NetAt w n b l M) (hs : Sorts l.length) (hN : l.length < 1000000000) :
    Calls Try.prog 23 #[ptrTo n] w (Px fun (x : Value × List Int) e w' => e = .returned x.1 ∧ KeysOf x.2 l ∧ w'.ownsRow w.heap.size 3 1 x.1 (x.2.filter (liveK M)).length ((x.2.filter (liveK M)).map (Value.int .i64)) ∧ Keep [] w w') := by
  have hn0 := h.blk.cell 0
  simp at hn0
  have HN := hide h
  have hmax : maxLen ≥ 1000000001 := by decide
  obtain ⟨i0, hi, hz0, hz1, hz2⟩ := info_parts infoK
  go_enter Try.func23, Try.ntmps23
  go_wp2_with fail
  refine (keys_any _ _).mono ?_
  rintro e w1 ⟨rfl, rfl⟩
  go_wp2_with fail
  refine (sortedKeys_any ptrTo _ w.heap.size b l (HN.out.map.alloc _) (by simp) ((Blk.new w _ _).cell 0) hN hs).mono ?_
  rintro e w2 ⟨⟨v, L⟩, rfl, hrow, hK, hkp⟩
  have hkp0 := ((Keep.refl [] w).alloc _).then hkp
  have HN2 := hide (HN.out.keep hkp0 (by simp) (by simp) (by simp))
  have HK := hide hK
  have hsz := hkp0.size
  simp only at hrow
  rcases hrow with ⟨rfl, rfl⟩ | ⟨g, cap, d, rest, rfl, hA, hd⟩
  · clear hkp
    go_wp2
    go_loopw [3, 13] (fun o i wr => o = .slice none 0 0 ∧ i = .int .i64 0 ∧ wr = w2) (fun _ _ _ => 0)
    case atStart => exact ⟨rfl, rfl, rfl⟩
    case round =>
      obtain ⟨rfl, rfl, rfl⟩ := hrel
      go_wp2
      go_ret
      exact ⟨(_, []), rfl, HK.out, World.ownsRow_nil _ _ _ _, hkp0⟩
  · have hd' := hide hd
    have hLl := HK.out.2.2
    clear hkp hK hd
    go_wp2
    go_loopw [3, 13] (fun o i wr => liveRel w2 M L o i wr) (fun _ i _ => (L.length - intOf i).toNat)
    case atStart => exact ⟨0, rfl, by omega, World.ownsRow_nil _ _ _ _, Keep.refl _ _⟩
    case round =>
      obtain ⟨k, rfl, hkl, hown, hkr⟩ := hrel
      have HOWN := hide hown
      by_cases hlt : k < L.length
      · have HNr := hide (HN2.out.keep hkr (by simp) (by simp) (by simp))
        have hn1 := HNr.out.blk.cell 0
        simp at hn1
        have ck := (hA.keep hkr (by simp)).cell hlt
        have hdk := hd'.out k hlt
        rw [hdk] at ck
        have hin : L[k] ∈ l.map (·.1) := (HK.out.2.1 _).1 (List.getElem_mem hlt)
        have htf := hide (take_filter L (liveK M) k hlt)
        obtain ⟨q, hq⟩ : ∃ q, L[k] = q := ⟨_, rfl⟩
        rw [hq] at ck hin
        cases hget : AL.get l q with
        | none => exact absurd hin (AL.get_none.1 hget)
        | some c =>
          obtain ⟨x, hM, hC⟩ := HNr.out.conn q c hget
          have c4 := hC.c4
          have hl := run_lookup_map (KeyLaw.int Try.underlying3) Try.underlying58 HNr.out.map (zeroConn wr) q false
          rw [hget] at hl
          simp only [optV, Bool.false_eq_true, if_false] at hl
          have hli := hide (show ((k : Int) < (L.length : Int)) by omega)
          have hlk : liveK M q = !x.hung := by unfold liveK; rw [hM]
          have HLK := hide hlk
          have HQ := hide hq
          clear hq hget hM hlk hdk hown
          cases hh : x.hung
          · have HH := hide hh
            rw [hh] at c4
            clear hh
            have hown := HOWN.out
            have e : (L.take (k + 1)).filter (liveK M) = (L.take k).filter (liveK M) ++ [q] := by
              rw [htf.out, HQ.out, HLK.out, HH.out]; rfl
            have hE := hide e
            clear e
            have hlen : ((L.take k).filter (liveK M)).length ≤ k := by
              have := List.length_filter_le (liveK M) (L.take k)
              have h2 := List.length_take_le k L
              omega
            have hsr := hkr.size
            obtain ⟨F, hF⟩ : ∃ F, (L.take k).filter (liveK M) = F := ⟨_, rfl⟩
            rw [hF] at hown hlen
            have HF := hide hF
            clear hF HOWN htf
            go_wp2_with (at_builtin; refine wpList_append_own _ rfl _ _ 23 rfl w2.heap.size 3 i0 (.int .i64 0) 1 8 Try.underlying23 hi hz0 hz1 hz2 rfl (by decide) _ _ _ rfl (hown.alloc _) ⟨wr.heap.size, 0, none⟩ 1 1 [.int .i64 q] rfl rfl (cell_one_new _ _ _) (by simp [Value.oneCell']) (by omega) (by omega) (by simp; omega) ?_; intro v' w3 hown' hgrow hnil')
            refine ⟨⟨k + 1, rfl, by omega, ?_, ?_⟩, by simp [intOf] <;> omega⟩
            · rw [hE.out, HF.out]; simpa using hown'
            · rcases hown.2 with ⟨hv, _⟩ | ⟨g', cap', cur', hv, hbase, _⟩
              · subst hv
                exact (hkr.alloc _).then (Keep.of_grown (S := []) hgrow (fun k e => by cases e))
              · subst hv
                exact (hkr.alloc _).trans (Keep.of_grown (S := [g']) hgrow (fun k e _ => by cases e; simp)) (by simp) (by simp; omega)
          · have HH := hide hh
            rw [hh] at c4
            clear hh
            go_wp2
            refine ⟨⟨k + 1, rfl, by omega, ?_, hkr⟩, by simp [intOf] <;> omega⟩
            have e : (L.take (k + 1)).filter (liveK M) = (L.take k).filter (liveK M) := by
              rw [htf.out, HQ.out, HLK.out, HH.out]; simp
            rw [e]
            exact HOWN.out
      · go_wp2
        go_ret
        have e : L.take k = L := List.take_of_length_le (by omega)
        have := HOWN.out
        rw [e] at this
        exact ⟨(_, L), rfl, HK.out, owns_rebase this (by omega), hkp0.then hkr⟩
end Go.Proofs.Ytaahmjamkllphaa
