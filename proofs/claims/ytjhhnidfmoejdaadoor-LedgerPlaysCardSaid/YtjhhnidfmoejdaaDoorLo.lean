import Derived.Test.YtjhhnidfmoejdaaDoorLd
namespace Go.Proofs.YtjhhnidfmoejdaaDoor
open Go.RowKit Go.Proofs.YtjhhnidfmoejdaaDoor.PLedgerPlays Go.Proofs.YtjhhnidfmoejdaaDoorW.PrintWords Go.Proofs.YtjhhnidfmoejdaaDoorW.PrintLast
set_option maxRecDepth 10000
set_option linter.unusedVariables false
set_option maxHeartbeats 1000000
def exAt (M : Int → Option SX) (k : Int) : SX := (M k).getD ⟨0, ⟨#[]⟩, ⟨#[]⟩, 0, false, false⟩
def openRel (w2 : World) (M : Int → Option SX) (L : List Int) (o i : Value) (wr : World) : Prop :=
  ∃ k : Nat, i = .int .i64 k ∧ k ≤ L.length ∧ Own kX ExT w2.heap.size wr o ((L.take k).map (exAt M)) ∧ Keep [] w2 wr
theorem lOpen {W w : World} {p : Pl} {S : Lg} (h : Sd W w p S) (hs : Sorts p.l.length) (hN : p.l.length < 100000) :
    Calls Tryd.prog 9 #[ptrTo p.n] w (Px fun (x : Value × List Int) e w' => e = .returned x.1 ∧ KeysOf x.2 p.l ∧ Own kX ExT w.heap.size w' x.1 (x.2.map (exAt S.M)) ∧ Keep [] w w') := by
  have hn0 : w.cell? ⟨p.n, 0, none⟩ = some (.map (some p.bo)) := h.box.cell 0
  have HN := hide h
  go_enter Tryd.func9, Tryd.ntmps9
  go_wp2_with fail
  refine (keys_any _ _).mono ?_
  rintro e w1 ⟨rfl, rfl⟩
  go_wp2_with fail
  refine (sortedKeys_any ptrTo _ w.heap.size p.bo p.l (HN.out.op.map.alloc _) (by simp) ((Blk.new w _ _).cell 0) (by omega) hs).mono ?_
  rintro e w2 ⟨⟨v, L⟩, rfl, hrow, hK, hkp⟩
  have hkp0 := ((Keep.refl [] w).alloc _).then hkp
  have HN2 := hide (HN.out.keep hkp0)
  have HK := hide hK
  have hsz := hkp0.size
  simp only at hrow
  rcases hrow with ⟨rfl, rfl⟩ | ⟨g, cap, d, rest, rfl, hA, hd⟩
  · clear hkp
    go_wp2
    go_loopw [3, 13] (fun o i wr => o = .slice none 0 0 ∧ i = .int .i64 0 ∧ wr = w2) (fun _ _ _ => 0)
    case atStart => exact ⟨rfl, rfl, rfl⟩
    case round =>
      obtain ⟨rfl, rfl, rfl⟩ := hrel
      go_wp2
      go_ret
      exact ⟨(_, []), rfl, HK.out, Own.nil _ _ _ _, hkp0⟩
  · have hd' := hide hd
    have hLl := HK.out.2.2
    clear hkp hK hd
    go_wp2
    go_loopw [3, 13] (fun o i wr => openRel w2 S.M L o i wr) (fun _ i _ => (L.length - intOf i).toNat)
    case atStart => exact ⟨0, rfl, by omega, Own.nil _ _ _ _, Keep.refl _ _⟩
    case round =>
      obtain ⟨k, rfl, hkl, hown, hkr⟩ := hrel
      have HOWN := hide hown
      by_cases hlt : k < L.length
      · have hSr := HN2.out.keep hkr
        have HNr := hide hSr
        have hn1 : wr.cell? ⟨p.n, 0, none⟩ = some (.map (some p.bo)) := hSr.box.cell 0
        have ck := (hA.keep hkr (by simp)).cell hlt
        have hdk := hd'.out k hlt
        rw [hdk] at ck
        have hin : L[k] ∈ p.l.map (·.1) := (HK.out.2.1 _).1 (List.getElem_mem hlt)
        have htf := hide (show (L.take (k + 1)).map (exAt S.M) = (L.take k).map (exAt S.M) ++ [exAt S.M L[k]] from by rw [List.take_succ_eq_append_getElem hlt, List.map_append]; rfl)
        obtain ⟨q, hq⟩ : ∃ q, L[k] = q := ⟨_, rfl⟩
        rw [hq] at ck hin htf
        cases hget : AL.get p.l q with
        | none => exact absurd hin (AL.get_none.1 hget)
        | some c =>
          obtain ⟨⟨x0, x1, x2, x3, x4, x5⟩, hM, hC⟩ := hSr.op.at_ q c hget
          have c0 : wr.cell? ⟨c, 0, none⟩ = some (.int .u32 x0) := hC.cell 0
          have c1 : wr.cell? ⟨c, 1, none⟩ = some (.string x1) := hC.cell 1
          have c2 : wr.cell? ⟨c, 2, none⟩ = some (.string x2) := hC.cell 2
          have c3 : wr.cell? ⟨c, 3, none⟩ = some (.int .i64 x3) := hC.cell 3
          have c4 : wr.cell? ⟨c, 4, none⟩ = some (.bool x4) := hC.cell 4
          have c5 : wr.cell? ⟨c, 5, none⟩ = some (.bool x5) := hC.cell 5
          have hl := lookX hSr.op q
          rw [hget] at hl
          simp only at hl
          have hex : exAt S.M q = ⟨x0, x1, x2, x3, x4, x5⟩ := by unfold exAt; rw [hM]; rfl
          rw [hex] at htf
          have hlen : ((L.take k).map (exAt S.M)).length = k := by simp; omega
          have hsr := hkr.size
          obtain ⟨F, hF⟩ : ∃ F, (L.take k).map (exAt S.M) = F := ⟨_, rfl⟩
          rw [hF] at hown hlen htf
          obtain ⟨oA, oc, ho⟩ := hown.slice
          subst ho
          have HO := hide hown
          have hli : ((k : Int) < (L.length : Int)) := by omega
          clear hq hget hM hdk hown hF hSr hC hex HOWN
          go_wp2_with (at_builtin; refine Own.append_law kX w2.heap.size rfl (.tmp 17) (.tmp 26) ExsT ExT _ _ rfl Tryd.underlying37 infoX rfl (by decide) (by decide) (.slice oA F.length oc) F ⟨x0, x1, x2, x3, x4, x5⟩ _ rfl wr.heap.size rfl rfl (k66_mkM _ _ _ _) HO.out (by omega) (by omega) ?_; intro v1 w3 hO3 hg3 hr3)
          refine ⟨⟨k + 1, rfl, by omega, by rw [htf.out]; exact hO3, ?_⟩, by simp [intOf] <;> omega⟩
          exact hkr.trans (Keep.of_grown (S := (Value.slice oA F.length oc).ownBlock.toList) hg3 (fun k e _ => by simp [e])) (by simp) (fun x hx hlt => by have := hr3 x (by simpa using hx); omega)
      · go_wp2
        go_ret
        have e : L.take k = L := List.take_of_length_le (by omega)
        have := HOWN.out
        rw [e] at this
        exact ⟨(_, L), rfl, HK.out, this.lower (by omega), hkp0.then hkr⟩
end Go.Proofs.YtjhhnidfmoejdaaDoor
