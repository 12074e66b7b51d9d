import Derived.Test.YtbgondiibnjcgaaDoorIterR
import Derived.Test.YtbgondiibnjcgaaDoorMem
import Derived.StringKeys
namespace Go.Proofs.YtbgondiibnjcgaaDoor
open Go.RowKit Go.Maps Go.Proofs
set_option maxRecDepth 10000
set_option linter.unusedVariables false
set_option maxHeartbeats 1000000
abbrev StrT : Nat := 9
abbrev anyR : Value → Option (DataW Unit × List MemPlace) := fun _ => some (.lit (.bool true), [])
abbrev BA := ByteArray
def ofB (x : List UInt8) : ByteArray := ⟨x.toArray⟩
theorem ofB_data (b : ByteArray) : ofB b.data.toList = b := by unfold ofB; simp
def KeysOfS {ν : Type} (L : List BA) (l : List (BA × ν)) : Prop := L.Perm (l.map (·.1)) ∧ L.Pairwise (fun a b => a.data.toList ≤ b.data.toList)
theorem MapAt.owns {ν : Type} {vf : ν → Value} {w : World} {b : Nat} {l : List (BA × ν)} (h : MapAt w b Value.string vf l) (hs : ∀ p ∈ l, p.1.size ≤ maxLen) (hl : l.length ≤ maxLen) :
    ∃ D0 : DataW Unit, w.ownsMap Tryd.prog StrT anyR b l.length D0 ∧ Maps.size D0 = l.length ∧ (strKeys D0).Perm (l.map fun p => p.1.data.toList) := by
  obtain ⟨es, cl, hb, he, hn, hc, hd⟩ := h
  have hlen : es.size = l.length := by
    have := congrArg List.length he
    simpa [emb] using this
  have hkeys : es.toList.map (·.key) = l.map fun p => Value.string p.1 := by
    have := congrArg (List.map Prod.fst) he
    simpa [emb, List.map_map, Function.comp_def] using this
  have hK : ∀ x ∈ es.toList, ∃ p ∈ l, x.key = Value.string p.1 := by
    intro x hx
    have : x.key ∈ es.toList.map (·.key) := List.mem_map_of_mem hx
    rw [hkeys] at this
    obtain ⟨p, hp, e⟩ := List.mem_map.1 this
    exact ⟨p, hp, e.symm⟩
  have hrd : ∀ x ∈ es.toList, ∃ p ∈ l, x.key = Value.string p.1 ∧ Go.WideElems.rd Tryd.prog StrT anyR x = some (.string p.1.data.toList, .lit (.bool true)) := by
    intro x hx
    obtain ⟨p, hp, e⟩ := hK x hx
    refine ⟨p, hp, e, ?_⟩
    unfold Go.WideElems.rd
    rw [e, Go.WideMaps.keyOf_string_mk Tryd.underlying9 (hs p hp)]
    rfl
  have F : Go.WideElems.Fit Tryd.prog StrT anyR es cl := ⟨by omega, ⟨hc, hn, by
    rw [hkeys]
    refine List.pairwise_map.2 ?_
    have := List.pairwise_map.1 hd
    exact this.imp (fun hne e => hne (by injection e))⟩, fun x hx => by obtain ⟨p, _, _, h⟩ := hrd x hx; exact ⟨_, h⟩⟩
  refine ⟨_, ⟨es, cl, hb, F, by omega, rfl⟩, ?_, ?_⟩
  · show List.length _ = _
    rw [length_sorted]; simp [hlen]
  · have hp := Go.WideShapes.sorted_perm (es.toList.map (Go.WideElems.rg Tryd.prog StrT anyR))
    refine (hp.map fun p => strOf p.1).trans ?_
    have e : (es.toList.map (Go.WideElems.rg Tryd.prog StrT anyR)).map (fun p => strOf p.1) = l.map fun p => p.1.data.toList := by
      have e2 : es.toList.map (fun x => strOf (Go.WideElems.rg Tryd.prog StrT anyR x).1) = es.toList.map (fun x => (match x.key with | .string s => s.data.toList | _ => [])) := by
        refine List.map_congr_left fun x hx => ?_
        obtain ⟨p, _, ek, h⟩ := hrd x hx
        rw [Go.WideElems.rg_of h, ek]
        rfl
      rw [List.map_map]
      show es.toList.map (fun x => strOf (Go.WideElems.rg Tryd.prog StrT anyR x).1) = _
      rw [e2]
      have e3 : es.toList.map (fun x => (match x.key with | .string s => s.data.toList | _ => [])) = (es.toList.map (·.key)).map (fun v => (match v with | .string s => s.data.toList | _ => [])) := by rw [List.map_map]; rfl
      rw [e3, hkeys, List.map_map]
      rfl
    rw [e]
theorem keysS_any (b : Nat) (w : World) : Calls Tryd.prog 40 #[.map (some b)] w fun e w' => e = .returned (.func (.func 50) #[] #[.pointer (some ⟨w.heap.size, 0, none⟩)]) ∧ w' = w.alloc (.cells #[.map (some b)] 81) :=
  callsIn_wide.1 (Tryd.maps_Keys_40 (some b) w)
theorem sortedS_any {ν : Type} {vf : ν → Value} (w : World) (b : Nat) (l : List (BA × ν)) (hM : MapAt w b Value.string vf l) (hs : ∀ p ∈ l, p.1.size ≤ maxLen) (hl : l.length < 1000000) :
    Calls Tryd.prog 39 #[.func (.func 50) #[] #[.pointer (some ⟨w.heap.size, 0, none⟩)]] (w.alloc (.cells #[.map (some b)] 81)) (Px fun (x : Value × List BA) e w' => e = .returned x.1 ∧ w'.ownsRow (w.heap.size + 1) StrT 1 x.1 x.2.length (x.2.map Value.string) ∧ KeysOfS x.2 l ∧ Keep [] (w.alloc (.cells #[.map (some b)] 81)) w') := by
  have hml : maxLen ≥ 1000000 := by decide
  obtain ⟨D0, hown, hsz, hperm⟩ := hM.owns hs (by omega)
  refine (callsIn_wide.1 (Tryd.slices_Sorted_keys_39_40 b _ D0 _ w hown (by omega) (by omega))).mono ?_
  rintro e w' ⟨v, ss, rfl, hS, hrow, _, hb⟩
  refine ⟨(v, (ss.mergeSort leB).map ofB), rfl, ?_, ⟨?_, ?_⟩, Keep.of_below hb⟩
  · have : ((ss.mergeSort leB).map ofB).map Value.string = (ss.mergeSort leB).map encStr := by rw [List.map_map]; rfl
    simp only [this, List.length_map, List.length_mergeSort]
    simpa using hrow
  · have h1 := ((List.mergeSort_perm ss leB).trans (hS.trans hperm)).map ofB
    refine h1.trans ?_
    rw [List.map_map]
    have : (ofB ∘ fun p : BA × ν => p.1.data.toList) = fun p => p.1 := by funext p; exact ofB_data p.1
    rw [this]
  · refine List.pairwise_map.2 ?_
    have tr : ∀ a b c : List UInt8, leB a b = true → leB b c = true → leB a c = true := fun a b c h1 h2 => by simp only [leB, decide_eq_true_eq] at *; exact List.le_trans h1 h2
    have tot : ∀ a b : List UInt8, (leB a b || leB b a) = true := fun a b => by simp only [leB, Bool.or_eq_true, decide_eq_true_eq]; exact List.le_total a b
    refine (List.pairwise_mergeSort tr tot ss).imp fun h => ?_
    simpa [leB, ofB] using h
end Go.Proofs.YtbgondiibnjcgaaDoor
