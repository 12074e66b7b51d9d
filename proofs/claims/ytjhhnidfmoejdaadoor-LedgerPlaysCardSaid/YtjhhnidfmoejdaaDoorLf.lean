import Derived.Test.YtjhhnidfmoejdaaDoorLo
import Derived.Test.YtjhhnidfmoejdaaDoorSrt8
namespace Go.Proofs.YtjhhnidfmoejdaaDoor
open Go.RowKit Go.Proofs.YtjhhnidfmoejdaaDoor.PLedgerPlays Go.Proofs.YtjhhnidfmoejdaaDoorW.PrintWords Go.Proofs.YtjhhnidfmoejdaaDoorW.PrintLast
set_option maxRecDepth 10000
set_option linter.unusedVariables false
set_option maxHeartbeats 1000000
def Rn (W w : World) (n : Nat) (S : Lg) (bs : List Nat) : Prop := ∃ p : Pl, p.n = n ∧ Sd W w p S ∧ ∀ b ∈ bs, b < w.heap.size ∧ ¬ p.F b
def RnPost (W w : World) (n : Nat) (S' : Lg) (bs : List Nat) (e : Ending) (w' : World) : Prop := e = .returned (.tuple #[]) ∧ Rn W w' n S' bs ∧ ∀ b ∈ bs, w'.heap[b]? = w.heap[b]?
section
variable {W w w' : World} {n : Nat} {S S' : Lg} {bs : List Nat}
theorem Rn.below (h : Rn W w n S bs) : Below W.heap.size W w := by obtain ⟨p, _, h, _⟩ := h; exact h.bel
theorem Rn.keep (h : Rn W w n S bs) (hk : Keep [] w w') : Rn W w' n S bs := by
  obtain ⟨p, hn, h, hb⟩ := h
  exact ⟨p, hn, h.keep hk, fun b hm => ⟨Nat.lt_of_lt_of_le (hb b hm).1 hk.size, (hb b hm).2⟩⟩
theorem Rn.add (h : Rn W w n S bs) (hk : Keep [] w w') {b : Nat} (h1 : w.heap.size ≤ b) (h2 : b < w'.heap.size) : Rn W w' n S (b :: bs) := by
  obtain ⟨p, hn, h, hb⟩ := h
  refine ⟨p, hn, h.keep hk, fun c hm => ?_⟩
  rcases List.mem_cons.1 hm with rfl | hm
  · exact ⟨h2, fun hF => by have := h.flt hF; omega⟩
  · exact ⟨Nat.lt_of_lt_of_le (hb c hm).1 hk.size, (hb c hm).2⟩
theorem Rn.other {T : List Nat} (h : Rn W w n S bs) (hk : Keep T w w') (hT : ∀ b ∈ T, b < w.heap.size → b ∈ bs) (hW : ∀ b ∈ T, W.heap.size ≤ b) : Rn W w' n S bs := by
  obtain ⟨p, hn, h, hb⟩ := h
  refine ⟨p, hn, h.move (fun k hf => hk.block k (h.flt hf) (fun hm => (hb k (hT k hm (h.flt hf))).2 hf)) (Keep.below_of h.bel hk hW), fun b hm => ⟨Nat.lt_of_lt_of_le (hb b hm).1 hk.size, (hb b hm).2⟩⟩
theorem Rn.call {f : Nat} {args : Array Value} (h : Rn W w n S bs) (hc : ∀ p : Pl, p.n = n → Sd W w p S → Calls Tryd.prog f args w (SdPost W w p S')) : Calls Tryd.prog f args w (RnPost W w n S' bs) := by
  obtain ⟨p, hn, h, hb⟩ := h
  refine (hc p hn h).mono ?_
  rintro e w' ⟨p', rfl, hn', hS, hG⟩
  refine ⟨rfl, ⟨p', hn'.trans hn, hS, fun b hm => ⟨Nat.lt_of_lt_of_le (hb b hm).1 hG.size, fun hF => ?_⟩⟩, fun b hm => hG.block b (hb b hm).1 (hb b hm).2⟩
  rcases hG.new b hF with h1 | h1
  · exact (hb b hm).2 h1
  · have := (hb b hm).1; omega
theorem rNew (hB : Below W.heap.size W w) : Calls Tryd.prog 6 #[] w (Px fun (n : Nat) e w' => e = .returned (ptrTo n) ∧ Rn W w' n Lg.new [] ∧ Keep [] w w') := by
  refine (lNew hB).mono ?_
  rintro e w' ⟨p, rfl, hS, hK, _⟩
  exact ⟨p.n, rfl, ⟨p, rfl, hS, by simp⟩, hK⟩
theorem rSaidPub (hT : Tab W) (h : Rn W w n S bs) {K : Nat} (hO : S.Ok K) (hK : K < 90000) (d rt : Bool) (q id : Int) (hi0 : 0 ≤ id) (hi1 : id ≤ 4294967295) (A : Option Addr) (m c : Nat) (tp pl : BA) :
    Calls Tryd.prog 7 #[ptrTo n, .iface PkPb (pubV d rt q id A m c tp pl)] w (RnPost W w n (S.sent d q id tp pl) bs) :=
  h.call fun p hn hS => hn ▸ saidPub hS hT hO hK d rt q id hi0 hi1 A m c tp pl
theorem rSaidRel (hT : Tab W) (h : Rn W w n S bs) {K : Nat} (hO : S.Ok K) (hK : K < 90000) (id code : Int) (hi0 : 0 ≤ id) (hi1 : id ≤ 4294967295) (A : Option Addr) (m c : Nat) :
    Calls Tryd.prog 7 #[ptrTo n, .iface PkAk (akV 6 id code A m c)] w (RnPost W w n (S.rel id code) bs) :=
  h.call fun p hn hS => hn ▸ saidRel hS hT hO hK id code hi0 hi1 A m c
theorem rHeardAck (h : Rn W w n S bs) {K : Nat} (hO : S.Ok K) (hK : K < 90000) (kind id code : Int) (hk : kind = 4 ∨ kind = 5 ∨ kind = 6 ∨ kind = 7) (A : Option Addr) (m c : Nat) :
    Calls Tryd.prog 8 #[ptrTo n, .iface PkAk (akV kind id code A m c)] w (RnPost W w n (S.heard kind id code) bs) :=
  h.call fun p hn hS => hn ▸ heardAck hS hO hK kind id code hk A m c
theorem rErrs (h : Rn W w n S bs) (hl : S.er.length < 100000) : Calls Tryd.prog 10 #[ptrTo n] w (Px fun (v : Value) e w' => e = .returned v ∧ Own Kd.string StrT w.heap.size w' v S.er ∧ Keep [] w w') := by
  obtain ⟨p, rfl, hS, _⟩ := h
  exact lErrs hS hl
theorem rDone (h : Rn W w n S bs) (hl : S.dn.length < 100000) : Calls Tryd.prog 11 #[ptrTo n] w (Px fun (v : Value) e w' => e = .returned v ∧ Own kX ExT w.heap.size w' v S.dn ∧ Keep [] w w') := by
  obtain ⟨p, rfl, hS, _⟩ := h
  exact lDone hS hl
theorem rOpen (h : Rn W w n S bs) {ks : List Int} (hks : ∀ k, S.M k ≠ none → k ∈ ks) (hl : ks.length < 100000) : Calls Tryd.prog 9 #[ptrTo n] w (Px fun (x : Value × List Int) e w' => e = .returned x.1 ∧ x.2.Pairwise (· < ·) ∧ (∀ k, k ∈ x.2 ↔ S.M k ≠ none) ∧ Own kX ExT w.heap.size w' x.1 (x.2.map (exAt S.M)) ∧ Keep [] w w') := by
  obtain ⟨p, rfl, hS, _⟩ := h
  have hmem : ∀ k, k ∈ p.l.map (·.1) ↔ S.M k ≠ none := fun k => by
    cases hg : AL.get p.l k with
    | none =>
      have h1 : k ∉ p.l.map (·.1) := AL.get_none.1 hg
      have h2 := hS.op.none k hg
      exact ⟨fun h => absurd h h1, fun h => absurd h2 h⟩
    | some q =>
      obtain ⟨x, hx, _⟩ := hS.op.at_ k q hg
      have h1 : k ∈ p.l.map (·.1) := AL.get_isSome.1 (by rw [hg]; rfl)
      exact ⟨fun _ => by rw [hx]; simp, fun _ => h1⟩
  have hlen : p.l.length ≤ ks.length := by
    have h1 : (p.l.map (·.1)).Nodup := hS.op.map.nodup
    have h2 := List.Nodup.length_le_of_subset h1 (fun k hk => hks k ((hmem k).1 hk))
    simpa using h2
  refine (lOpen hS (sorts_any _ (by omega)) (by omega)).mono ?_
  rintro e w' ⟨⟨v, L⟩, rfl, hK, hO, hk⟩
  exact ⟨(v, L), rfl, hK.1, fun k => (hK.2.1 k).trans (hmem k), hO, hk⟩
end
end Go.Proofs.YtjhhnidfmoejdaaDoor
