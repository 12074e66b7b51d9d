import Derived.Test.YtjhhnidfmoejdaaDoorW25
import Derived.Test.YtjhhnidfmoejdaaDoorJone
import Derived.Test.YtjhhnidfmoejdaaDoorA25
namespace Go.Proofs.YtjhhnidfmoejdaaDoor
open Go.RowKit Go.Lib Go.Proofs.YtjhhnidfmoejdaaDoor.PLedgerPlays Go.Proofs.YtjhhnidfmoejdaaDoorW.PrintWords Go.Proofs.YtjhhnidfmoejdaaDoorW.PrintLast
set_option maxRecDepth 10000
set_option linter.unusedVariables false
set_option linter.unusedSimpArgs false
set_option maxHeartbeats 2000000
namespace R25
theorem mAnswer {w0 w : World} {v : Vs} {x : Rx} (hB : Below w0.heap.size w0 w) (h : Rmem w0.heap.size w v x) (hl : x.O.length < 1000) (hD : x.D.length < 1000) (hT : x.T.length < 1000) (kind id code : Int) (hk : kind = 4 ∨ kind = 5 ∨ kind = 6 ∨ kind = 7) :
    Calls Tryd.prog 27 #[v.val x.n, .int .i64 kind, .int .i64 id, .int .i64 code] w (RPost w0 w v (x.answer kind id code)) := by
  unfold Rx.answer
  by_cases h6 : kind = 6
  · subst h6
    rw [if_pos rfl]
    exact ans_rel hB h hT id code
  · rw [if_neg h6]
    by_cases hp : place id 0 x.O < 0
    · rw [if_pos hp]
      exact ans_none hB h hl kind id code h6 hp
    · rw [if_neg hp]
      have hpl := place_lt id x.O 0
      obtain ⟨j, hj⟩ : ∃ j : Nat, place id 0 x.O = (j : Int) := ⟨(place id 0 x.O).toNat, by omega⟩
      have hjl : j < x.O.length := by omega
      rw [hj, rdR_at x.O j hjl]
      rcases hk with rfl | rfl | rfl | rfl
      · exact ans_four hB h hl hD id code j hjl hj _ rfl
      · simp only [if_true]
        by_cases hc : 128 ≤ code
        · cases h4 : (x.O[j]).f4 with
          | false => rw [if_pos ⟨hc, rfl⟩]; exact ans_drop hB h hl hD id code j hjl hj _ rfl hc h4
          | true => rw [if_neg (by simp)]; exact ans_came hB h hl hD id code j hjl hj _ rfl hc h4
        · rw [if_neg (fun h => hc h.1)]
          exact ans_good hB h hl hD id code j hjl hj _ rfl (by omega)
      · exact absurd rfl h6
      · simp only [show ¬ (7 : Int) = 5 by decide, if_false]
        cases h4 : (x.O[j]).f4 with
        | false => rw [if_neg (by simp)]; exact ans_early hB h hl hD id code j hjl hj _ rfl h4
        | true =>
          rw [if_pos (by simp)]
          have := ans_done hB h hl hD id code j hjl hj _ rfl h4
          unfold Rx.over at this
          rw [h4] at this
          exact this
structure Dy (W w : World) (n : Nat) (S : Lg) (x : Rx) (v : Vs) (cs : List Nat) : Prop where
  rn : ∃ bs, Rn W w n S bs ∧ ∀ k, k ∈ cs ∨ v.in_ k → k ∈ bs
  m : Rmem W.heap.size w v x
  ap : ∀ c ∈ cs, ¬ v.in_ c
section
variable {W w w' : World} {n : Nat} {S S' : Lg} {x x' : Rx} {v : Vs} {cs : List Nat}
theorem Dy.below (h : Dy W w n S x v cs) : Below W.heap.size W w := by obtain ⟨_, h, _⟩ := h.rn; exact h.below
theorem Dy.lt (h : Dy W w n S x v cs) {c : Nat} (hc : c ∈ cs) : c < w.heap.size := by
  obtain ⟨bs, h1, h2⟩ := h.rn
  obtain ⟨p, _, _, hb⟩ := h1
  exact (hb c (h2 c (Or.inl hc))).1
theorem Dy.keep (h : Dy W w n S x v cs) (hk : Keep [] w w') : Dy W w' n S x v cs := by
  obtain ⟨bs, h1, h2⟩ := h.rn
  exact ⟨⟨bs, h1.keep hk, h2⟩, h.m.keep hk, h.ap⟩
theorem Dy.add (h : Dy W w n S x v cs) (hk : Keep [] w w') {b : Nat} (h1 : w.heap.size ≤ b) (h2 : b < w'.heap.size) : Dy W w' n S x v (b :: cs) := by
  obtain ⟨bs, h3, h4⟩ := h.rn
  refine ⟨⟨b :: bs, h3.add hk h1 h2, fun k hk' => ?_⟩, h.m.keep hk, fun c hc => ?_⟩
  · rcases hk' with hk' | hk'
    · rcases List.mem_cons.1 hk' with rfl | hk'
      · simp
      · exact List.mem_cons_of_mem _ (h4 k (Or.inl hk'))
    · exact List.mem_cons_of_mem _ (h4 k (Or.inr hk'))
  · rcases List.mem_cons.1 hc with rfl | hc
    · intro hi; have := (h.m.lt hi).2; omega
    · exact h.ap c hc
theorem Dy.sub {cs' : List Nat} (h : Dy W w n S x v cs) (hs : ∀ c ∈ cs', c ∈ cs) : Dy W w n S x v cs' := by
  obtain ⟨bs, h1, h2⟩ := h.rn
  exact ⟨⟨bs, h1, fun k hk => h2 k (hk.imp_left (hs k))⟩, h.m, fun c hc => h.ap c (hs c hc)⟩
theorem Dy.other (h : Dy W w n S x v cs) {c : Nat} (hc : c ∈ cs) (hW : W.heap.size ≤ c) (hk : Keep [c] w w') : Dy W w' n S x v cs := by
  obtain ⟨bs, h1, h2⟩ := h.rn
  exact ⟨⟨bs, h1.other hk (fun b hb _ => by simp at hb; subst hb; exact h2 _ (Or.inl hc)) (fun b hb => by simp at hb; omega), h2⟩, h.m.off (fun k hi => hk.block k (h.m.lt hi).2 (by simp; rintro rfl; exact h.ap _ hc hi)), h.ap⟩
def DyPost (W w : World) (n : Nat) (S' : Lg) (x : Rx) (v : Vs) (cs : List Nat) (e : Ending) (w' : World) : Prop := e = .returned (.tuple #[]) ∧ Dy W w' n S' x v cs ∧ ∀ c ∈ cs, w'.heap[c]? = w.heap[c]?
theorem Dy.call {f : Nat} {args : Array Value} (h : Dy W w n S x v cs) (hc : ∀ bs, Rn W w n S bs → Calls Tryd.prog f args w (RnPost W w n S' bs)) : Calls Tryd.prog f args w (DyPost W w n S' x v cs) := by
  obtain ⟨bs, h1, h2⟩ := h.rn
  refine (hc bs h1).mono ?_
  rintro e w' ⟨rfl, hR, hb⟩
  exact ⟨rfl, ⟨⟨bs, hR, h2⟩, h.m.off fun k hi => hb k (h2 k (Or.inr hi)), h.ap⟩, fun c hc => hb c (h2 c (Or.inl hc))⟩
def DrPost (W w : World) (n : Nat) (S : Lg) (x' : Rx) (cs : List Nat) : Ending → World → Prop := Px fun (v' : Vs) e w' => e = .returned (v'.val x'.n) ∧ Dy W w' n S x' v' cs ∧ ∀ c ∈ cs, w'.heap[c]? = w.heap[c]?
theorem Dy.ref {f : Nat} {args : Array Value} (h : Dy W w n S x v cs) (hc : Calls Tryd.prog f args w (RPost W w v x')) : Calls Tryd.prog f args w (DrPost W w n S x' cs) := by
  refine hc.mono ?_
  rintro e w' ⟨v', rfl, hm, hn, hk, hB⟩
  obtain ⟨bs, h1, h2⟩ := h.rn
  obtain ⟨p, hpn, hS, hb⟩ := h1
  refine ⟨v', rfl, ⟨⟨cs ++ v'.bs, ⟨p, hpn, hS.move (fun k hf => hk.2 k (hS.flt hf) (fun hi => (hb k (h2 k (Or.inr hi))).2 hf)) hB, fun b hm' => ?_⟩, fun k hk' => ?_⟩, hm, fun c hc hi => ?_⟩, fun c hc => hk.2 c ?_ (h.ap c hc)⟩
  · rcases List.mem_append.1 hm' with hm' | hm'
    · have := hb b (h2 b (Or.inl hm'))
      exact ⟨Nat.lt_of_lt_of_le this.1 hk.1, this.2⟩
    · have hi := Vs.mem.1 hm'
      refine ⟨(hm.lt hi).2, fun hF => ?_⟩
      rcases hn b hi with h3 | h3
      · exact (hb b (h2 b (Or.inr h3))).2 hF
      · have := hS.flt hF; omega
  · rcases hk' with hk' | hk'
    · exact List.mem_append.2 (Or.inl hk')
    · exact List.mem_append.2 (Or.inr (Vs.mem.2 hk'))
  · rcases hn c hi with h3 | h3
    · exact h.ap c hc h3
    · have := (hb c (h2 c (Or.inl hc))).1; omega
  · exact (hb c (h2 c (Or.inl hc))).1
end
end R25
section
variable {W w w' : World} {n : Nat} {S S' : Lg} {bs : List Nat}
theorem rHeardPub (h : Rn W w n S bs) (d rt : Bool) (q id : Int) (hvb : 0 ≤ (AL.get S.tk id).getD 0 ∧ (AL.get S.tk id).getD 0 < 1000000) (hnb : 0 ≤ S.nw ∧ S.nw < 1000000) (A : Option Addr) (m c : Nat) (tp pl : BA) :
    Calls Tryd.prog 8 #[ptrTo n, .iface PkPb (pubV d rt q id A m c tp pl)] w (RnPost W w n (S.came q id) bs) :=
  h.call fun p hn hS => hn ▸ heardPub hS d rt q id hvb hnb A m c tp pl
theorem rConThere (h : Rn W w n S bs) (code : Int) (A : Option Addr) (m c : Nat) :
    Calls Tryd.prog 7 #[ptrTo n, .iface PkCn (.agg #[.bool true, .int .u8 code, .slice A m c])] w (RnPost W w n S bs) :=
  h.call fun p hn hS => hn ▸ saidCon_there hS code A m c
theorem rConNew (h : Rn W w n S bs) (code : Int) (A : Option Addr) (m c : Nat) :
    Calls Tryd.prog 7 #[ptrTo n, .iface PkCn (.agg #[.bool false, .int .u8 code, .slice A m c])] w (RnPost W w n { S with M := fun _ => none, tk := [] } bs) :=
  h.call fun p hn hS => hn ▸ saidCon_new hS code A m c
theorem rPing (h : Rn W w n S bs) (v : Value) : Calls Tryd.prog 7 #[ptrTo n, .iface PkPi v] w (RnPost W w n S bs) :=
  h.call fun p hn hS => hn ▸ saidPing hS v
theorem rBye (h : Rn W w n S bs) (v : Value) : Calls Tryd.prog 8 #[ptrTo n, .iface PkBy v] w (RnPost W w n S bs) :=
  h.call fun p hn hS => hn ▸ heardBye hS v
end
end Go.Proofs.YtjhhnidfmoejdaaDoor
