import Derived.Test.YtegnmdnflmlioaaEnts
namespace Go.Proofs.Ytegnmdnflmlioaa
open Go.RowKit Go.Proofs.YtegnmdnflmlioaaW.PrintWords Go.Proofs.YtegnmdnflmlioaaW.PrintLast
set_option maxRecDepth 10000
set_option linter.unusedVariables false
set_option maxHeartbeats 1000000
structure Mt (W w : World) (n b : Nat) (r : List En) (K : Nat) : Prop where
  ex : ∃ l, TimAt w n b l ∧ W.heap.size ≤ n ∧ W.heap.size ≤ b ∧ EntsOf r l ∧ r.length ≤ K ∧ ∀ p ∈ r, p.1.size ≤ 100
def KeepM (W w w' : World) : Prop := ∃ b l, MapAt w b Value.string (Value.int .i64) l ∧ W.heap.size ≤ b ∧ Keep [b] w w'
theorem KeepM.own {α : Type} {d : Kd α} {e base : Nat} {W w w' : World} {v : Value} {xs : List α} (h : KeepM W w w') (ho : Own d e base w v xs) : Own d e base w' v xs := by
  obtain ⟨b, l, hM, _, hk⟩ := h
  exact ho.keep hk (by simp; exact not_of_map hM _)
theorem KeepM.blk {W w w' : World} {q : Nat} {cs : Array Value} {T : TypeId} (h : KeepM W w w') (hb : Blk w q cs T) : Blk w' q cs T := by
  obtain ⟨b, l, hM, _, hk⟩ := h
  exact hb.keep hk (by simp; exact hM.ne_blk hb)
theorem KeepM.below {W w w' : World} (h : KeepM W w w') (hb : Below W.heap.size W w) : Below W.heap.size W w' := by
  obtain ⟨b, l, hM, h1, hk⟩ := h
  exact Keep.below_of hb hk (by simp; omega)
theorem KeepM.size {W w w' : World} (h : KeepM W w w') : w.heap.size ≤ w'.heap.size := by
  obtain ⟨b, l, hM, h1, hk⟩ := h; exact hk.size
theorem Mt.keep {W w w' : World} {n b : Nat} {r : List En} {K : Nat} (h : Mt W w n b r K) (hk : Keep [] w w') : Mt W w' n b r K := by
  obtain ⟨l, h1, h2, h3⟩ := h.ex
  exact ⟨l, h1.keep hk (by simp) (by simp), h2, h3⟩
theorem Mt.mono {W w : World} {n b : Nat} {r : List En} {K K' : Nat} (h : Mt W w n b r K) (hk : K ≤ K') : Mt W w n b r K' := by
  obtain ⟨l, h1, h2, h3, h4, h5, h6⟩ := h.ex
  exact ⟨l, h1, h2, h3, h4, by omega, h6⟩
theorem Mt.km {W w w' : World} {n b : Nat} {r : List En} {K : Nat} (h : Mt W w n b r K) (hk : Keep [b] w w') : KeepM W w w' := by
  obtain ⟨l, h1, h2, h3, h4, h5, h6⟩ := h.ex
  exact ⟨b, l, h1.2, h3, hk⟩
theorem Mt.base {W w : World} {n b : Nat} {r : List En} {K : Nat} (h : Mt W w n b r K) : W.heap.size ≤ b ∧ b < w.heap.size := by
  obtain ⟨l, h1, h2, h3, h4, h5, h6⟩ := h.ex
  exact ⟨h3, h1.2.lt⟩
theorem Mt.nlt {W w : World} {n b : Nat} {r : List En} {K : Nat} (h : Mt W w n b r K) : W.heap.size ≤ n ∧ n < w.heap.size := by
  obtain ⟨l, h1, h2, h3, h4, h5, h6⟩ := h.ex
  exact ⟨h2, h1.1.lt⟩
theorem Mt.off {S : List Nat} {W w w' : World} {n b : Nat} {r : List En} {K : Nat} (h : Mt W w n b r K) (hk : Keep S w w') (h1 : ∀ q ∈ S, W.heap.size ≤ q → q ≠ n ∧ q ≠ b) : Mt W w' n b r K := by
  obtain ⟨l, g1, g2, g3, g4⟩ := h.ex
  exact ⟨l, g1.keep hk (fun hm => (h1 n hm g2).1 rfl) (fun hm => (h1 b hm g3).2 rfl), g2, g3, g4⟩
theorem Mt.len {W w : World} {n b : Nat} {r : List En} {K : Nat} (h : Mt W w n b r K) : r.length ≤ K := by
  obtain ⟨l, h1, h2, h3, h4, h5, h6⟩ := h.ex
  exact h5
theorem Mt.small {W w : World} {n b : Nat} {r : List En} {K : Nat} (h : Mt W w n b r K) : ∀ p ∈ r, p.1.size ≤ 100 := by
  obtain ⟨l, h1, h2, h3, h4, h5, h6⟩ := h.ex
  exact h6
theorem tNew {W w : World} (h : W.heap.size ≤ w.heap.size) : Calls Try.prog 23 #[] w fun e w' => e = .returned (ptrTo (w.heap.size + 1)) ∧ Mt W w' (w.heap.size + 1) w.heap.size [] 0 ∧ Keep [] w w' := by
  refine (timNew_any w).mono ?_
  rintro e w' ⟨rfl, h1, h2⟩
  exact ⟨rfl, ⟨[], h1, by omega, by omega, ⟨.refl _, List.Pairwise.nil⟩, by simp, by simp⟩, h2⟩
theorem rm_len (r : List En) (k : BA) : (rmE r k).length ≤ r.length := List.length_filter_le _ _
theorem ins_len (r : List En) (x : En) : (insE r x).length = r.length + 1 := by simpa using (insE_perm r x).length_eq
theorem tSet {W w : World} {n b : Nat} {r : List En} {K : Nat} (h : Mt W w n b r K) (k : BA) (a : Int) (hk : k.size ≤ 100) :
    Calls Try.prog 27 #[ptrTo n, .string k, .int .i64 a] w fun e w' => e = .returned (.tuple #[]) ∧ Mt W w' n b (insE (rmE r k) (k, a)) (K + 1) ∧ Keep [b] w w' := by
  obtain ⟨l, h1, h2, h3, h4, h5, h6⟩ := h.ex
  refine (timSet_any n b l k a w h1).mono ?_
  rintro e w' ⟨rfl, hT, hK⟩
  refine ⟨rfl, ⟨_, hT, h2, h3, h4.set h1.2.nodup k a, ?_, ?_⟩, hK⟩
  · rw [ins_len]
    have := rm_len r k
    omega
  · intro p hp
    rcases List.mem_cons.1 ((insE_perm _ _).mem_iff.1 hp) with rfl | hp
    · exact hk
    · exact h6 p (List.mem_filter.1 hp).1
theorem EntsOf.any {r l : List En} (h : EntsOf r l) (hn : (l.map (·.1)).Nodup) (k : BA) : (AL.get l k).isSome = r.any fun p => decide (p.1 = k) := by
  rw [h.get hn]
  simp only [Option.isSome_map]
  rw [Bool.eq_iff_iff, List.find?_isSome, List.any_eq_true]
theorem tStop {W w : World} {n b : Nat} {r : List En} {K : Nat} (h : Mt W w n b r K) (k : BA) :
    Calls Try.prog 26 #[ptrTo n, .string k] w fun e w' => e = .returned (.bool (r.any fun p => decide (p.1 = k))) ∧ Mt W w' n b (rmE r k) K ∧ Keep [b] w w' := by
  obtain ⟨l, h1, h2, h3, h4, h5, h6⟩ := h.ex
  rw [← h4.any h1.2.nodup k]
  refine (timStop_any n b l k w h1).mono ?_
  rintro e w' ⟨rfl, hT, hK⟩
  have := rm_len r k
  exact ⟨rfl, ⟨_, hT, h2, h3, h4.del h1.2.nodup k, by omega, fun p hp => h6 p (List.mem_filter.1 hp).1⟩, hK⟩
def findE (r : List En) (k : BA) : Int × Bool := match r.find? (fun p => decide (p.1 = k)) with | some p => (p.2, true) | none => (0, false)
theorem tGet {W w : World} {n b : Nat} {r : List En} {K : Nat} (h : Mt W w n b r K) (k : BA) :
    Calls Try.prog 37 #[ptrTo n, .string k] w fun e w' => e = .returned (.tuple #[.int .i64 (findE r k).1, .bool (findE r k).2]) ∧ w = w' := by
  obtain ⟨l, h1, h2, h3, h4, h5, h6⟩ := h.ex
  have hg := h4.get h1.2.nodup k
  have e1 : (AL.get l k).getD 0 = (findE r k).1 := by rw [hg]; unfold findE; cases r.find? (fun p => decide (p.1 = k)) <;> rfl
  have e2 : (AL.get l k).isSome = (findE r k).2 := by rw [hg]; unfold findE; cases r.find? (fun p => decide (p.1 = k)) <;> rfl
  rw [← e1, ← e2]
  exact timGet_any n b l k w h1
theorem small_l {r l : List En} (h : EntsOf r l) (hs : ∀ p ∈ r, p.1.size ≤ 100) : ∀ p ∈ l, p.1.size ≤ maxLen := fun p hp => by
  have := hs p (h.1.mem_iff.2 hp)
  unfold maxLen; omega
theorem tDue {W w : World} {n b : Nat} {r : List En} {K : Nat} (h : Mt W w n b r K) (hK : K < 100000) (now : Int) :
    Calls Try.prog 28 #[ptrTo n, .int .i64 now] w (Px fun (v : Value) e w' => e = .returned v ∧ Own kE EntT w.heap.size w' v (r.filter fun p => decide (p.2 ≤ now)) ∧ Mt W w' n b (r.filter fun p => decide (now < p.2)) K ∧ Keep [b] w w') := by
  obtain ⟨l, h1, h2, h3, h4, h5, h6⟩ := h.ex
  refine (timDue_any n b l now w h1 (small_l h4 h6) (by have := h4.len; omega)).mono ?_
  rintro e w' ⟨⟨v, ds, xs⟩, rfl, hE, hds, hO, hT, hK⟩
  simp only at hE hds hO hT
  obtain rfl := hE.eq h4
  subst hds
  have := List.length_filter_le (fun p : En => decide (now < p.2)) xs
  exact ⟨v, rfl, hO, ⟨_, hT, h2, h3, h4.due h1.2.nodup now, by omega, fun p hp => h6 p (List.mem_filter.1 hp).1⟩, hK⟩
end Go.Proofs.Ytegnmdnflmlioaa
