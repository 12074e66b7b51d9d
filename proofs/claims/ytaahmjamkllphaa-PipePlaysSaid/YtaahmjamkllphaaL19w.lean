/- The document's Open for layer 19: the walk. -/
import Derived.Test.YtaahmjamkllphaaL19r
import Derived.LoopTactic
namespace Go.Proofs.Ytaahmjamkllphaa
open Go.RowKit Go.Proofs.Ytaahmjamkllphaa.PHang Go.Proofs.YtaahmjamkllphaaW.PrintWords
set_option maxRecDepth 10000
set_option linter.unusedVariables false
set_option maxHeartbeats 2000000

def insR (l : List R19.One) (done : Bool) (id : Int) : List R19.One := if done then l else R19.ins l id

def openRel (w1 : World) (l : List R19.One) (id : Int) (o dn i : Value) (wr : World) : Prop :=
  ∃ (k : Nat) (done : Bool) (out : List R19.One), dn = .bool done ∧ i = .int .i64 k ∧ k ≤ l.length ∧ Own kC ConnT w1.heap.size wr o out ∧ Keep [] w1 wr ∧ out ++ insR (l.drop k) done id = R19.ins l id ∧ out.length ≤ k + (if done then 1 else 0)

theorem rOpen_any (v : Value) (l : List R19.One) (base : Nat) (id : Int) (w : World) (hO : Own kC ConnT base w v l) (hl : l.length < 1000) (hb : base ≤ w.heap.size) :
    Calls Try.prog 27 #[v, .int .i64 id] w (Px fun (v' : Value) e w' => e = .returned (.tuple #[v', .int .i64 (R19.pOpen l id).2]) ∧ Own kC ConnT base w' v' (R19.pOpen l id).1 ∧ Keep [] w w') := by
  obtain ⟨A, c0, rfl, hlc, hC⟩ := hO.reads
  cases hk : R19.lk l id with
  | some c =>
    have hr : R19.pOpen l id = (l, 8) := by unfold R19.pOpen; rw [hk]
    rw [hr]
    obtain ⟨j, h1, _⟩ := R19.fnd_some l 0 id c hk
    have HF := hide (R19.find_f l id (by omega) (l.length + 1) (by omega))
    rw [h1] at HF
    have hj0 : 0 ≤ ((0 + j : Nat) : Int) := by omega
    obtain ⟨q, hq⟩ : ∃ q : Int, ((0 + j : Nat) : Int) = q := ⟨_, rfl⟩
    rw [hq] at HF hj0
    clear hk hr h1 hq
    go_enter Try.func27, Try.ntmps27
    go_wp2_with fail
    refine (switchboardref19_find.calls (l.length + 1) A c0 l id q _ hC hlc HF.out).mono ?_
    rintro e w1 ⟨rfl, hb1⟩
    go_wp2_with fail
    go_ret2
    exact ⟨_, rfl, hO.below hb1, Keep.of_below hb1⟩
  | none =>
    have hr : R19.pOpen l id = (R19.ins l id, 0) := by unfold R19.pOpen; rw [hk]
    rw [hr]
    have HF := hide (R19.find_f l id (by omega) (l.length + 1) (by omega))
    rw [R19.fnd_none l 0 id hk] at HF
    clear hk hr
    go_enter Try.func27, Try.ntmps27
    go_wp2_with fail
    refine (switchboardref19_find.calls (l.length + 1) A c0 l id (-1) _ hC hlc HF.out).mono ?_
    rintro e w1 ⟨rfl, hb1⟩
    have hO1 := hO.below hb1
    have hb1' : base ≤ w1.heap.size := by have := hb1.size; omega
    go_wp2_with fail
    go_loopw [6, 7, 18] (fun o dn i wr => openRel w1 l id o dn i wr) (fun _ _ i _ => l.length - (intOf i).toNat)
    case atStart => exact ⟨0, false, [], rfl, rfl, by omega, Own.fresh (Nat.le_refl _), (Keep.refl [] w1).alloc _, rfl, by simp⟩
    case round =>
      obtain ⟨k, done, out, rfl, rfl, hk, hOo, hKr, hI, hL⟩ := hrel
      have HI := hide hI
      clear hI
      have hOr := hO1.keep hKr (by simp)
      have hbr := hKr.size
      by_cases hlt : k < l.length
      · obtain ⟨c, hc⟩ : ∃ c, l[k] = c := ⟨_, rfl⟩
        obtain ⟨g, cap, hv, hg, d0, d1, d2, d3, d4, d5⟩ := own_conn hOr hlt c hc
        have hA : A = some ⟨g, 0, none⟩ := by injection hv
        subst hA
        clear hv
        have hd : l.drop k = c :: l.drop (k + 1) := by rw [List.drop_eq_getElem_cons hlt, hc]
        have HD := hide hd
        obtain ⟨c0_, c1_, c2_, c3_, c4_, c5_⟩ := c
        simp only at d0 d1 d2 d3 d4 d5
        have hlt' : (k : Int) < (l.length : Int) := by omega
        have HLT := hide hlt
        clear hc hd hlt
        have hKb := (Keep.refl [] wr).alloc (.cells #[.int .i64 c0_, .string c1_, .int .i64 c2_, .bool c3_, .string c4_, .bool c5_] ConnT)
        have hOb := hOo.keep hKb (by simp)
        cases done with
        | true =>
          simp only [if_true] at hL
          have HN := hide (show (out ++ [(⟨c0_, c1_, c2_, c3_, c4_, c5_⟩ : R19.One)]) ++ insR (l.drop (k + 1)) true id = R19.ins l id by
            rw [← HI.out, HD.out]; simp [insR])
          clear HI HD
          go_wp2_with (at_builtin; refine Own.append_law kC w1.heap.size rfl (.tmp 35) (.tmp 37) 46 ConnT _ _ rfl Try.underlying46 info52 rfl (by decide) (by decide) _ out ⟨c0_, c1_, c2_, c3_, c4_, c5_⟩ _ rfl _ (by simp) rfl (k52_mkM _ _ _ _) hOb (by first | omega | (simp; omega)) (by first | omega | (simp; omega)) ?_; intro v1 w2 hO2 hg2 hr2)
          exact ⟨⟨k + 1, true, _, rfl, rfl, by have := HLT.out; omega, hO2, (hKr.then hKb).grown_base (Nat.le_refl _) hg2 hr2, HN.out, by simp; omega⟩, by have := HLT.out; simp [intOf] <;> omega⟩
        | false =>
          simp only [Bool.false_eq_true, if_false] at hL
          have hln := HLT.out
          by_cases hins : id < c0_
          · have HN := hide (show ((out ++ [R19.newc id]) ++ [(⟨c0_, c1_, c2_, c3_, c4_, c5_⟩ : R19.One)]) ++ insR (l.drop (k + 1)) true id = R19.ins l id by
              rw [← HI.out, HD.out]; simp [insR, R19.ins, hins])
            clear HI HD
            have KB := hide (fun (w2 : World) (hg : (wr.alloc (.cells #[.int .i64 c0_, .string c1_, .int .i64 c2_, .bool c3_, .string c4_, .bool c5_] ConnT)).grownBy w2 u6.ownBlock) => show w2.cell? ⟨wr.heap.size, 0, none⟩ = some (.int .i64 c0_) ∧ w2.cell? ⟨wr.heap.size, 1, none⟩ = some (.string c1_) ∧ w2.cell? ⟨wr.heap.size, 2, none⟩ = some (.int .i64 c2_) ∧ w2.cell? ⟨wr.heap.size, 3, none⟩ = some (.bool c3_) ∧ w2.cell? ⟨wr.heap.size, 4, none⟩ = some (.string c4_) ∧ w2.cell? ⟨wr.heap.size, 5, none⟩ = some (.bool c5_) from by
              have hX := (Blk.new wr #[.int .i64 c0_, .string c1_, .int .i64 c2_, .bool c3_, .string c4_, .bool c5_] ConnT).of_block (w' := w2) (hg.block wr.heap.size (by simp) (fun e => by have := Kd.R_lt hOo _ e.symm; omega))
              exact ⟨hX.cell 0, hX.cell 1, hX.cell 2, hX.cell 3, hX.cell 4, hX.cell 5⟩)
            go_wp2_with (first
              | (at_builtin; refine Own.append_law kC w1.heap.size rfl (.tmp 30) (.tmp 33) 46 ConnT _ _ rfl Try.underlying46 info52 rfl (by decide) (by decide) _ out (R19.newc id) _ rfl _ (by simp) rfl (k52_mkM _ _ _ _) hOb (by first | omega | (simp; omega)) (by first | omega | (simp; omega)) ?_; intro v1 w2 hO2 hg2 hr2; obtain ⟨e0, e1, e2, e3, e4, e5⟩ := KB.out _ hg2; have hz2 : w1.heap.size ≤ w2.heap.size := Nat.le_trans (Nat.le_trans hbr (Nat.le_succ _)) (by have := hg2.size; simpa using this))
              | (at_builtin; refine Own.append_law kC w1.heap.size rfl (.tmp 35) (.tmp 37) 46 ConnT _ _ rfl Try.underlying46 info52 rfl (by decide) (by decide) _ (out ++ [R19.newc id]) ⟨c0_, c1_, c2_, c3_, c4_, c5_⟩ _ rfl _ (by simp) rfl (k52_mkM _ _ _ _) hO2 (by first | omega | (simp; omega)) (by first | omega | (simp; omega)) ?_; intro v2 w3 hO3 hg3 hr3))
            exact ⟨⟨k + 1, true, _, rfl, rfl, by have := HLT.out; omega, hO3, ((hKr.then hKb).grown_base (Nat.le_refl _) hg2 hr2).grown_base (Nat.le_refl _) hg3 hr3, HN.out, by simp; omega⟩, by have := HLT.out; simp [intOf] <;> omega⟩
          · have HN := hide (show (out ++ [(⟨c0_, c1_, c2_, c3_, c4_, c5_⟩ : R19.One)]) ++ insR (l.drop (k + 1)) false id = R19.ins l id by
              rw [← HI.out, HD.out]; simp [insR, R19.ins, hins])
            clear HI HD
            go_wp2_with (at_builtin; refine Own.append_law kC w1.heap.size rfl (.tmp 35) (.tmp 37) 46 ConnT _ _ rfl Try.underlying46 info52 rfl (by decide) (by decide) _ out ⟨c0_, c1_, c2_, c3_, c4_, c5_⟩ _ rfl _ (by simp) rfl (k52_mkM _ _ _ _) hOb (by first | omega | (simp; omega)) (by first | omega | (simp; omega)) ?_; intro v1 w2 hO2 hg2 hr2)
            exact ⟨⟨k + 1, false, _, rfl, rfl, by have := HLT.out; omega, hO2, (hKr.then hKb).grown_base (Nat.le_refl _) hg2 hr2, HN.out, by simp; omega⟩, by have := HLT.out; simp [intOf] <;> omega⟩
      · have hlk : k = l.length := by omega
        have hdn : l.drop k = [] := List.drop_of_length_le (by omega)
        rw [hdn] at HI
        cases done with
        | true =>
          simp only [if_true] at hL
          have HE := hide (show out = R19.ins l id by rw [← HI.out]; simp [insR])
          clear HI hdn
          go_wp2_with fail
          go_ret2
          exact ⟨_, rfl, by rw [← HE.out]; exact Kd.R_lower hOo (by omega), (Keep.of_below hb1).then hKr⟩
        | false =>
          simp only [Bool.false_eq_true, if_false] at hL
          have HE := hide (show out ++ [R19.newc id] = R19.ins l id by rw [← HI.out]; simp [insR, R19.ins])
          clear HI hdn
          go_wp2_with (at_builtin; refine Own.append_law kC w1.heap.size rfl (.tmp 42) (.tmp 45) 46 ConnT _ _ rfl Try.underlying46 info52 rfl (by decide) (by decide) _ out (R19.newc id) _ rfl _ (by simp) rfl (k52_mkM _ _ _ _) hOo (by first | omega | (simp; omega)) (by first | omega | (simp; omega)) ?_; intro v1 w2 hO2 hg2 hr2)
          go_ret2
          exact ⟨_, rfl, by rw [← HE.out]; exact Kd.R_lower hO2 (by omega), (Keep.of_below hb1).then (hKr.grown_base (Nat.le_refl _) hg2 hr2)⟩
end Go.Proofs.Ytaahmjamkllphaa
