/- Layer 19: which connections live; Stat's contract for a quiet region. -/
import Derived.Test.YtaahmjamkllphaaS19
import Derived.Test.YtaahmjamkllphaaLive
import Derived.Laws.OwnMore
import Derived.Deep.QuietTactic
import Derived.RegionTactic
namespace Go.Proofs.Ytaahmjamkllphaa
open Go.RowKit Go.Proofs.Ytaahmjamkllphaa.PHang Go.Proofs.YtaahmjamkllphaaW.PrintWords
set_option maxRecDepth 10000
set_option linter.unusedVariables false
set_option maxHeartbeats 2000000

namespace R19
theorem sorted_ext : ∀ {L M : List Int}, L.Pairwise (· < ·) → M.Pairwise (· < ·) → (∀ x, x ∈ L ↔ x ∈ M) → L = M
  | [], [], _, _, _ => rfl
  | [], b :: M, _, _, h => by have := (h b).2 (by simp); simp at this
  | a :: L, [], _, _, h => by have := (h a).1 (by simp); simp at this
  | a :: L, b :: M, h1, h2, h => by
    have a1 := (List.pairwise_cons.1 h1).1
    have b1 := (List.pairwise_cons.1 h2).1
    have e : a = b := by
      have g1 := (h a).1 (by simp)
      have g2 := (h b).2 (by simp)
      simp only [List.mem_cons] at g1 g2
      rcases g1 with g1 | g1
      · exact g1
      · rcases g2 with g2 | g2
        · exact g2.symm
        · have := a1 b g2; have := b1 a g1; omega
    subst e
    have ih := sorted_ext (List.pairwise_cons.1 h1).2 (List.pairwise_cons.1 h2).2 (fun x => by
      constructor
      · intro hx
        have := (h x).1 (by simp [hx])
        simp only [List.mem_cons] at this
        rcases this with rfl | this
        · exact absurd (a1 x hx) (by omega)
        · exact this
      · intro hx
        have := (h x).2 (by simp [hx])
        simp only [List.mem_cons] at this
        rcases this with rfl | this
        · exact absurd (b1 x hx) (by omega)
        · exact this)
    rw [ih]

theorem lk_none_iff (l : List One) (x : Int) : lk l x = none ↔ x ∉ l.map (·.f0) := by
  induction l with
  | nil => simp [lk]
  | cons y t ih =>
    simp only [lk, List.map_cons, List.mem_cons, not_or]
    by_cases h : y.f0 = x
    · rw [if_pos h]; simp [h]
    · rw [if_neg h, ih]
      constructor
      · intro h2; exact ⟨fun e => h e.symm, h2⟩
      · intro h2; exact h2.2

theorem lk_at {l : List One} (hr : l.Pairwise (fun x y => x.f0 < y.f0)) {c : One} (hc : c ∈ l) : lk l c.f0 = some c := by
  induction l with
  | nil => simp at hc
  | cons y t ih =>
    have h1 := (List.pairwise_cons.1 hr).1
    have h2 := (List.pairwise_cons.1 hr).2
    simp only [lk]
    rcases List.mem_cons.1 hc with rfl | hc'
    · rw [if_pos rfl]
    · have := h1 c hc'
      rw [if_neg (by omega)]
      exact ih h2 hc'

def live (l : List One) : List Int := (l.filter (fun c => !c.f5)).map (·.f0)

theorem Same.keys {w : World} {n b : Nat} {Lm : List (Int × Nat)} {M : Int → Option Cn} {l : List One} {N : Nat} {L : List Int} (h : Same M l N) (h3 : NetAt w n b Lm M) (hK : KeysOf L Lm) : L = l.map (·.f0) :=
  sorted_ext hK.1 (rise_iff.1 h.rise) (fun x => by
    rw [hK.2.1]
    have e1 : x ∉ Lm.map (·.1) ↔ x ∉ l.map (·.f0) := by
      show x ∉ AL.keys Lm ↔ _
      rw [← AL.get_none, ← lk_none_iff]
      constructor
      · intro h1
        have := h3.none x h1
        rw [h.look] at this
        simpa using this
      · intro h1
        exact netNone h3 (by rw [h.look, h1]; rfl)
    constructor
    · intro h1; exact Decidable.byContradiction fun h2 => (e1.2 h2) h1
    · intro h1; exact Decidable.byContradiction fun h2 => (e1.1 h2) h1)

theorem filter_map_live (M : Int → Option Cn) (l : List One) (hm : ∀ c ∈ l, liveK M c.f0 = !c.f5) : (l.map (·.f0)).filter (liveK M) = live l := by
  induction l with
  | nil => rfl
  | cons y t ih =>
    have h1 := hm y (by simp)
    have h2 := ih (fun c hc => hm c (by simp [hc]))
    unfold live at *
    simp only [List.map_cons, List.filter_cons, h1]
    cases y.f5 <;> simp [h2]

theorem Same.lives {M : Int → Option Cn} {l : List One} {N : Nat} (h : Same M l N) : (l.map (·.f0)).filter (liveK M) = live l :=
  filter_map_live M l fun c hc => by
    unfold liveK
    rw [h.look, lk_at h.rise hc]
    rfl

theorem live_len (l : List One) : (live l).length ≤ l.length := by unfold live; rw [List.length_map]; exact List.length_filter_le _ _

theorem live_take (l : List One) (k : Nat) (h : k < l.length) (c : One) (hc : l[k] = c) : live (l.take (k + 1)) = live (l.take k) ++ if c.f5 then [] else [c.f0] := by
  unfold live
  rw [List.take_add_one, List.filter_append, List.getElem?_eq_getElem h, hc, List.map_append]
  cases hp : c.f5 <;> simp [hp]
end R19

theorem own_reads {w : World} {base n : Nat} {e : TypeId} {v : Value} {xs : List Int} (h : w.ownsRow base e 1 v n (xs.map (Value.int .i64))) :
    ∃ A cap, v = .slice A xs.length cap ∧ ∀ (j : Nat) (x : Int), xs[j]? = some x → ∃ g, A = some ⟨g, 0, none⟩ ∧ g < w.heap.size ∧ w.cell? ⟨g, j, none⟩ = some (.int .i64 x) := by
  have hl := h.1
  simp at hl
  rcases h.2 with ⟨rfl, rfl⟩ | ⟨g, cap, cur, rfl, hb, hg, _⟩
  · refine ⟨none, 0, by rw [hl], fun j x hx => ?_⟩
    have := (List.getElem?_eq_some_iff.1 hx).1
    omega
  · refine ⟨_, cap, by rw [hl], fun j x hx => ⟨g, rfl, (Array.getElem?_eq_some_iff.1 hg).1, ?_⟩⟩
    have hj := (List.getElem?_eq_some_iff.1 hx).1
    rw [h.cellAt j (by omega)]
    simp [hx]

theorem pstat_q (w : World) (c : Nat) (x : Pp) (rest : List Value) (T : TypeId) (h : PAt w c x rest T) :
    Calls Try.prog 14 #[.pointer (some ⟨c, 0, none⟩)] w fun e w' => e = .returned (.complex .f64 (FloatKind.f64.nearest x.came) (FloatKind.f64.nearest x.wait.size)) ∧ ∃ m, w' = w.drewN m := by
  have c0 := h.c0
  have c1 := h.c1
  go_enter Try.func14, Try.ntmps14
  go_wp2
  go_region
  go_wp2
  go_ret
  exact ⟨rfl, 1, rfl⟩

theorem stat_q (w : World) (n b : Nat) (l : List (Int × Nat)) (M : Int → Option Cn) (h : NetAt w n b l M) (k : Int) (x : Cn) (c : Nat) (hk : AL.get l k = some c) (hM : M k = some x) :
    Calls Try.prog 19 #[ptrTo n, .int .i64 k] w fun e w' => e = .returned (.complex .f64 (FloatKind.f64.nearest x.p.came) (FloatKind.f64.nearest x.p.wait.size)) ∧ ∃ m, w' = w.drewN m := by
  have hn0 := h.blk.cell 0
  simp at hn0
  have hl := run_lookup_map (KeyLaw.int Try.underlying3) Try.underlying58 h.map (zeroConn w) k true
  rw [hk] at hl
  simp only [optV, Option.isSome, if_true] at hl
  obtain ⟨y, hy, hC⟩ := h.conn k c hk
  rw [hM] at hy
  cases hy
  have H2 := hide (pstat_q w c x.p (cnRest x) _ hC)
  clear hk hM
  go_enter Try.func19, Try.ntmps19
  go_wp2_with fail
  refine H2.out.mono ?_
  rintro e w1 ⟨rfl, hK⟩
  go_wp2
  go_ret
  exact ⟨rfl, hK⟩

/-- What Said and Stat answer at a connection of the list. -/
theorem both_q {W w : World} {n : Nat} {v : Value} {lv l : LConn} {N K : Nat} (h : Mid W w n v lv l N K) (c : R19.One) (hc : c ∈ l) :
    (∀ w1, Keep [] w w1 → Calls Try.prog 22 #[ptrTo n, .int .i64 c.f0] w1 fun e w' => e = .returned (.string c.f4) ∧ w' = w1) ∧
    (∀ w1, Keep [] w w1 → Calls Try.prog 19 #[ptrTo n, .int .i64 c.f0] w1 fun e w' => e = .returned (.complex .f64 (FloatKind.f64.nearest c.f2) (FloatKind.f64.nearest ((c.f1.size : Int) - c.f2))) ∧ ∃ m, w' = w1.drewN m) := by
  obtain ⟨b, L, M, h3, h4, h5, h6, h7⟩ := h.net
  have hlk := R19.lk_at h4.rise hc
  have hM : M c.f0 = some (R19.cn c) := by rw [h4.look, hlk]; rfl
  obtain ⟨q, hq⟩ := netSome h3 hM
  have hok := h4.ok c hc
  have he : (((R19.cn c).p.wait.size : Nat) : Int) = (c.f1.size : Int) - c.f2 := by
    show (((c.f1.extract c.f2.toNat c.f1.size).size : Nat) : Int) = _
    rw [R19.ba_size]
    have := hok.1; have := hok.2.1; omega
  refine ⟨fun w1 hk => ?_, fun w1 hk => ?_⟩
  · exact said_ok w1 n b L M (h3.keep hk (by simp) (by simp) (by simp)) c.f0 (R19.cn c) q hq hM
  · have := stat_q w1 n b L M (h3.keep hk (by simp) (by simp) (by simp)) c.f0 (R19.cn c) q hq hM
    rw [he] at this
    exact this
end Go.Proofs.Ytaahmjamkllphaa
