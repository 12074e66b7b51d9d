/- Layer 18: the document's Get, the law's Is. -/
import Derived.Test.YtbgondiibnjcgaaApp
import Derived.Deep.QuietTactic
import Derived.BigQuiet
namespace Go.Proofs.Ytbgondiibnjcgaa
open Go.RowKit Go.Proofs.Ytbgondiibnjcgaa.PTimerPlays Go.Proofs.YtbgondiibnjcgaaW.PrintWords Go.Proofs.YtbgondiibnjcgaaW.PrintLast
set_option maxRecDepth 10000
set_option linter.unusedVariables false
set_option maxHeartbeats 2000000

def getRel (w0 : World) (r : List En) (ask : BA) (i : Value) (wr : World) : Prop := ∃ j : Nat, i = .int .i64 j ∧ j ≤ r.length ∧ Keep [] w0 wr ∧ ∀ p ∈ r.take j, p.1 ≠ ask

theorem findE_at {r : List En} {j : Nat} (hj : j < r.length) {ask : BA} (h : ∀ p ∈ r.take j, p.1 ≠ ask) {a : Int} (hk : r[j] = (ask, a)) : findE r ask = (a, true) := by
  have hs : r = r.take j ++ (r[j] :: r.drop (j + 1)) := by rw [← List.drop_eq_getElem_cons hj, List.take_append_drop]
  unfold findE
  rw [hs, List.find?_append]
  have h1 : (r.take j).find? (fun p => decide (p.1 = ask)) = none := List.find?_eq_none.2 fun p hp => by simpa using h p hp
  rw [h1, hk]
  simp

theorem findE_none {r : List En} {ask : BA} (h : ∀ p ∈ r, p.1 ≠ ask) : findE r ask = (0, false) := by
  unfold findE
  have h1 : r.find? (fun p => decide (p.1 = ask)) = none := List.find?_eq_none.2 fun p hp => by simpa using h p hp
  rw [h1]

theorem rGet {w : World} {base : Nat} {v : Value} {r : List En} (h : Own kE R18.RefT base w v r) (hl : r.length < 100000) (ask : BA) :
    Calls Try.prog 21 #[v, .string ask] w fun e w' => e = .returned (.tuple #[.int .i64 (findE r ask).1, .bool (findE r ask).2]) ∧ Keep [] w w' := by
  obtain ⟨q, hq⟩ : ∃ q, findE r ask = q := ⟨_, rfl⟩
  obtain ⟨q1, q2⟩ := q
  rw [hq]
  have HQ := hide hq
  clear hq
  obtain ⟨A, c, rfl⟩ := h.slice
  have H := hide h
  clear h
  go_enter Try.func21, Try.ntmps21
  go_wp2_with fail
  go_loopw [10] (fun i wr => getRel w r ask i wr) (fun i _ => r.length - (intOf i).toNat)
  case atStart => exact ⟨0, rfl, by omega, Keep.refl _ _, by simp⟩
  case round =>
    obtain ⟨j, rfl, hj, hK, hne⟩ := hrel
    by_cases hlt : j < r.length
    · obtain ⟨g, cc, hv, _, hg, x0, x1⟩ := own_ent_at (H.out.keep hK (by simp)) hlt
      obtain rfl : A = some ⟨g, 0, none⟩ := by injection hv
      clear hv
      obtain ⟨⟨ek, ea⟩, hx⟩ : ∃ x, r[j] = x := ⟨_, rfl⟩
      rw [hx] at x0 x1
      simp only at x0 x1
      have hlt4 : (j : Int) < (r.length : Int) := by omega
      by_cases hk : ek = ask
      · subst hk
        have hf := findE_at hlt hne hx
        rw [HQ.out] at hf
        injection hf with hf1 hf2
        subst hf1 hf2
        have be := show (ek == ek) = true by show (ek.data == ek.data) = true; simp
        clear hx hne
        clear hlt
        go_wp2_with fail
        go_ret2
        exact ⟨rfl, hK.alloc _⟩
      · have hne' : ∀ p ∈ r.take (j + 1), p.1 ≠ ask := by
          intro p hp
          rw [List.take_succ_eq_append_getElem hlt, List.mem_append] at hp
          rcases hp with hp | hp
          · exact hne p hp
          · simp at hp; subst hp; rw [hx]; exact hk
        have HN := hide hne'
        have be : (ek.toList == ask.toList) = false := by
          rw [beq_eq_false_iff_ne]; exact fun h => hk ((R18.toListE _ _).1 h)
        have be2 : ¬ ek.toList = ask.toList := fun h => hk ((R18.toListE _ _).1 h)
        have HLT := hide hlt
        clear hx hlt hne hne'
        go_wp2_with fail
        exact ⟨⟨j + 1, rfl, HLT.out, hK.alloc _, HN.out⟩, by have := HLT.out; simp [intOf] <;> omega⟩
    · obtain rfl : j = r.length := by omega
      rw [List.take_length] at hne
      have hf := findE_none hne
      rw [HQ.out] at hf
      injection hf with hf1 hf2
      subst hf1 hf2
      clear hne
      go_wp2_with fail
      go_ret2
      exact ⟨rfl, hK⟩

def isRel (w0 : World) (m : Nat) (i : Value) (wr : World) : Prop := ∃ j nq : Nat, i = .int .i64 j ∧ j ≤ m ∧ wr = w0.drewN nq

theorem drew_keep {w w' : World} (h : ∃ n, w' = w.drewN n) : Keep [] w w' := by
  obtain ⟨n, rfl⟩ := h; exact (Keep.refl [] w).drewN n

theorem isE_q {w : World} {b1 b2 : Nat} {v1 v2 : Value} {r : List En} (h1 : Own kE EntT b1 w v1 r) (h2 : Own kE R18.RefT b2 w v2 r) (hl : r.length < 100000) :
    Calls Try.prog 19 #[v1, v2] w fun e w' => e = .returned (.int .i64 0) ∧ ∃ n, w' = w.drewN n := by
  obtain ⟨A1, c1, rfl⟩ := h1.slice
  obtain ⟨A2, c2, rfl⟩ := h2.slice
  have H1 := hide h1
  have H2 := hide h2
  have nl : ((r.length : Int) != (r.length : Int)) = false := by simp
  clear h1 h2
  go_enter Try.func19, Try.ntmps19
  go_wp2_with fail
  go_loopw [13] (fun i wr => isRel w r.length i wr) (fun i _ => r.length - (intOf i).toNat)
  case atStart => exact ⟨0, 0, rfl, by omega, rfl⟩
  case round =>
    obtain ⟨j, nq0, rfl, hj, hwr⟩ := hrel
    have hK : Keep [] w wr := by rw [hwr]; exact (Keep.refl [] w).drewN nq0
    have HWR := hide hwr
    clear hwr
    by_cases hlt : j < r.length
    · obtain ⟨g8, cc8, hv8, _, hg8, x0, x1⟩ := own_ent_at (H1.out.keep hK (by simp)) hlt
      obtain ⟨g9, cc9, hv9, _, hg9, y0, y1⟩ := own_ent_at (H2.out.keep hK (by simp)) hlt
      obtain rfl : A1 = some ⟨g8, 0, none⟩ := by injection hv8
      obtain rfl : A2 = some ⟨g9, 0, none⟩ := by injection hv9
      clear hv8 hv9
      obtain ⟨⟨ek, ea⟩, hx⟩ : ∃ x, r[j] = x := ⟨_, rfl⟩
      rw [hx] at x0 x1 y0 y1
      simp only at x0 x1 y0 y1
      have nE := neqR ek ea
      have hlt4 : (j : Int) < (r.length : Int) := by omega
      have HLT := hide hlt4
      clear hx hlt
      go_wp2_with fail
      go_quiet (fail)
      go_wp2_with fail
      exact ⟨⟨j + 1, nq0 + nq, rfl, by have := HLT.out; omega, by rw [HWR.out, World.drewN_drewN]⟩, by have := HLT.out; simp [intOf] <;> omega⟩
    · go_wp2_with fail
      go_ret
      exact ⟨rfl, nq0, HWR.out⟩
theorem isE_any {w : World} {b1 b2 : Nat} {v1 v2 : Value} {r : List En} (h1 : Own kE EntT b1 w v1 r) (h2 : Own kE R18.RefT b2 w v2 r) (hl : r.length < 100000) :
    Calls Try.prog 19 #[v1, v2] w fun e w' => e = .returned (.int .i64 0) ∧ Keep [] w w' :=
  (isE_q h1 h2 hl).mono fun _ _ ⟨he, hw⟩ => ⟨he, drew_keep hw⟩
end Go.Proofs.Ytbgondiibnjcgaa
