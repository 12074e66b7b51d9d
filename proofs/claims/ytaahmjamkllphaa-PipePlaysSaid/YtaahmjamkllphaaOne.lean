/- One connection alone. -/
import Derived.Test.YtaahmjamkllphaaLive
namespace Go.Proofs.Ytaahmjamkllphaa
open Go.RowKit
set_option maxRecDepth 10000
set_option linter.unusedVariables false
set_option maxHeartbeats 1000000

abbrev M0 : Int → Option Cn := fun _ => none

/-- One connection, k, in the state x; all that lay in w0 lies as it lay. -/
structure St (w0 w : World) (n b c : Nat) (k : Int) (x : Cn) : Prop where
  net : NetAt w n b [(k, c)] (upM M0 k x)
  kp : Keep [] w0 w
  hn : w0.heap.size ≤ n
  hb : w0.heap.size ≤ b
  hc : w0.heap.size ≤ c

theorem upM_upM (M : Int → Option Cn) (k : Int) (x y : Cn) : upM (upM M k x) k y = upM M k y := by
  funext k'
  unfold upM
  by_cases h : k' = k
  · rw [if_pos h, if_pos h]
  · rw [if_neg h, if_neg h, if_neg h]

theorem upM_same (M : Int → Option Cn) (k : Int) (x : Cn) : upM M k x k = some x := by unfold upM; rw [if_pos rfl]
theorem get_one (k : Int) (c : Nat) : AL.get [(k, c)] k = some c := by simp [AL.get]

section
variable {w0 w w' : World} {n b c : Nat} {k : Int} {x x' : Cn}
theorem St.step (h : St w0 w n b c k x) (hN : NetAt w' n b [(k, c)] (upM (upM M0 k x) k x')) (hK : Keep [c] w w') : St w0 w' n b c k x' := by
  rw [upM_upM] at hN
  exact ⟨hN, h.kp.trans hK (by simp) (by have := h.hc; simp; omega), h.hn, h.hb, h.hc⟩
theorem St.same (h : St w0 w n b c k x) (hK : Keep [] w w') : St w0 w' n b c k x := ⟨h.net.keep hK (by simp) (by simp) (by simp), h.kp.then hK, h.hn, h.hb, h.hc⟩
end

theorem st_open (w0 w : World) (n b : Nat) (h : NetAt w n b [] M0) (hk : Keep [] w0 w) (hn : w0.heap.size ≤ n) (hb : w0.heap.size ≤ b) (k : Int) :
    Calls Try.prog 16 #[ptrTo n, .int .i64 k] w (Px fun (c : Nat) e w' => e = .returned (.int .i64 0) ∧ St w0 w' n b c k Cn.new) := by
  refine (open_new w n b [] M0 h k rfl).mono ?_
  rintro e w1 ⟨rfl, hN, hK⟩
  refine ⟨w.heap.size, rfl, ?_⟩
  have hsz := hk.size
  have hbl := h.map.lt
  exact ⟨hN, hk.trans hK (by simp) (by simp; omega), hn, hb, hsz⟩

theorem st_write (w0 w : World) (n b c : Nat) (k : Int) (x : Cn) (h : St w0 w n b c k x) (hh : x.hung = false) (s : ByteArray) (hs : x.p.wait.size + s.size < 1000000000) : Calls Try.prog 17 #[ptrTo n, .int .i64 k, .string s] w fun e w' => e = .returned (.int .i64 x.p.err) ∧ St w0 w' n b c k { x with p := x.p.send s } := by
  refine (write_ok w n b _ _ h.net k c x (get_one k c) (upM_same _ _ _) hh s hs).mono ?_
  rintro e w1 ⟨rfl, hN, hK⟩
  exact ⟨rfl, h.step hN hK⟩

theorem st_cut (w0 w : World) (n b c : Nat) (k : Int) (x : Cn) (h : St w0 w n b c k x) (hh : x.hung = false) (m : Int) (hs : x.p.wait.size < 1000000000) : Calls Try.prog 20 #[ptrTo n, .int .i64 k, .int .i64 m] w fun e w' => e = .returned (.int .i64 0) ∧ St w0 w' n b c k { x with p := x.p.cut m } := by
  refine (cut_ok w n b _ _ h.net k c x (get_one k c) (upM_same _ _ _) hh m hs).mono ?_
  rintro e w1 ⟨rfl, hN, hK⟩
  exact ⟨rfl, h.step hN hK⟩

theorem st_say (w0 w : World) (n b c : Nat) (k : Int) (x : Cn) (h : St w0 w n b c k x) (hh : x.hung = false) (s : ByteArray) (hs : x.said.size + s.size < 1000000000) : Calls Try.prog 24 #[ptrTo n, .int .i64 k, .string s] w fun e w' => e = .returned (.int .i64 0) ∧ St w0 w' n b c k { x with said := x.said ++ s } := by
  refine (say_ok w n b _ _ h.net k c x (get_one k c) (upM_same _ _ _) hh s hs).mono ?_
  rintro e w1 ⟨rfl, hN, hK⟩
  exact ⟨rfl, h.step hN hK⟩

theorem st_hang (w0 w : World) (n b c : Nat) (k : Int) (x : Cn) (h : St w0 w n b c k x) (hh : x.hung = false) : Calls Try.prog 25 #[ptrTo n, .int .i64 k] w fun e w' => e = .returned (.int .i64 0) ∧ St w0 w' n b c k { x with hung := true } := by
  refine (hang_ok w n b _ _ h.net k c x (get_one k c) (upM_same _ _ _) hh).mono ?_
  rintro e w1 ⟨rfl, hN, hK⟩
  exact ⟨rfl, h.step hN hK⟩

theorem st_read (w0 w : World) (n b c : Nat) (k : Int) (x : Cn) (h : St w0 w n b c k x) (hh : x.hung = false) (m : Int) (hs : x.p.wait.size < 1000000000) (hc : 0 ≤ x.p.came ∧ x.p.came < 1000000000) : Calls Try.prog 18 #[ptrTo n, .int .i64 k, .int .i64 m] w fun e w' => e = .returned (.tuple #[.string (x.p.wait.extract 0 (x.p.k m)), .bool (x.p.chunk m).ended, .int .i64 0]) ∧ St w0 w' n b c k { x with p := x.p.chunk m } := by
  refine (read_ok w n b _ _ h.net k c x (get_one k c) (upM_same _ _ _) hh m hs hc).mono ?_
  rintro e w1 ⟨rfl, hN, hK⟩
  exact ⟨rfl, h.step hN hK⟩

theorem st_stat (w0 w : World) (n b c : Nat) (k : Int) (x : Cn) (h : St w0 w n b c k x) : Calls Try.prog 19 #[ptrTo n, .int .i64 k] w fun e w' => e = .returned (.complex .f64 (FloatKind.f64.nearest x.p.came) (FloatKind.f64.nearest x.p.wait.size)) ∧ St w0 w' n b c k x := by
  refine (stat_ok w n b _ _ h.net k x c (get_one k c) (upM_same _ _ _)).mono ?_
  rintro e w1 ⟨rfl, hK⟩
  exact ⟨rfl, h.same hK⟩

theorem st_said (w0 w : World) (n b c : Nat) (k : Int) (x : Cn) (h : St w0 w n b c k x) : Calls Try.prog 22 #[ptrTo n, .int .i64 k] w fun e w' => e = .returned (.string x.said) ∧ St w0 w' n b c k x := by
  refine (said_ok w n b _ _ h.net k x c (get_one k c) (upM_same _ _ _)).mono ?_
  rintro e w1 ⟨rfl, rfl⟩
  exact ⟨rfl, h⟩

theorem st_there (w0 w : World) (n b c : Nat) (k : Int) (x : Cn) (h : St w0 w n b c k x) : Calls Try.prog 16 #[ptrTo n, .int .i64 k] w fun e w' => e = .returned (.int .i64 8) ∧ St w0 w' n b c k x := by
  refine (open_there w n b _ _ h.net k x c (get_one k c) (upM_same _ _ _)).mono ?_
  rintro e w1 ⟨rfl, rfl⟩
  exact ⟨rfl, h⟩

theorem st_write13 (w0 w : World) (n b c : Nat) (k : Int) (x : Cn) (h : St w0 w n b c k x) (hh : x.hung = true) (s : ByteArray) : Calls Try.prog 17 #[ptrTo n, .int .i64 k, .string s] w fun e w' => e = .returned (.int .i64 13) ∧ St w0 w' n b c k x := by
  refine (write_bad w n b _ _ h.net k s 13 (.inr rfl) (by unfold getErr; rw [upM_same]; simp [hh])).mono ?_
  rintro e w1 ⟨rfl, rfl⟩
  exact ⟨rfl, h⟩

theorem st_cut13 (w0 w : World) (n b c : Nat) (k : Int) (x : Cn) (h : St w0 w n b c k x) (hh : x.hung = true) (m : Int) : Calls Try.prog 20 #[ptrTo n, .int .i64 k, .int .i64 m] w fun e w' => e = .returned (.int .i64 13) ∧ St w0 w' n b c k x := by
  refine (cut_bad w n b _ _ h.net k m 13 (.inr rfl) (by unfold getErr; rw [upM_same]; simp [hh])).mono ?_
  rintro e w1 ⟨rfl, rfl⟩
  exact ⟨rfl, h⟩

theorem st_say13 (w0 w : World) (n b c : Nat) (k : Int) (x : Cn) (h : St w0 w n b c k x) (hh : x.hung = true) (s : ByteArray) : Calls Try.prog 24 #[ptrTo n, .int .i64 k, .string s] w fun e w' => e = .returned (.int .i64 13) ∧ St w0 w' n b c k x := by
  refine (say_bad w n b _ _ h.net k s 13 (.inr rfl) (by unfold getErr; rw [upM_same]; simp [hh])).mono ?_
  rintro e w1 ⟨rfl, rfl⟩
  exact ⟨rfl, h⟩

theorem st_hang13 (w0 w : World) (n b c : Nat) (k : Int) (x : Cn) (h : St w0 w n b c k x) (hh : x.hung = true) : Calls Try.prog 25 #[ptrTo n, .int .i64 k] w fun e w' => e = .returned (.int .i64 13) ∧ St w0 w' n b c k x := by
  refine (hang_bad w n b _ _ h.net k 13 (.inr rfl) (by unfold getErr; rw [upM_same]; simp [hh])).mono ?_
  rintro e w1 ⟨rfl, rfl⟩
  exact ⟨rfl, h⟩

theorem st_read13 (w0 w : World) (n b c : Nat) (k : Int) (x : Cn) (h : St w0 w n b c k x) (hh : x.hung = true) (m : Int) : Calls Try.prog 18 #[ptrTo n, .int .i64 k, .int .i64 m] w fun e w' => e = .returned (.tuple #[.string ByteArray.empty, .bool false, .int .i64 13]) ∧ St w0 w' n b c k x := by
  refine (read_bad w n b _ _ h.net k m 13 (.inr rfl) (by unfold getErr; rw [upM_same]; simp [hh])).mono ?_
  rintro e w1 ⟨rfl, rfl⟩
  exact ⟨rfl, h⟩

theorem st_live (w0 w : World) (n b c : Nat) (k : Int) (x : Cn) (h : St w0 w n b c k x) : Calls Try.prog 23 #[ptrTo n] w (Px fun (y : Option Addr × Nat) e w' => e = .returned (.slice y.1 (if x.hung then 0 else 1) y.2) ∧ St w0 w' n b c k x) := by
  refine (live_any w n b _ _ h.net (sorts_short _ (by simp)) (by simp)).mono ?_
  rintro e w1 ⟨⟨v, L⟩, rfl, hK, hrow, hk⟩
  have hL : L = [k] := by
    have h1 := hK.2.2
    have h2 := hK.2.1 k
    simp at h1 h2
    match L, h1 with
    | [y], _ => simp at h2; rw [h2]
  subst hL
  have hlv : liveK (upM M0 k x) k = !x.hung := by unfold liveK; rw [upM_same]
  have hf : (([k] : List Int).filter (liveK (upM M0 k x))).length = if x.hung then 0 else 1 := by
    cases hh : x.hung <;> simp [List.filter, hlv, hh]
  simp only at hrow
  rw [hf] at hrow
  rcases hrow.2 with ⟨hv, h0⟩ | ⟨g, cap, cur, hv, _⟩
  · refine ⟨(none, 0), ?_, h.same hk⟩
    rw [hv, h0]
  · refine ⟨(some ⟨g, 0, none⟩, cap), ?_, h.same hk⟩
    rw [hv]
end Go.Proofs.Ytaahmjamkllphaa
