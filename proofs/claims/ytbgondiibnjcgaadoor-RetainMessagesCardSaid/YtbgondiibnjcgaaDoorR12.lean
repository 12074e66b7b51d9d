import Derived.Test.YtbgondiibnjcgaaDoorR10
import Derived.Test.YtbgondiibnjcgaaDoorPpR
import Derived.Test.YtbgondiibnjcgaaDoorP12
import Derived.Test.YtbgondiibnjcgaaDoorP14
namespace Go.Proofs.YtbgondiibnjcgaaDoor
open Go.RowKit Go.Lib Go.Proofs.YtbgondiibnjcgaaDoor.PRetainPlays Go.Proofs.YtbgondiibnjcgaaDoorW.PrintWords Go.Proofs.YtbgondiibnjcgaaDoorW.PrintLast
set_option maxRecDepth 10000
set_option linter.unusedVariables false
set_option maxHeartbeats 1000000
namespace R12
abbrev RP := S92
abbrev RM := S56
abbrev SM := S25
def toP (p : SP) : RP := ⟨p.f0, p.f1, p.f2, p.f3⟩
def toR (m : SM) : RM := ⟨m.f0, m.f1, m.f2, m.f3, m.f4.map toP, m.f5, m.f6⟩
theorem rdQ_at (l : List RP) (i : Nat) (h : i < l.length) : rd_T92 l (i : Int) = l[i] := by unfold rd_T92; simp [List.getD, h]
theorem toldp_l0 (l : List SP) (hl : l.length < 1000000) : ∀ (d k i : Nat) (out : List RP), l.length - i = d → i ≤ l.length → d < k → out.length ≤ i →
    switchboardlaw03_Told.l0 k out l (l.length : Int) (i : Int) = some (out ++ (l.drop i).map toP) := by
  intro d
  induction d with
  | zero =>
    intro k i out h1 h2 h3 h4
    obtain ⟨k, rfl⟩ : ∃ m, k = m + 1 := ⟨k - 1, by omega⟩
    simp only [switchboardlaw03_Told.l0]
    rw [if_neg (by omega), List.drop_of_length_le (by omega)]
    simp
  | succ d ih =>
    intro k i out h1 h2 h3 h4
    obtain ⟨k, rfl⟩ : ∃ m, k = m + 1 := ⟨k - 1, by omega⟩
    have hi : i < l.length := by omega
    have e : wrap64 ((i : Int) + 1) = ((i + 1 : Nat) : Int) := by unfold wrap64; omega
    simp only [switchboardlaw03_Told.l0]
    rw [if_pos (by omega), if_pos (by omega), if_pos (by omega), if_pos (by omega), rdP_at l i hi, e, ih k (i + 1) _ (by omega) (by omega) (by omega) (by simp; omega), List.drop_eq_getElem_cons hi]
    simp [toP, -List.getElem_cons_drop]
theorem toldp_f (l : List SP) (hl : l.length < 1000000) (k : Nat) (hk : l.length < k) : switchboardlaw03_Told.f k l = some (l.map toP) := by
  have := toldp_l0 l hl l.length k 0 [] (by omega) (by omega) hk (by simp)
  simpa [switchboardlaw03_Told.f] using this
theorem same_l0 (l : List RP) (hl : l.length < 1000000) : ∀ (d k i : Nat), l.length - i = d → i ≤ l.length → d < k → switchboardref06_same.l0 k l l (l.length : Int) (i : Int) = some true := by
  intro d
  induction d with
  | zero =>
    intro k i h1 h2 h3
    obtain ⟨k, rfl⟩ : ∃ m, k = m + 1 := ⟨k - 1, by omega⟩
    simp only [switchboardref06_same.l0]
    rw [if_neg (by omega)]
  | succ d ih =>
    intro k i h1 h2 h3
    obtain ⟨k, rfl⟩ : ∃ m, k = m + 1 := ⟨k - 1, by omega⟩
    have e : wrap64 ((i : Int) + 1) = ((i + 1 : Nat) : Int) := by unfold wrap64; omega
    simp only [switchboardref06_same.l0]
    rw [if_pos (by omega), if_pos (by omega), if_pos (by omega), if_pos (by omega), if_neg (by simp), e]
    exact ih k (i + 1) (by omega) (by omega) (by omega)
theorem same_f (m : RM) (hl : m.f4.length < 1000000) (k : Nat) (hk : m.f4.length < k) : switchboardlaw12_Same.f k m.f0 m.f1 m.f2 m.f3 m.f4 m.f5 m.f6 m.f0 m.f1 m.f2 m.f3 m.f4 m.f5 m.f6 = some 0 := by
  unfold switchboardlaw12_Same.f switchboardref06_Props.f switchboardref06_same.f
  rw [if_pos rfl, if_pos rfl, if_pos rfl, if_pos (by simp), if_pos rfl]
  have := same_l0 m.f4 hl m.f4.length k 0 (by omega) (by omega) hk
  rw [show ((0 : Nat) : Int) = 0 from rfl] at this
  rw [this]
  simp
def leftR (at_ : Int) (l : List RP) (now : Int) : Int × Bool := match l.find? (fun p => decide (p.f0 = 2)) with | some p => (wrap64 (wrap64 (at_ + wrap64 p.f1) - now), true) | none => (0, false)
def goneR (now : Int) (m : RM) : Bool := (leftR m.f1 m.f4 now).2 && decide ((leftR m.f1 m.f4 now).1 < 1)
theorem left_l0 (fr tp pl : ByteArray) (at_ q : Int) (rt : Bool) (l0 l : List RP) (now : Int) (hl : l.length < 1000000) : ∀ (d k i : Nat), l.length - i = d → i ≤ l.length → d < k → switchboardref12_Left.l0 k now l (l.length : Int) (i : Int) fr at_ q rt l0 tp pl = some (leftR at_ (l.drop i) now) := by
  intro d
  induction d with
  | zero =>
    intro k i h1 h2 h3
    obtain ⟨k, rfl⟩ : ∃ m, k = m + 1 := ⟨k - 1, by omega⟩
    simp only [switchboardref12_Left.l0]
    rw [if_neg (by omega), List.drop_of_length_le (by omega)]
    rfl
  | succ d ih =>
    intro k i h1 h2 h3
    obtain ⟨k, rfl⟩ : ∃ m, k = m + 1 := ⟨k - 1, by omega⟩
    have hi : i < l.length := by omega
    have e : wrap64 ((i : Int) + 1) = ((i + 1 : Nat) : Int) := by unfold wrap64; omega
    simp only [switchboardref12_Left.l0]
    rw [if_pos (by omega), if_pos (by omega), if_pos (by omega), rdQ_at l i hi, e, ih k (i + 1) (by omega) (by omega) (by omega), List.drop_eq_getElem_cons hi]
    by_cases hx : l[i].f0 = 2
    · rw [if_pos hx]
      unfold leftR
      rw [List.find?_cons_of_pos (by simpa using hx)]
    · rw [if_neg hx]
      unfold leftR
      rw [List.find?_cons_of_neg (by simpa using hx)]
theorem left_f (m : RM) (now : Int) (hl : m.f4.length < 1000000) (k : Nat) (hk : m.f4.length < k) : switchboardref12_Left.f k m.f0 m.f1 m.f2 m.f3 m.f4 m.f5 m.f6 now = some (leftR m.f1 m.f4 now) := by
  have := left_l0 m.f0 m.f5 m.f6 m.f1 m.f2 m.f3 m.f4 m.f4 now hl m.f4.length k 0 (by omega) (by omega) hk
  simpa [switchboardref12_Left.f] using this
theorem gone_f (m : RM) (now : Int) (hl : m.f4.length < 1000000) (k : Nat) (hk : m.f4.length < k) : switchboardref12_Gone.f k m.f0 m.f1 m.f2 m.f3 m.f4 m.f5 m.f6 now = some (goneR now m) := by
  unfold switchboardref12_Gone.f goneR
  rw [left_f m now hl k hk]
  simp only [Option.bind_some]
  cases h : (leftR m.f1 m.f4 now).2 <;> simp
theorem find_map (ps : List SP) : (ps.map toP).find? (fun p => decide (p.f0 = 2)) = (ps.find? (fun p => decide (p.f0 = 2))).map toP := by
  rw [List.find?_map]; rfl
theorem left_map (at_ : Int) (ps : List SP) (now : Int) : leftR at_ (ps.map toP) now = leftV at_ ps now := by
  unfold leftR leftV
  rw [find_map]
  cases ps.find? (fun p => decide (p.f0 = 2)) <;> rfl
theorem gone_map (m : SM) (now : Int) : goneR now (toR m) = goneV m.f1 m.f4 now := by
  unfold goneR goneV
  show ((leftR m.f1 (m.f4.map toP) now).2 && decide ((leftR m.f1 (m.f4.map toP) now).1 < 1)) = _
  rw [left_map]
  congr 1
  rw [Bool.eq_iff_iff]; simp only [decide_eq_true_eq]; omega
def woR (l : List RM) (name : ByteArray) : List RM := l.filter fun m => decide (m.f5 ≠ name)
def insR (m : RM) : List RM → List RM
  | [] => [m]
  | x :: t => if m.f5.data.toList < x.f5.data.toList then m :: x :: t else x :: insR m t
def setR (l : List RM) (m : RM) (most : Int) : List RM × Bool :=
  if m.f6.size = 0 then (woR l m.f5, true) else if (woR l m.f5).length = l.length ∧ most ≤ l.length then (l, false) else (insR m (woR l m.f5), true)
end R12
end Go.Proofs.YtbgondiibnjcgaaDoor
