import Derived.Test.YtbgondiibnjcgaaDoorR10
import Derived.Test.YtbgondiibnjcgaaDoorPpR
import Derived.Test.YtbgondiibnjcgaaDoorP12
import Derived.Test.YtbgondiibnjcgaaDoorP14
namespace Go.Proofs.YtbgondiibnjcgaaDoor
open Go.RowKit Go.Lib Go.Proofs.YtbgondiibnjcgaaDoor.PRetainPlays Go.Proofs.YtbgondiibnjcgaaDoorW.PrintWords Go.Proofs.YtbgondiibnjcgaaDoorW.PrintLast
set_option maxRecDepth 10000
set_option linter.unusedVariables false
set_option maxHeartbeats 1000000
namespace R12
abbrev RP := S92
abbrev RM := S56
abbrev SM := S25
def toP (p : SP) : RP := ⟨p.f0, p.f1, p.f2, p.f3⟩
def toR (m : SM) : RM := ⟨m.f0, m.f1, m.f2, m.f3, m.f4.map toP, m.f5, m.f6⟩
theorem rdM_at (l : List SM) (i : Nat) (h : i < l.length) : rd_T25 l (i : Int) = l[i] := by unfold rd_T25; simp [List.getD, h]
theorem rdN_at (l : List RM) (i : Nat) (h : i < l.length) : rd_T56 l (i : Int) = l[i] := by unfold rd_T56; simp [List.getD, h]
theorem rdQ_at (l : List RP) (i : Nat) (h : i < l.length) : rd_T92 l (i : Int) = l[i] := by unfold rd_T92; simp [List.getD, h]
theorem bl_lt : ∀ a b : List UInt8, Op.bytesLess a b = true ↔ a < b
  | [], [] => by simp [Op.bytesLess]
  | [], b :: y => by simp [Op.bytesLess]
  | a :: x, [] => by simp [Op.bytesLess]
  | a :: x, b :: y => by
    have ih := bl_lt x y
    simp only [Op.bytesLess, List.cons_lt_cons_iff, Bool.or_eq_true, decide_eq_true_eq, Bool.and_eq_true, beq_iff_eq, ih]
theorem toldp_l0 (l : List SP) (hl : l.length < 1000000) : ∀ (d k i : Nat) (out : List RP), l.length - i = d → i ≤ l.length → d < k → out.length ≤ i →
    switchboardlaw03_Told.l0 k out l (l.length : Int) (i : Int) = some (out ++ (l.drop i).map toP) := by
  intro d
  induction d with
  | zero =>
    intro k i out h1 h2 h3 h4
    obtain ⟨k, rfl⟩ : ∃ m, k = m + 1 := ⟨k - 1, by omega⟩
    simp only [switchboardlaw03_Told.l0]
    rw [if_neg (by omega), List.drop_of_length_le (by omega)]
    simp
  | succ d ih =>
    intro k i out h1 h2 h3 h4
    obtain ⟨k, rfl⟩ : ∃ m, k = m + 1 := ⟨k - 1, by omega⟩
    have hi : i < l.length := by omega
    have e : wrap64 ((i : Int) + 1) = ((i + 1 : Nat) : Int) := by unfold wrap64; omega
    simp only [switchboardlaw03_Told.l0]
    rw [if_pos (by omega), if_pos (by omega), if_pos (by omega), if_pos (by omega), rdP_at l i hi, e, ih k (i + 1) _ (by omega) (by omega) (by omega) (by simp; omega), List.drop_eq_getElem_cons hi]
    simp [toP, -List.getElem_cons_drop]
theorem toldp_f (l : List SP) (hl : l.length < 1000000) (k : Nat) (hk : l.length < k) : switchboardlaw03_Told.f k l = some (l.map toP) := by
  have := toldp_l0 l hl l.length k 0 [] (by omega) (by omega) hk (by simp)
  simpa [switchboardlaw03_Told.f] using this
theorem same_l0 (l : List RP) (hl : l.length < 1000000) : ∀ (d k i : Nat), l.length - i = d → i ≤ l.length → d < k → switchboardref06_same.l0 k l l (l.length : Int) (i : Int) = some true := by
  intro d
  induction d with
  | zero =>
    intro k i h1 h2 h3
    obtain ⟨k, rfl⟩ : ∃ m, k = m + 1 := ⟨k - 1, by omega⟩
    simp only [switchboardref06_same.l0]
    rw [if_neg (by omega)]
  | succ d ih =>
    intro k i h1 h2 h3
    obtain ⟨k, rfl⟩ : ∃ m, k = m + 1 := ⟨k - 1, by omega⟩
    have e : wrap64 ((i : Int) + 1) = ((i + 1 : Nat) : Int) := by unfold wrap64; omega
    simp only [switchboardref06_same.l0]
    rw [if_pos (by omega), if_pos (by omega), if_pos (by omega), if_pos (by omega), if_neg (by simp), e]
    exact ih k (i + 1) (by omega) (by omega) (by omega)
theorem same_f (m : RM) (hl : m.f4.length < 1000000) (k : Nat) (hk : m.f4.length < k) : switchboardlaw12_Same.f k m.f0 m.f1 m.f2 m.f3 m.f4 m.f5 m.f6 m.f0 m.f1 m.f2 m.f3 m.f4 m.f5 m.f6 = some 0 := by
  unfold switchboardlaw12_Same.f switchboardref06_Props.f switchboardref06_same.f
  rw [if_pos rfl, if_pos rfl, if_pos rfl, if_pos (by simp), if_pos rfl]
  have := same_l0 m.f4 hl m.f4.length k 0 (by omega) (by omega) hk
  rw [show ((0 : Nat) : Int) = 0 from rfl] at this
  rw [this]
  simp
theorem is_l0 (l : List SM) (hl : l.length < 1000000) (hp : ∀ m ∈ l, m.f4.length ≤ 100) : ∀ (d k i : Nat), l.length - i = d → i ≤ l.length → d + 200 < k → switchboardlaw12_Is.l0 k l (l.map toR) (l.length : Int) (i : Int) = some 0 := by
  intro d
  induction d with
  | zero =>
    intro k i h1 h2 h3
    obtain ⟨k, rfl⟩ : ∃ m, k = m + 1 := ⟨k - 1, by omega⟩
    simp only [switchboardlaw12_Is.l0]
    rw [if_neg (by omega)]
  | succ d ih =>
    intro k i h1 h2 h3
    obtain ⟨k, rfl⟩ : ∃ m, k = m + 1 := ⟨k - 1, by omega⟩
    have hi : i < l.length := by omega
    have e : wrap64 ((i : Int) + 1) = ((i + 1 : Nat) : Int) := by unfold wrap64; omega
    have hpi := hp _ (List.getElem_mem hi)
    simp only [switchboardlaw12_Is.l0]
    rw [if_pos (by omega), if_pos (by omega), if_pos (by omega), rdM_at l i hi]
    unfold switchboardlaw12_Told.f
    rw [toldp_f _ (by omega) k (by omega)]
    simp only [Option.bind_some]
    rw [if_pos (by simp; omega), rdN_at (l.map toR) i (by simpa using hi), List.getElem_map]
    have := same_f (toR l[i]) (by simp [toR]; omega) k (by simp [toR]; omega)
    simp only [toR] at this ⊢
    rw [this]
    simp only [Option.bind_some]
    rw [if_pos trivial, e]
    exact ih k (i + 1) (by omega) (by omega) (by omega)
theorem is_f (l : List SM) (hl : l.length < 1000000) (hp : ∀ m ∈ l, m.f4.length ≤ 100) (k : Nat) (hk : l.length + 200 < k) : switchboardlaw12_Is.f k l (l.map toR) = some 0 := by
  unfold switchboardlaw12_Is.f
  rw [if_pos (by simp), List.length_map]
  exact is_l0 l hl hp l.length k 0 (by omega) (by omega) hk
def leftR (at_ : Int) (l : List RP) (now : Int) : Int × Bool := match l.find? (fun p => decide (p.f0 = 2)) with | some p => (wrap64 (wrap64 (at_ + wrap64 p.f1) - now), true) | none => (0, false)
def goneR (now : Int) (m : RM) : Bool := (leftR m.f1 m.f4 now).2 && decide ((leftR m.f1 m.f4 now).1 < 1)
theorem left_l0 (fr tp pl : ByteArray) (at_ q : Int) (rt : Bool) (l0 l : List RP) (now : Int) (hl : l.length < 1000000) : ∀ (d k i : Nat), l.length - i = d → i ≤ l.length → d < k → switchboardref12_Left.l0 k now l (l.length : Int) (i : Int) fr at_ q rt l0 tp pl = some (leftR at_ (l.drop i) now) := by
  intro d
  induction d with
  | zero =>
    intro k i h1 h2 h3
    obtain ⟨k, rfl⟩ : ∃ m, k = m + 1 := ⟨k - 1, by omega⟩
    simp only [switchboardref12_Left.l0]
    rw [if_neg (by omega), List.drop_of_length_le (by omega)]
    rfl
  | succ d ih =>
    intro k i h1 h2 h3
    obtain ⟨k, rfl⟩ : ∃ m, k = m + 1 := ⟨k - 1, by omega⟩
    have hi : i < l.length := by omega
    have e : wrap64 ((i : Int) + 1) = ((i + 1 : Nat) : Int) := by unfold wrap64; omega
    simp only [switchboardref12_Left.l0]
    rw [if_pos (by omega), if_pos (by omega), if_pos (by omega), rdQ_at l i hi, e, ih k (i + 1) (by omega) (by omega) (by omega), List.drop_eq_getElem_cons hi]
    by_cases hx : l[i].f0 = 2
    · rw [if_pos hx]
      unfold leftR
      rw [List.find?_cons_of_pos (by simpa using hx)]
    · rw [if_neg hx]
      unfold leftR
      rw [List.find?_cons_of_neg (by simpa using hx)]
theorem left_f (m : RM) (now : Int) (hl : m.f4.length < 1000000) (k : Nat) (hk : m.f4.length < k) : switchboardref12_Left.f k m.f0 m.f1 m.f2 m.f3 m.f4 m.f5 m.f6 now = some (leftR m.f1 m.f4 now) := by
  have := left_l0 m.f0 m.f5 m.f6 m.f1 m.f2 m.f3 m.f4 m.f4 now hl m.f4.length k 0 (by omega) (by omega) hk
  simpa [switchboardref12_Left.f] using this
theorem gone_f (m : RM) (now : Int) (hl : m.f4.length < 1000000) (k : Nat) (hk : m.f4.length < k) : switchboardref12_Gone.f k m.f0 m.f1 m.f2 m.f3 m.f4 m.f5 m.f6 now = some (goneR now m) := by
  unfold switchboardref12_Gone.f goneR
  rw [left_f m now hl k hk]
  simp only [Option.bind_some]
  cases h : (leftR m.f1 m.f4 now).2 <;> simp
theorem find_map (ps : List SP) : (ps.map toP).find? (fun p => decide (p.f0 = 2)) = (ps.find? (fun p => decide (p.f0 = 2))).map toP := by
  rw [List.find?_map]; rfl
theorem left_map (at_ : Int) (ps : List SP) (now : Int) : leftR at_ (ps.map toP) now = leftV at_ ps now := by
  unfold leftR leftV
  rw [find_map]
  cases ps.find? (fun p => decide (p.f0 = 2)) <;> rfl
theorem gone_map (m : SM) (now : Int) : goneR now (toR m) = goneV m.f1 m.f4 now := by
  unfold goneR goneV
  show ((leftR m.f1 (m.f4.map toP) now).2 && decide ((leftR m.f1 (m.f4.map toP) now).1 < 1)) = _
  rw [left_map]
  congr 1
  rw [Bool.eq_iff_iff]; simp only [decide_eq_true_eq]; omega
def woR (l : List RM) (name : ByteArray) : List RM := l.filter fun m => decide (m.f5 ≠ name)
theorem wo_l0 (l : List RM) (name : ByteArray) (hl : l.length < 1000000) : ∀ (d k i : Nat) (out : List RM), l.length - i = d → i ≤ l.length → d < k → out.length ≤ i →
    switchboardref12_without.l0 k name out l (l.length : Int) (i : Int) = some (out ++ woR (l.drop i) name) := by
  intro d
  induction d with
  | zero =>
    intro k i out h1 h2 h3 h4
    obtain ⟨k, rfl⟩ : ∃ m, k = m + 1 := ⟨k - 1, by omega⟩
    simp only [switchboardref12_without.l0]
    rw [if_neg (by omega), List.drop_of_length_le (by omega)]
    simp [woR]
  | succ d ih =>
    intro k i out h1 h2 h3 h4
    obtain ⟨k, rfl⟩ : ∃ m, k = m + 1 := ⟨k - 1, by omega⟩
    have hi : i < l.length := by omega
    have e : wrap64 ((i : Int) + 1) = ((i + 1 : Nat) : Int) := by unfold wrap64; omega
    simp only [switchboardref12_without.l0]
    rw [if_pos (by omega), if_pos (by omega), if_pos (by omega), rdN_at l i hi, e, List.drop_eq_getElem_cons hi]
    unfold woR
    by_cases hx : l[i].f5 = name
    · rw [if_pos (by rw [hx]), ih k (i + 1) out (by omega) (by omega) (by omega) (by omega), List.filter_cons_of_neg (by simpa using hx)]
      rfl
    · rw [if_neg (fun h => hx (tl_eq.1 h)), if_pos (by omega), ih k (i + 1) _ (by omega) (by omega) (by omega) (by simp; omega), List.filter_cons_of_pos (by simpa using hx)]
      simp [woR, -List.getElem_cons_drop]
theorem wo_f (l : List RM) (name : ByteArray) (hl : l.length < 1000000) (k : Nat) (hk : l.length < k) : switchboardref12_without.f k l name = some (woR l name) := by
  have := wo_l0 l name hl l.length k 0 [] (by omega) (by omega) hk (by simp)
  simpa [switchboardref12_without.f] using this
def insR (m : RM) : List RM → List RM
  | [] => [m]
  | x :: t => if m.f5.data.toList < x.f5.data.toList then m :: x :: t else x :: insR m t
theorem ins_done (l : List RM) (m : RM) (hl : l.length < 1000000) : ∀ (d k i : Nat) (out : List RM), l.length - i = d → i ≤ l.length → d < k → out.length ≤ i + 1 →
    switchboardref12_Set.l0 k out true l (l.length : Int) (i : Int) m.f0 m.f1 m.f2 m.f3 m.f4 m.f5 m.f6 = some (out ++ l.drop i, true) := by
  intro d
  induction d with
  | zero =>
    intro k i out h1 h2 h3 h4
    obtain ⟨k, rfl⟩ : ∃ m, k = m + 1 := ⟨k - 1, by omega⟩
    simp only [switchboardref12_Set.l0]
    rw [if_neg (by omega), List.drop_of_length_le (by omega)]
    simp
  | succ d ih =>
    intro k i out h1 h2 h3 h4
    obtain ⟨k, rfl⟩ : ∃ m, k = m + 1 := ⟨k - 1, by omega⟩
    have hi : i < l.length := by omega
    have e : wrap64 ((i : Int) + 1) = ((i + 1 : Nat) : Int) := by unfold wrap64; omega
    simp only [switchboardref12_Set.l0]
    rw [if_pos (by omega), if_pos (by omega), if_pos (by omega), if_pos trivial, if_pos (by omega), rdN_at l i hi, e, ih k (i + 1) _ (by omega) (by omega) (by omega) (by simp; omega), List.drop_eq_getElem_cons hi]
    simp [-List.getElem_cons_drop]
theorem ins_l0 (l : List RM) (m : RM) (hl : l.length < 1000000) : ∀ (d k i : Nat) (out : List RM), l.length - i = d → i ≤ l.length → d < k → out.length ≤ i →
    switchboardref12_Set.l0 k out false l (l.length : Int) (i : Int) m.f0 m.f1 m.f2 m.f3 m.f4 m.f5 m.f6 = some (out ++ insR m (l.drop i), true) := by
  intro d
  induction d with
  | zero =>
    intro k i out h1 h2 h3 h4
    obtain ⟨k, rfl⟩ : ∃ m, k = m + 1 := ⟨k - 1, by omega⟩
    simp only [switchboardref12_Set.l0]
    rw [if_neg (by omega), if_neg (by simp), if_pos (by omega), List.drop_of_length_le (by omega)]
    rfl
  | succ d ih =>
    intro k i out h1 h2 h3 h4
    obtain ⟨k, rfl⟩ : ∃ m, k = m + 1 := ⟨k - 1, by omega⟩
    have hi : i < l.length := by omega
    have e : wrap64 ((i : Int) + 1) = ((i + 1 : Nat) : Int) := by unfold wrap64; omega
    simp only [switchboardref12_Set.l0]
    rw [if_pos (by omega), if_pos (by omega), if_pos (by omega), if_neg (by simp), rdN_at l i hi, e, List.drop_eq_getElem_cons hi]
    by_cases hx : m.f5.data.toList < l[i].f5.data.toList
    · rw [if_pos (by rw [bl_lt, ByteArray.toList_eq, ByteArray.toList_eq]; exact hx), if_pos (by omega)]
      simp only [Option.bind_some]
      rw [if_pos (by simp; omega), ins_done l m hl d k (i + 1) _ (by omega) (by omega) (by omega) (by simp; omega), insR, if_pos hx]
      simp [-List.getElem_cons_drop]
    · rw [if_neg (by rw [bl_lt, ByteArray.toList_eq, ByteArray.toList_eq]; exact hx), if_pos (by omega), ih k (i + 1) _ (by omega) (by omega) (by omega) (by simp; omega), insR, if_neg hx]
      simp [-List.getElem_cons_drop]
def setR (l : List RM) (m : RM) (most : Int) : List RM × Bool :=
  if m.f6.size = 0 then (woR l m.f5, true) else if (woR l m.f5).length = l.length ∧ most ≤ l.length then (l, false) else (insR m (woR l m.f5), true)
theorem set_f (l : List RM) (m : RM) (most : Int) (hl : l.length < 1000000) (k : Nat) (hk : l.length + 1 < k) : switchboardref12_Set.f k l m.f0 m.f1 m.f2 m.f3 m.f4 m.f5 m.f6 most = some (setR l m most) := by
  have hw : (woR l m.f5).length ≤ l.length := List.length_filter_le _ _
  unfold switchboardref12_Set.f setR
  rw [wo_f l m.f5 hl k (by omega)]
  simp only [Option.bind_some]
  obtain ⟨k, rfl⟩ : ∃ n, k = n + 1 := ⟨k - 1, by omega⟩
  have hi := ins_l0 (woR l m.f5) m (by omega) (woR l m.f5).length k 0 [] (by omega) (by omega) (by omega) (by simp)
  rw [show ((0 : Nat) : Int) = 0 from rfl, List.drop_zero, List.nil_append] at hi
  by_cases h0 : m.f6.size = 0
  · rw [if_pos h0, if_pos]
    rw [ByteArray.toList_eq]
    exact List.eq_nil_of_length_eq_zero (by simpa using h0)
  · rw [if_neg h0, if_neg (by
      rw [ByteArray.toList_eq]; intro e; apply h0
      have := congrArg List.length e
      simpa using this)]
    by_cases h1 : (woR l m.f5).length = l.length
    · rw [if_pos (by omega)]
      simp only [switchboardref12_Set.j0]
      by_cases h2 : most ≤ l.length
      · rw [if_pos (by simpa using h2), if_pos ⟨h1, h2⟩]
      · rw [if_neg (by simpa using h2), if_neg (fun h => h2 h.2), hi]
    · rw [if_neg (by omega)]
      simp only [switchboardref12_Set.j0]
      rw [if_neg (by simp), if_neg (fun h => h1 h.1), hi]
theorem exp_l0 (l : List RM) (now : Int) (hl : l.length < 1000000) (hp : ∀ m ∈ l, m.f4.length ≤ 100) : ∀ (d k i : Nat) (out : List RM), l.length - i = d → i ≤ l.length → d + 200 < k → out.length ≤ i →
    switchboardref12_Expire.l0 k now out l (l.length : Int) (i : Int) = some (out ++ (l.drop i).filter fun m => !goneR now m) := by
  intro d
  induction d with
  | zero =>
    intro k i out h1 h2 h3 h4
    obtain ⟨k, rfl⟩ : ∃ m, k = m + 1 := ⟨k - 1, by omega⟩
    simp only [switchboardref12_Expire.l0]
    rw [if_neg (by omega), List.drop_of_length_le (by omega)]
    simp
  | succ d ih =>
    intro k i out h1 h2 h3 h4
    obtain ⟨k, rfl⟩ : ∃ m, k = m + 1 := ⟨k - 1, by omega⟩
    have hi : i < l.length := by omega
    have e : wrap64 ((i : Int) + 1) = ((i + 1 : Nat) : Int) := by unfold wrap64; omega
    have hpi := hp _ (List.getElem_mem hi)
    simp only [switchboardref12_Expire.l0]
    rw [if_pos (by omega), if_pos (by omega), if_pos (by omega), rdN_at l i hi, gone_f l[i] now (by omega) k (by omega), e, List.drop_eq_getElem_cons hi]
    simp only [Option.bind_some]
    cases hg : goneR now l[i]
    · rw [if_neg (by simp), if_pos (by omega), ih k (i + 1) _ (by omega) (by omega) (by omega) (by simp; omega), List.filter_cons_of_pos (by simp [hg])]
      simp [-List.getElem_cons_drop]
    · rw [if_pos rfl, ih k (i + 1) out (by omega) (by omega) (by omega) (by omega), List.filter_cons_of_neg (by simp [hg])]
theorem exp_f (l : List RM) (now : Int) (hl : l.length < 1000000) (hp : ∀ m ∈ l, m.f4.length ≤ 100) (k : Nat) (hk : l.length + 200 < k) : switchboardref12_Expire.f k l now = some (l.filter fun m => !goneR now m) := by
  have := exp_l0 l now hl hp l.length k 0 [] (by omega) (by omega) hk (by simp)
  simpa [switchboardref12_Expire.f] using this
theorem mat_l0 (l : List RM) (f : ByteArray) (now : Int) (hl : l.length < 1000000) (hp : ∀ m ∈ l, m.f4.length ≤ 100) (hf : f.size ≤ 100) (ht : ∀ m ∈ l, m.f5.size ≤ 100) : ∀ (d k i : Nat) (out : List RM), l.length - i = d → i ≤ l.length → d + 1000 < k → out.length ≤ i →
    switchboardref12_Match.l0 k f now out l (l.length : Int) (i : Int) = some (out ++ (l.drop i).filter fun m => topM f m.f5 && !goneR now m) := by
  intro d
  induction d with
  | zero =>
    intro k i out h1 h2 h3 h4
    obtain ⟨k, rfl⟩ : ∃ m, k = m + 1 := ⟨k - 1, by omega⟩
    simp only [switchboardref12_Match.l0]
    rw [if_neg (by omega), List.drop_of_length_le (by omega)]
    simp
  | succ d ih =>
    intro k i out h1 h2 h3 h4
    obtain ⟨k, rfl⟩ : ∃ m, k = m + 1 := ⟨k - 1, by omega⟩
    have hi : i < l.length := by omega
    have e : wrap64 ((i : Int) + 1) = ((i + 1 : Nat) : Int) := by unfold wrap64; omega
    have hpi := hp _ (List.getElem_mem hi)
    have hti := ht _ (List.getElem_mem hi)
    simp only [switchboardref12_Match.l0]
    rw [if_pos (by omega), if_pos (by omega), if_pos (by omega), rdN_at l i hi, R10.match_f f l[i].f5 (by omega) (by omega) k (by omega), e, List.drop_eq_getElem_cons hi]
    simp only [Option.bind_some]
    cases hm : topM f l[i].f5
    · rw [if_neg (by simp), ih k (i + 1) out (by omega) (by omega) (by omega) (by omega), List.filter_cons_of_neg (by simp [hm])]
    · rw [if_pos rfl, gone_f l[i] now (by omega) k (by omega)]
      simp only [Option.bind_some]
      cases hg : goneR now l[i]
      · rw [if_neg (by simp), if_pos (by omega), ih k (i + 1) _ (by omega) (by omega) (by omega) (by simp; omega), List.filter_cons_of_pos (by simp [hg, hm])]
        simp [-List.getElem_cons_drop]
      · rw [if_pos rfl, ih k (i + 1) out (by omega) (by omega) (by omega) (by omega), List.filter_cons_of_neg (by simp [hg])]
theorem mat_f (l : List RM) (f : ByteArray) (now : Int) (hl : l.length < 1000000) (hp : ∀ m ∈ l, m.f4.length ≤ 100) (hf : f.size ≤ 100) (ht : ∀ m ∈ l, m.f5.size ≤ 100) (k : Nat) (hk : l.length + 1000 < k) : switchboardref12_Match.f k l f now = some (l.filter fun m => topM f m.f5 && !goneR now m) := by
  have := mat_l0 l f now hl hp hf ht l.length k 0 [] (by omega) (by omega) hk (by simp)
  simpa [switchboardref12_Match.f] using this
end R12
end Go.Proofs.YtbgondiibnjcgaaDoor
