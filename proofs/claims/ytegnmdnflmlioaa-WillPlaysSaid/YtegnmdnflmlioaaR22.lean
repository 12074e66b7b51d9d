import Derived.Test.YtegnmdnflmlioaaPp
import Derived.Test.YtegnmdnflmlioaaEnts
import Derived.Test.YtegnmdnflmlioaaCut
import Derived.Test.YtegnmdnflmlioaaPWillPlaysx8
import Derived.Test.YtegnmdnflmlioaaP13
import Derived.Test.YtegnmdnflmlioaaPWillPlaysx14
import Derived.Test.YtegnmdnflmlioaaP10
import Derived.Sort.Walk0
namespace Go.Proofs.Ytegnmdnflmlioaa
open Go.RowKit Go.Proofs.Ytegnmdnflmlioaa.PWillPlays Go.Proofs.YtegnmdnflmlioaaW.PrintWords Go.Proofs.YtegnmdnflmlioaaW.PrintLast
set_option maxRecDepth 10000
set_option linter.unusedVariables false
set_option maxHeartbeats 1000000
namespace R22
abbrev SM := S39
abbrev One := S87
abbrev RM := S83
abbrev RP := S100
def toP (p : SP) : RP := ⟨p.f0, p.f1, p.f2, p.f3⟩
def toM (m : SM) : RM := ⟨m.f0, m.f1, m.f2, m.f3, m.f4.map toP, m.f5, m.f6⟩
theorem toListE (a b : BA) : a.toList = b.toList ↔ a = b := by
  rw [ByteArray.toList_eq, ByteArray.toList_eq]
  exact ⟨ba_ext, fun h => by rw [h]⟩
theorem rdO_at (l : List One) (i : Nat) (h : i < l.length) : rd_T87 l (i : Int) = l[i] := by
  unfold rd_T87; simp [List.getD, h]
theorem rdR_at (l : List RP) (i : Nat) (h : i < l.length) : rd_T100 l (i : Int) = l[i] := by
  unfold rd_T100; simp [List.getD, h]
theorem rdM_at (l : List SM) (i : Nat) (h : i < l.length) : rd_T39 l (i : Int) = l[i] := by
  unfold rd_T39; simp [List.getD, h]
theorem rdN_at (l : List RM) (i : Nat) (h : i < l.length) : rd_T83 l (i : Int) = l[i] := by
  unfold rd_T83; simp [List.getD, h]
def rmO (l : List One) (c : BA) : List One := l.filter fun x => decide (x.f0 ≠ c)
theorem drop_l0 (l : List One) (c : BA) (hl : l.length < 1000000) : ∀ (d k i : Nat) (out : List One) (was : Bool), l.length - i = d → i ≤ l.length → d < k → out.length ≤ i →
    switchboardref22_Drop.l0 k c out was l (l.length : Int) (i : Int) = some (out ++ rmO (l.drop i) c, was || (l.drop i).any (fun x => decide (x.f0 = c))) := by
  intro d
  induction d with
  | zero =>
    intro k i out was h1 h2 h3 h4
    obtain ⟨k, rfl⟩ : ∃ m, k = m + 1 := ⟨k - 1, by omega⟩
    simp only [switchboardref22_Drop.l0]
    rw [if_neg (by omega), List.drop_of_length_le (by omega)]
    simp [rmO]
  | succ d ih =>
    intro k i out was h1 h2 h3 h4
    obtain ⟨k, rfl⟩ : ∃ m, k = m + 1 := ⟨k - 1, by omega⟩
    have hi : i < l.length := by omega
    have e : wrap64 ((i : Int) + 1) = ((i + 1 : Nat) : Int) := by unfold wrap64; omega
    have hd := List.drop_eq_getElem_cons hi
    simp only [switchboardref22_Drop.l0]
    rw [if_pos (by omega), if_pos (by omega), if_pos (by omega), rdO_at l i hi, e]
    by_cases hx : l[i].f0 = c
    · refine (if_pos ((toListE _ _).2 hx)).trans ?_
      rw [ih k (i + 1) out true (by omega) (by omega) (by omega) (by omega), hd]
      simp [rmO, hx, -List.getElem_cons_drop]
    · refine (if_neg (fun h => hx ((toListE _ _).1 h))).trans ?_
      refine (if_pos (by omega)).trans ?_
      refine (ih k (i + 1) (out ++ [l[i]]) was (by omega) (by omega) (by omega) (by simp; omega)).trans ?_
      rw [hd]
      simp [rmO, hx, -List.getElem_cons_drop]
theorem drop_f (l : List One) (c : BA) (hl : l.length < 1000000) (k : Nat) (hk : l.length < k) : switchboardref22_Drop.f k l c = some (rmO l c, l.any (fun x => decide (x.f0 = c))) := by
  have := drop_l0 l c hl l.length k 0 [] false (by omega) (by omega) hk (by simp)
  unfold switchboardref22_Drop.f
  simpa using this
def noWDr (l : List RP) : List RP := l.filter fun p => decide (p.f0 ≠ 24)
def delayR (l : List RP) : Int := match l.find? (fun p => decide (p.f0 = 24)) with | some p => p.f1 | none => 0
theorem msg_l0 (l : List RP) (cl tp pl : ByteArray) (q : Int) (rt : Bool) (hl : l.length < 1000000) : ∀ (d k i : Nat) (out : List RP), l.length - i = d → i ≤ l.length → d < k → out.length ≤ i →
    switchboardref22_Message.l0 k cl out l (l.length : Int) (i : Int) l tp pl q rt = some (cl, 0, q, rt, out ++ noWDr (l.drop i), tp, pl) := by
  intro d
  induction d with
  | zero =>
    intro k i out h1 h2 h3 h4
    obtain ⟨k, rfl⟩ : ∃ m, k = m + 1 := ⟨k - 1, by omega⟩
    simp only [switchboardref22_Message.l0]
    rw [if_neg (by omega), List.drop_of_length_le (by omega)]
    simp [noWDr]
  | succ d ih =>
    intro k i out h1 h2 h3 h4
    obtain ⟨k, rfl⟩ : ∃ m, k = m + 1 := ⟨k - 1, by omega⟩
    have hi : i < l.length := by omega
    have e : wrap64 ((i : Int) + 1) = ((i + 1 : Nat) : Int) := by unfold wrap64; omega
    have hd := List.drop_eq_getElem_cons hi
    simp only [switchboardref22_Message.l0]
    rw [if_pos (by omega), if_pos (by omega), if_pos (by omega), rdR_at l i hi, e]
    by_cases hx : l[i].f0 = 24
    · rw [if_pos hx, ih k (i + 1) out (by omega) (by omega) (by omega) (by omega), hd]
      simp [noWDr, hx, -List.getElem_cons_drop]
    · rw [if_neg hx, if_pos (by omega), ih k (i + 1) _ (by omega) (by omega) (by omega) (by simp; omega), hd]
      simp [noWDr, hx, -List.getElem_cons_drop]
theorem msg_f (l : List RP) (cl tp pl : ByteArray) (q : Int) (rt : Bool) (hl : l.length < 1000000) (k : Nat) (hk : l.length < k) : switchboardref22_Message.f k l tp pl q rt cl = some (cl, 0, q, rt, noWDr l, tp, pl) := by
  have := msg_l0 l cl tp pl q rt hl l.length k 0 [] (by omega) (by omega) hk (by simp)
  simpa [switchboardref22_Message.f] using this
theorem delay_l0 (l : List RP) (hl : l.length < 1000000) (hb : ∀ p ∈ l, 0 ≤ p.f1 ∧ p.f1 ≤ 4294967295) : ∀ (d k i : Nat), l.length - i = d → i ≤ l.length → d < k → switchboardref22_delay.l0 k l (l.length : Int) (i : Int) = some (delayR (l.drop i)) := by
  intro d
  induction d with
  | zero =>
    intro k i h1 h2 h3
    obtain ⟨k, rfl⟩ : ∃ m, k = m + 1 := ⟨k - 1, by omega⟩
    simp only [switchboardref22_delay.l0]
    rw [if_neg (by omega), List.drop_of_length_le (by omega)]
    rfl
  | succ d ih =>
    intro k i h1 h2 h3
    obtain ⟨k, rfl⟩ : ∃ m, k = m + 1 := ⟨k - 1, by omega⟩
    have hi : i < l.length := by omega
    have e : wrap64 ((i : Int) + 1) = ((i + 1 : Nat) : Int) := by unfold wrap64; omega
    have hw : wrap64 l[i].f1 = l[i].f1 := by have := hb _ (List.getElem_mem hi); unfold wrap64; omega
    simp only [switchboardref22_delay.l0]
    rw [if_pos (by omega), if_pos (by omega), if_pos (by omega), rdR_at l i hi, e, ih k (i + 1) (by omega) (by omega) (by omega), List.drop_eq_getElem_cons hi, hw]
    by_cases hx : l[i].f0 = 24
    · rw [if_pos hx]
      unfold delayR
      rw [List.find?_cons_of_pos (by simpa using hx)]
    · rw [if_neg hx]
      unfold delayR
      rw [List.find?_cons_of_neg (by simpa using hx)]
theorem delay_f (l : List RP) (tp pl : ByteArray) (q : Int) (rt : Bool) (hl : l.length < 1000000) (hb : ∀ p ∈ l, 0 ≤ p.f1 ∧ p.f1 ≤ 4294967295) (k : Nat) (hk : l.length < k) : switchboardref22_delay.f k l tp pl q rt = some (delayR l) := by
  have := delay_l0 l hl hb l.length k 0 (by omega) (by omega) hk
  simpa [switchboardref22_delay.f] using this
theorem hold_f (l : List One) (c : BA) (ps : List RP) (tp pl : ByteArray) (q : Int) (rt : Bool) (hl : l.length < 1000000) (hp : ps.length < 1000000) (hb : ∀ p ∈ ps, 0 ≤ p.f1 ∧ p.f1 ≤ 4294967295) (k : Nat) (hk : l.length < k) (hk2 : ps.length < k) :
    switchboardref22_Hold.f k l c ps tp pl q rt = some (rmO l c ++ [⟨c, ⟨c, 0, q, rt, noWDr ps, tp, pl⟩, delayR ps, -1⟩]) := by
  have hr : (rmO l c).length ≤ l.length := List.length_filter_le _ _
  unfold switchboardref22_Hold.f
  rw [drop_f l c hl k hk, msg_f ps c tp pl q rt hp k hk2, delay_f ps tp pl q rt hp hb k hk2]
  simp only [Option.bind_some]
  rw [if_pos (by omega)]
def endO (l : List One) (c : BA) (now ex : Int) : List One := l.map fun x => if x.f0 = c then { x with f3 := now + min x.f2 ex } else x
theorem end_l0 (l : List One) (c : BA) (now ex : Int) (hl : l.length < 1000000) (hn0 : 0 ≤ now) (hn1 : now ≤ 1000000000000) (he0 : 0 ≤ ex) (he1 : ex ≤ 4294967295) (hb : ∀ x ∈ l, 0 ≤ x.f2 ∧ x.f2 ≤ 4294967295) : ∀ (d k i : Nat), l.length - i = d → i ≤ l.length → d < k →
    switchboardref22_End.l0 k c now ex (endO (l.take i) c now ex ++ l.drop i) (l.length : Int) (i : Int) = some (endO l c now ex) := by
  intro d
  induction d with
  | zero =>
    intro k i h1 h2 h3
    obtain ⟨k, rfl⟩ : ∃ m, k = m + 1 := ⟨k - 1, by omega⟩
    simp only [switchboardref22_End.l0]
    rw [if_neg (by omega), List.drop_of_length_le (by omega), List.take_of_length_le (by omega), List.append_nil]
  | succ d ih =>
    intro k i h1 h2 h3
    obtain ⟨k, rfl⟩ : ∃ m, k = m + 1 := ⟨k - 1, by omega⟩
    have hi : i < l.length := by omega
    have e : wrap64 ((i : Int) + 1) = ((i + 1 : Nat) : Int) := by unfold wrap64; omega
    have hlen : (endO (l.take i) c now ex ++ l.drop i).length = l.length := by simp [endO]; omega
    have htl : (endO (l.take i) c now ex).length = i := by simp [endO]; omega
    have hat : (endO (l.take i) c now ex ++ l.drop i)[i]'(by omega) = l[i] := by
      rw [List.getElem_append_right (by omega)]; simp [htl]
    have hb1 := hb _ (List.getElem_mem hi)
    have hmn : mn l[i].f2 ex = min l[i].f2 ex := by unfold mn; omega
    have hw : wrap64 (now + min l[i].f2 ex) = now + min l[i].f2 ex := by unfold wrap64; omega
    have hnext : ∀ y, (endO (l.take i) c now ex ++ l.drop i).set i y = endO (l.take i) c now ex ++ (y :: l.drop (i + 1)) := fun y => by
      rw [List.set_append_right _ _ (by omega), htl, Nat.sub_self, List.drop_eq_getElem_cons hi]; rfl
    have htk : endO (l.take (i + 1)) c now ex = endO (l.take i) c now ex ++ [if l[i].f0 = c then { l[i] with f3 := now + min l[i].f2 ex } else l[i]] := by
      rw [List.take_succ_eq_append_getElem hi]; unfold endO; rw [List.map_append]; rfl
    simp only [switchboardref22_End.l0]
    rw [if_pos (by omega), if_pos (by omega), if_pos (by omega), rdO_at _ i (by omega), hat, e]
    have ih' := ih k (i + 1) (by omega) (by omega) (by omega)
    rw [htk] at ih'
    by_cases hx : l[i].f0 = c
    · refine (if_pos ((toListE _ _).2 hx)).trans ?_
      rw [if_pos hx] at ih'
      rw [show ((i : Int)).toNat = i by omega, hnext, hmn, hw]
      simpa using ih'
    · refine (if_neg (fun h => hx ((toListE _ _).1 h))).trans ?_
      rw [if_neg hx] at ih'
      rw [List.drop_eq_getElem_cons hi]
      simpa using ih'
theorem end_f (l : List One) (c : BA) (now ex : Int) (hl : l.length < 1000000) (hn0 : 0 ≤ now) (hn1 : now ≤ 1000000000000) (he0 : 0 ≤ ex) (he1 : ex ≤ 4294967295) (hb : ∀ x ∈ l, 0 ≤ x.f2 ∧ x.f2 ≤ 4294967295) (k : Nat) (hk : l.length < k) :
    switchboardref22_End.f k l c now ex = some (endO l c now ex) := by
  unfold switchboardref22_End.f
  simp only [Option.bind_some, List.nil_append]
  rw [if_pos (by simp; omega)]
  simpa [endO] using end_l0 l c now ex hl hn0 hn1 he0 he1 hb l.length k 0 (by omega) (by omega) hk
def hasO (l : List One) (c : BA) : Int × Bool := match l.find? (fun x => decide (x.f0 = c)) with | some x => (x.f3, true) | none => (0, false)
theorem has_l0 (l : List One) (c : BA) (hl : l.length < 1000000) : ∀ (d k i : Nat), l.length - i = d → i ≤ l.length → d < k → switchboardref22_Has.l0 k c l (l.length : Int) (i : Int) = some (hasO (l.drop i) c) := by
  intro d
  induction d with
  | zero =>
    intro k i h1 h2 h3
    obtain ⟨k, rfl⟩ : ∃ m, k = m + 1 := ⟨k - 1, by omega⟩
    simp only [switchboardref22_Has.l0]
    rw [if_neg (by omega), List.drop_of_length_le (by omega)]
    rfl
  | succ d ih =>
    intro k i h1 h2 h3
    obtain ⟨k, rfl⟩ : ∃ m, k = m + 1 := ⟨k - 1, by omega⟩
    have hi : i < l.length := by omega
    have e : wrap64 ((i : Int) + 1) = ((i + 1 : Nat) : Int) := by unfold wrap64; omega
    simp only [switchboardref22_Has.l0]
    rw [if_pos (by omega), if_pos (by omega), if_pos (by omega), rdO_at l i hi, e, ih k (i + 1) (by omega) (by omega) (by omega), List.drop_eq_getElem_cons hi]
    by_cases hx : l[i].f0 = c
    · refine (if_pos ((toListE _ _).2 hx)).trans ?_
      unfold hasO
      rw [List.find?_cons_of_pos (by simpa using hx)]
    · refine (if_neg (fun h => hx ((toListE _ _).1 h))).trans ?_
      unfold hasO
      rw [List.find?_cons_of_neg (by simpa using hx)]
theorem has_f (l : List One) (c : BA) (hl : l.length < 1000000) (k : Nat) (hk : l.length < k) : switchboardref22_Has.f k l c = some (hasO l c) := by
  have := has_l0 l c hl l.length k 0 (by omega) (by omega) hk
  simpa [switchboardref22_Has.f] using this
def dueB (now : Int) (x : One) : Prop := 0 ≤ x.f3 ∧ x.f3 ≤ now
def pr (x : One) : ByteArray × Int := (x.f0, x.f3)
def IsFirst (l : List One) (now v : Int) (m : Nat) : Prop :=
  (v = -1 ∧ ∀ j (h : j < l.length), j < m → ¬ dueB now l[j]) ∨ ∃ (i : Nat) (h : i < l.length), i < m ∧ v = i ∧ dueB now l[i] ∧ ∀ j (h : j < l.length), j < m → dueB now l[j] → ¬ ltE (pr l[j]) (pr l[i])
theorem IsFirst.skip {l : List One} {now v : Int} {m : Nat} (hm : m < l.length) (h : IsFirst l now v m) (hn : ¬ dueB now l[m]) : IsFirst l now v (m + 1) := by
  rcases h with ⟨rfl, h⟩ | ⟨i, hi, h1, rfl, h2, h3⟩
  · refine .inl ⟨rfl, fun j hj hlt => ?_⟩
    rcases Nat.lt_succ_iff_lt_or_eq.1 hlt with h4 | rfl
    · exact h j hj h4
    · exact hn
  · refine .inr ⟨i, hi, by omega, rfl, h2, fun j hj hlt hd => ?_⟩
    rcases Nat.lt_succ_iff_lt_or_eq.1 hlt with h4 | rfl
    · exact h3 j hj h4 hd
    · exact absurd hd hn
theorem IsFirst.stay {l : List One} {now : Int} {m i : Nat} (hm : m < l.length) (h : IsFirst l now (i : Int) m) (hi : i < l.length) (hn : ¬ ltE (pr l[m]) (pr l[i])) : IsFirst l now (i : Int) (m + 1) := by
  rcases h with ⟨h, _⟩ | ⟨i', hi', h1, h0, h2, h3⟩
  · omega
  · obtain rfl : i = i' := by omega
    refine .inr ⟨i, hi, by omega, rfl, h2, fun j hj hlt hd => ?_⟩
    rcases Nat.lt_succ_iff_lt_or_eq.1 hlt with h4 | rfl
    · exact h3 j hj h4 hd
    · exact hn
theorem IsFirst.new {l : List One} {now : Int} {m i : Nat} (hm : m < l.length) (h : IsFirst l now (i : Int) m) (hi : i < l.length) (hd : dueB now l[m]) (hn : ltE (pr l[m]) (pr l[i])) : IsFirst l now (m : Int) (m + 1) := by
  rcases h with ⟨h, _⟩ | ⟨i', hi', h1, h0, h2, h3⟩
  · omega
  · obtain rfl : i = i' := by omega
    refine .inr ⟨m, hm, by omega, rfl, hd, fun j hj hlt hdj => ?_⟩
    rcases Nat.lt_succ_iff_lt_or_eq.1 hlt with h4 | rfl
    · exact fun h => h3 j hj h4 hdj (h.trans hn)
    · exact ltE.irrefl _
theorem IsFirst.one {l : List One} {now : Int} {m : Nat} (hm : m < l.length) (h : IsFirst l now (-1) m) (hd : dueB now l[m]) : IsFirst l now (m : Int) (m + 1) := by
  rcases h with ⟨_, h⟩ | ⟨i', hi', h1, h0, h2, h3⟩
  · refine .inr ⟨m, hm, by omega, rfl, hd, fun j hj hlt hdj => ?_⟩
    rcases Nat.lt_succ_iff_lt_or_eq.1 hlt with h4 | rfl
    · exact absurd hdj (h j hj h4)
    · exact ltE.irrefl _
  · omega
theorem first_l0 (l : List One) (now : Int) (hl : l.length < 1000000) : ∀ (d k i : Nat) (v : Int), l.length - i = d → i ≤ l.length → 2 * d + 1 < k → IsFirst l now v i →
    ∃ v', switchboardref22_first.l0 k l now v l (l.length : Int) (i : Int) = some v' ∧ IsFirst l now v' l.length := by
  intro d
  induction d with
  | zero =>
    intro k i v h1 h2 h3 h4
    obtain ⟨k, rfl⟩ : ∃ m, k = m + 1 := ⟨k - 1, by omega⟩
    obtain rfl : i = l.length := by omega
    refine ⟨v, ?_, h4⟩
    simp only [switchboardref22_first.l0]
    rw [if_neg (by omega)]
  | succ d ih =>
    intro k i v h1 h2 h3 h4
    obtain ⟨k, rfl⟩ : ∃ m, k = m + 1 + 1 := ⟨k - 2, by omega⟩
    have hi : i < l.length := by omega
    have e : wrap64 ((i : Int) + 1) = ((i + 1 : Nat) : Int) := by unfold wrap64; omega
    have go := fun v' (h : IsFirst l now v' (i + 1)) => ih k (i + 1) v' (by omega) (by omega) (by omega) h
    simp only [switchboardref22_first.l0]
    rw [if_pos (by omega), if_pos (by omega), if_pos (by omega), rdO_at l i hi]
    by_cases hneg : l[i].f3 < 0
    · rw [if_pos hneg]
      simp only [switchboardref22_first.j1]
      rw [if_pos trivial, e]
      exact go v (h4.skip hi (fun h => by have := h.1; omega))
    · rw [if_neg hneg]
      by_cases hgt : l[i].f3 > now
      · simp only [hgt, decide_true, switchboardref22_first.j1]
        rw [if_pos trivial, e]
        exact go v (h4.skip hi (fun h => by have := h.2; omega))
      · have hd : dueB now l[i] := ⟨by omega, by omega⟩
        simp only [hgt, decide_false, switchboardref22_first.j1]
        rw [if_neg (by simp)]
        by_cases hv : v < 0
        · rw [if_pos hv, e]
          have : v = -1 := by
            rcases h4 with ⟨h, _⟩ | ⟨i', _, _, h, _⟩ <;> omega
          subst this
          exact go _ (h4.one hi hd)
        · obtain ⟨b, hb, rfl⟩ : ∃ b : Nat, b < l.length ∧ v = b := by
            rcases h4 with ⟨h, _⟩ | ⟨i', h', _, h, _⟩
            · omega
            · exact ⟨i', h', h⟩
          rw [if_neg hv, if_pos (by omega), if_pos (by omega), rdO_at l b hb, e]
          by_cases c1 : l[i].f3 < l[b].f3
          · rw [if_pos c1]
            exact go _ (h4.new hi hb hd (.inl c1))
          · rw [if_neg c1]
            by_cases c2 : l[i].f3 = l[b].f3
            · rw [if_pos c2]
              by_cases c3 : l[i].f0.data.toList < l[b].f0.data.toList
              · refine Exists.imp (fun _ h => ⟨(if_pos (by rw [Go.Proofs.bytesLess_eq, ByteArray.toList_eq, ByteArray.toList_eq]; exact decide_eq_true c3)).trans h.1, h.2⟩) (go _ (h4.new hi hb hd (.inr ⟨c2, c3⟩)))
              · refine Exists.imp (fun _ h => ⟨(if_neg (by rw [Go.Proofs.bytesLess_eq, ByteArray.toList_eq, ByteArray.toList_eq]; simpa using c3)).trans h.1, h.2⟩) (go _ (h4.stay hi hb (by rintro (h | h); exact c1 h; exact c3 h.2)))
            · rw [if_neg c2]
              exact go _ (h4.stay hi hb (by rintro (h | h); exact c1 h; exact c2 h.1))
theorem first_f (l : List One) (now : Int) (hl : l.length < 1000000) (k : Nat) (hk : 2 * l.length + 1 < k) : ∃ v, switchboardref22_first.f k l now = some v ∧ IsFirst l now v l.length := by
  have := first_l0 l now hl l.length k 0 (-1) (by omega) (by omega) hk (.inl ⟨rfl, fun j _ h => by omega⟩)
  simpa [switchboardref22_first.f] using this
end R22
end Go.Proofs.Ytegnmdnflmlioaa
