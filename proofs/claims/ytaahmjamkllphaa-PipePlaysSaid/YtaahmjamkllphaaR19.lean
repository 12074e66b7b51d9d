/- The document's answer for layer 19 as plain lists: what the printed functions give, and how it goes with the connections that package pipe holds. -/
import Derived.Test.YtaahmjamkllphaaPHangx1
import Derived.Test.YtaahmjamkllphaaOne
import Derived.Test.YtaahmjamkllphaaKd
namespace Go.Proofs.Ytaahmjamkllphaa
open Go.RowKit Go.Proofs.Ytaahmjamkllphaa.PHang Go.Proofs.YtaahmjamkllphaaW.PrintWords Go.Proofs.YtaahmjamkllphaaW.PrintLast
set_option maxRecDepth 10000
set_option linter.unusedVariables false
set_option maxHeartbeats 1000000

namespace R19
abbrev One := S52

def lk : List One → Int → Option One
  | [], _ => none
  | x :: t, id => if x.f0 = id then some x else lk t id

def fnd : List One → Nat → Int → Int
  | [], _, _ => -1
  | x :: t, i, id => if x.f0 = id then i else fnd t (i + 1) id

def rep : List One → Int → One → List One
  | [], _, _ => []
  | x :: t, id, c => if x.f0 = id then c :: t else x :: rep t id c

abbrev newc (id : Int) : One := ⟨id, ⟨#[]⟩, 0, false, ⟨#[]⟩, false⟩

def ins : List One → Int → List One
  | [], id => [newc id]
  | x :: t, id => if id < x.f0 then newc id :: x :: t else x :: ins t id

theorem rd_at (l : List One) (i : Nat) (h : i < l.length) : rd_T52 l (i : Int) = l[i] := by
  unfold rd_T52
  simp [List.getD, h]

theorem fnd_none (l : List One) (i : Nat) (id : Int) (h : lk l id = none) : fnd l i id = -1 := by
  induction l generalizing i with
  | nil => rfl
  | cons x t ih =>
    simp only [lk] at h
    split at h
    · cases h
    · rename_i hx; simp only [fnd, if_neg hx]; exact ih _ h

theorem fnd_some (l : List One) (i : Nat) (id : Int) (c : One) (h : lk l id = some c) : ∃ j, fnd l i id = ((i + j : Nat) : Int) ∧ j < l.length ∧ l[j]? = some c ∧ c.f0 = id ∧ ∀ d, l.set j d = rep l id d := by
  induction l generalizing i with
  | nil => simp [lk] at h
  | cons x t ih =>
    simp only [lk] at h
    split at h
    · rename_i hx
      cases h
      exact ⟨0, by simp [fnd, hx], by simp, by simp, hx, fun d => by simp [rep, hx]⟩
    · rename_i hx
      obtain ⟨j, h1, h2, h3, h4, h5⟩ := ih (i + 1) h
      refine ⟨j + 1, ?_, by simpa using h2, by simpa using h3, h4, fun d => by simp [rep, hx, h5]⟩
      simp only [fnd, if_neg hx]
      rw [h1]; congr 1; omega

theorem find_l0 (l : List One) (id : Int) (hl : l.length < 1000000) : ∀ (d k i : Nat), l.length - i = d → i ≤ l.length → d < k → switchboardref19_find.l0 k id l (l.length : Int) (i : Int) = some (fnd (l.drop i) i id) := by
  intro d
  induction d with
  | zero =>
    intro k i h1 h2 h3
    obtain ⟨k, rfl⟩ : ∃ m, k = m + 1 := ⟨k - 1, by omega⟩
    simp only [switchboardref19_find.l0]
    rw [if_neg (by omega), List.drop_of_length_le (by omega)]
    rfl
  | succ d ih =>
    intro k i h1 h2 h3
    obtain ⟨k, rfl⟩ : ∃ m, k = m + 1 := ⟨k - 1, by omega⟩
    have hi : i < l.length := by omega
    simp only [switchboardref19_find.l0]
    rw [if_pos (by omega), if_pos (by omega), if_pos (by omega), rd_at l i hi, List.drop_eq_getElem_cons hi]
    simp only [fnd]
    split
    · rfl
    · have e : wrap64 ((i : Int) + 1) = ((i + 1 : Nat) : Int) := by unfold wrap64; omega
      rw [e]; exact ih k (i + 1) (by omega) (by omega) (by omega)

theorem find_f (l : List One) (id : Int) (hl : l.length < 1000000) (k : Nat) (hk : l.length < k) : switchboardref19_find.f k l id = some (fnd l 0 id) := by
  have := find_l0 l id hl l.length k 0 (by omega) (by omega) hk
  unfold switchboardref19_find.f
  simpa using this

theorem may_none (l : List One) (id : Int) (hl : l.length < 1000000) (k : Nat) (hk : l.length < k) (h : lk l id = none) : switchboardref19_may.f k l id = some (0, 7) := by
  unfold switchboardref19_may.f
  rw [find_f l id hl k hk, fnd_none l 0 id h]
  simp

theorem may_some (l : List One) (id : Int) (hl : l.length < 1000000) (k : Nat) (hk : l.length < k) (c : One) (h : lk l id = some c) :
    ∃ j : Nat, switchboardref19_may.f k l id = some ((j : Int), if c.f5 = true then 13 else 0) ∧ j < l.length ∧ rd_T52 l (j : Int) = c ∧ c.f0 = id ∧ ∀ d, l.set j d = rep l id d := by
  obtain ⟨j, h1, h2, h3, h4, h5⟩ := fnd_some l 0 id c h
  have e : rd_T52 l (j : Int) = c := by rw [rd_at l j h2]; rw [List.getElem?_eq_getElem h2] at h3; simpa using h3
  refine ⟨j, ?_, h2, e, h4, h5⟩
  unfold switchboardref19_may.f
  rw [find_f l id hl k hk, h1]
  simp only [Option.bind_some, Nat.zero_add]
  have c1 : ¬ (j : Int) < 0 := by omega
  have c2 : 0 ≤ (j : Int) := by omega
  have c3 : (j : Int) < (l.length : Int) := by omega
  rw [if_neg c1, if_pos c2, if_pos c3, e]
  cases c.f5 <;> rfl

theorem set_f (l : List One) (j : Nat) (hl : l.length < 1000000) (hj : j < l.length) (a0 : Int) (a1 : ByteArray) (a2 : Int) (a3 : Bool) (a4 : ByteArray) (a5 : Bool) :
    switchboardref19_set.f l (j : Int) a0 a1 a2 a3 a4 a5 = some (l.set j ⟨a0, a1, a2, a3, a4, a5⟩) := by
  unfold switchboardref19_set.f
  simp only [Option.bind_some, List.length_nil, Nat.zero_add, List.nil_append]
  have c1 : l.length < 2199023255552 := by omega
  have c2 : 0 ≤ (j : Int) := by omega
  have c3 : (j : Int) < (l.length : Int) := by omega
  rw [if_pos c1, if_pos c2, if_pos c3, show (j : Int).toNat = j by omega]

/-- How a connection of the document lies in package pipe. -/
def cn (c : One) : Cn := ⟨⟨c.f1.extract c.f2.toNat c.f1.size, c.f2, c.f3⟩, c.f4, c.f5⟩

def Okc (N : Nat) (c : One) : Prop := 0 ≤ c.f2 ∧ c.f2 ≤ c.f1.size ∧ c.f1.size ≤ N ∧ c.f4.size ≤ N

structure Same (M : Int → Option Cn) (l : List One) (N : Nat) : Prop where
  rise : l.Pairwise (fun x y => x.f0 < y.f0)
  look : ∀ k, M k = (lk l k).map cn
  ok : ∀ c ∈ l, Okc N c

theorem lk_mem {l : List One} {id : Int} {c : One} (h : lk l id = some c) : c ∈ l ∧ c.f0 = id := by
  induction l with
  | nil => simp [lk] at h
  | cons x t ih =>
    simp only [lk] at h
    split at h
    · cases h; rename_i hx; exact ⟨by simp, hx⟩
    · exact ⟨List.mem_cons_of_mem _ (ih h).1, (ih h).2⟩

theorem lk_rep (l : List One) (id x : Int) (c : One) (hc : c.f0 = id) : lk (rep l id c) x = if x = id then (lk l id).map (fun _ => c) else lk l x := by
  induction l with
  | nil => simp [rep, lk]
  | cons y t ih =>
    simp only [rep]
    by_cases h : y.f0 = id
    · rw [if_pos h]
      simp only [lk]
      by_cases hx : x = id
      · subst hx; simp [hc, h]
      · rw [if_neg hx, if_neg (by omega), if_neg (by omega)]
    · rw [if_neg h]
      simp only [lk, ih]
      by_cases hx : x = id
      · subst hx; simp [h]
      · rw [if_neg hx]; simp [hx]

theorem lk_ins (l : List One) (id x : Int) (h : lk l id = none) : lk (ins l id) x = if x = id then some (newc id) else lk l x := by
  induction l with
  | nil => simp only [ins, lk]; by_cases hx : id = x <;> simp [hx] <;> (intro e; exact absurd e.symm hx)
  | cons y t ih =>
    simp only [lk] at h
    split at h
    · cases h
    · rename_i hy
      simp only [ins]
      by_cases hlt : id < y.f0
      · rw [if_pos hlt]
        simp only [lk]
        by_cases hx : x = id
        · subst hx; simp
        · rw [if_neg (by omega), if_neg hx]
      · rw [if_neg hlt]
        simp only [lk, ih h]
        by_cases hx : x = id
        · subst hx; simp [hy]
        · simp [hx]

theorem rep_f0 (l : List One) (id : Int) (c : One) (hc : c.f0 = id) : (rep l id c).map (·.f0) = l.map (·.f0) := by
  induction l with
  | nil => rfl
  | cons y t ih => simp only [rep]; split <;> simp_all

theorem rise_iff {l : List One} : l.Pairwise (fun x y => x.f0 < y.f0) ↔ (l.map (·.f0)).Pairwise (· < ·) := by rw [List.pairwise_map]

theorem rep_mem (l : List One) (id : Int) (c : One) : ∀ z ∈ rep l id c, z = c ∨ z ∈ l := by
  induction l with
  | nil => simp [rep]
  | cons y t ih =>
    simp only [rep]
    split
    · intro z hz; simp at hz; rcases hz with rfl | hz
      · exact .inl rfl
      · exact .inr (by simp [hz])
    · intro z hz; simp at hz; rcases hz with rfl | hz
      · exact .inr (by simp)
      · rcases ih z hz with h | h
        · exact .inl h
        · exact .inr (by simp [h])

theorem ins_mem (l : List One) (id : Int) : ∀ z ∈ ins l id, z = newc id ∨ z ∈ l := by
  induction l with
  | nil => simp [ins]
  | cons y t ih =>
    simp only [ins]
    split
    · intro z hz; simp at hz; rcases hz with rfl | rfl | hz
      · exact .inl rfl
      · exact .inr (by simp)
      · exact .inr (by simp [hz])
    · intro z hz; simp at hz; rcases hz with rfl | hz
      · exact .inr (by simp)
      · rcases ih z hz with h | h
        · exact .inl h
        · exact .inr (by simp [h])

theorem ins_rise {l : List One} (hr : l.Pairwise (fun x y => x.f0 < y.f0)) (id : Int) (h : lk l id = none) : (ins l id).Pairwise (fun x y => x.f0 < y.f0) := by
  induction l with
  | nil => simp [ins]
  | cons y t ih =>
    have h1 := (List.pairwise_cons.1 hr).1
    have h2 := (List.pairwise_cons.1 hr).2
    simp only [lk] at h
    split at h
    · cases h
    · rename_i hy
      simp only [ins]
      by_cases hlt : id < y.f0
      · rw [if_pos hlt]
        refine List.pairwise_cons.2 ⟨fun z hz => ?_, hr⟩
        simp at hz
        rcases hz with rfl | hz
        · exact hlt
        · have := h1 z hz; simp only; omega
      · rw [if_neg hlt]
        refine List.pairwise_cons.2 ⟨fun z hz => ?_, ih h2 h⟩
        rcases ins_mem t id z hz with e | e
        · rw [e]; simp only; omega
        · exact h1 z e

theorem ins_len (l : List One) (id : Int) : (ins l id).length = l.length + 1 := by
  induction l with
  | nil => rfl
  | cons y t ih => simp only [ins]; split <;> simp [ih]

theorem rep_len (l : List One) (id : Int) (c : One) : (rep l id c).length = l.length := by
  induction l with
  | nil => rfl
  | cons y t ih => simp only [rep]; split <;> simp [ih]

theorem cn_new (id : Int) : cn (newc id) = Cn.new := rfl

theorem Okc.mono {N N' : Nat} {c : One} (h : Okc N c) (hN : N ≤ N') : Okc N' c := ⟨h.1, h.2.1, by have := h.2.2.1; omega, by have := h.2.2.2; omega⟩

theorem Same.mono {M : Int → Option Cn} {l : List One} {N N' : Nat} (h : Same M l N) (hN : N ≤ N') : Same M l N' := ⟨h.rise, h.look, fun c hc => (h.ok c hc).mono hN⟩

theorem Same.rep {M : Int → Option Cn} {l : List One} {N : Nat} (h : Same M l N) {id : Int} {c d : One} (hc : lk l id = some c) (hd : d.f0 = id) (hok : Okc N d) (x : Cn) (hx : cn d = x) : Same (upM M id x) (rep l id d) N := by
  subst hx
  refine ⟨rise_iff.2 (by rw [rep_f0 l id d hd]; exact rise_iff.1 h.rise), fun k => ?_, fun z hz => ?_⟩
  · rw [lk_rep l id k d hd]
    unfold upM
    by_cases hk : k = id
    · rw [if_pos hk, if_pos hk, hc]; rfl
    · rw [if_neg hk, if_neg hk, h.look]
  · rcases rep_mem l id d z hz with rfl | hz
    · exact hok
    · exact h.ok z hz

theorem Same.ins {M : Int → Option Cn} {l : List One} {N : Nat} (h : Same M l N) {id : Int} (hc : lk l id = none) : Same (upM M id Cn.new) (ins l id) N := by
  refine ⟨ins_rise h.rise id hc, fun k => ?_, fun z hz => ?_⟩
  · rw [lk_ins l id k hc]
    unfold upM
    by_cases hk : k = id
    · rw [if_pos hk, if_pos hk]; exact (congrArg some (cn_new id)).symm
    · rw [if_neg hk, if_neg hk, h.look]
  · rcases ins_mem l id z hz with rfl | hz
    · exact ⟨by simp, by simp, Nat.zero_le _, Nat.zero_le _⟩
    · exact h.ok z hz

/-! What each call gives. -/
def pOpen (l : List One) (id : Int) : List One × Int := match lk l id with
  | none => (ins l id, 0)
  | some _ => (l, 8)
def pWrite (l : List One) (id : Int) (s : ByteArray) : List One × Int := match lk l id with
  | none => (l, 7)
  | some c => if c.f5 then (l, 13) else if c.f3 then (l, 13) else (rep l id ⟨c.f0, c.f1 ++ s, c.f2, c.f3, c.f4, c.f5⟩, 0)
def pSay (l : List One) (id : Int) (s : ByteArray) : List One × Int := match lk l id with
  | none => (l, 7)
  | some c => if c.f5 then (l, 13) else (rep l id ⟨c.f0, c.f1, c.f2, c.f3, c.f4 ++ s, c.f5⟩, 0)
def pHang (l : List One) (id : Int) : List One × Int := match lk l id with
  | none => (l, 7)
  | some c => if c.f5 then (l, 13) else (rep l id ⟨c.f0, c.f1, c.f2, c.f3, c.f4, true⟩, 0)
def kk (c : One) (m : Int) : Int := min (max m 0) (c.f1.size - c.f2)
def pCut (l : List One) (id m : Int) : List One × Int := match lk l id with
  | none => (l, 7)
  | some c => if c.f5 then (l, 13) else (rep l id ⟨c.f0, c.f1.extract 0 (c.f2 + kk c m).toNat, c.f2, true, c.f4, c.f5⟩, 0)
def pRead (l : List One) (id m : Int) : List One × ByteArray × Bool × Int := match lk l id with
  | none => (l, ⟨#[]⟩, false, 7)
  | some c => if c.f5 then (l, ⟨#[]⟩, false, 13) else (rep l id ⟨c.f0, c.f1, c.f2 + kk c m, c.f3, c.f4, c.f5⟩, c.f1.extract c.f2.toNat (c.f2 + kk c m).toNat, c.f3 && decide (c.f2 + kk c m = c.f1.size), 0)
end R19
end Go.Proofs.Ytaahmjamkllphaa
