import Derived.Test.YtegnmdnflmlioaaR22
import Derived.Test.YtegnmdnflmlioaaWd
namespace Go.Proofs.Ytegnmdnflmlioaa
open Go.RowKit Go.Proofs.Ytegnmdnflmlioaa.PWillPlays Go.Proofs.YtegnmdnflmlioaaW.PrintWords Go.Proofs.YtegnmdnflmlioaaW.PrintLast
set_option maxRecDepth 10000
set_option linter.unusedVariables false
set_option maxHeartbeats 1000000
namespace R22
theorem erase_rm : ∀ (l : List One) (i : Nat) (h : i < l.length), (l.map (·.f0)).Nodup → l.eraseIdx i = rmO l l[i].f0 := by
  intro l
  induction l with
  | nil => intro i h; simp at h
  | cons a t ih =>
    intro i h hn
    simp only [List.map_cons, List.nodup_cons] at hn
    cases i with
    | zero =>
      simp only [List.eraseIdx_cons_zero, List.getElem_cons_zero, rmO]
      rw [List.filter_cons_of_neg (by simp)]
      refine (List.filter_eq_self.2 fun p hp => ?_).symm
      have : p.f0 ≠ a.f0 := fun e => hn.1 (e ▸ List.mem_map_of_mem hp)
      simpa using this
    | succ i =>
      have hi : i < t.length := by simpa using h
      simp only [List.eraseIdx_cons_succ, List.getElem_cons_succ, rmO]
      have : a.f0 ≠ t[i].f0 := fun e => hn.1 (e ▸ List.mem_map_of_mem (List.getElem_mem hi))
      rw [List.filter_cons_of_pos (by simpa using this), ih i hi hn.2]
      rfl
theorem mem_rm {l : List One} {c : BA} {x : One} : x ∈ rmO l c ↔ x ∈ l ∧ x.f0 ≠ c := by simp [rmO]
theorem nd_rm {l : List One} (h : (l.map (·.f0)).Nodup) (c : BA) : ((rmO l c).map (·.f0)).Nodup := h.sublist (List.filter_sublist.map _)
def getO (l : List One) (c : BA) : One := (l.find? fun x => decide (x.f0 = c)).getD z87
theorem getO_mem {l : List One} (hn : (l.map (·.f0)).Nodup) {x : One} (hx : x ∈ l) : getO l x.f0 = x := by
  induction l with
  | nil => simp at hx
  | cons a t ih =>
    simp only [List.map_cons, List.nodup_cons] at hn
    unfold getO
    rcases List.mem_cons.1 hx with rfl | hx
    · rw [List.find?_cons_of_pos (by simp)]; rfl
    · have : a.f0 ≠ x.f0 := fun e => hn.1 (e ▸ List.mem_map_of_mem hx)
      rw [List.find?_cons_of_neg (by simpa using this)]
      exact ih hn.2 hx
def msgR (l : List One) (now : Int) (e : En) : RM := { (getO l e.1).f1 with f1 := now }
instance (now : Int) (x : One) : Decidable (dueB now x) := by unfold dueB; infer_instance
theorem wrap_nat (i : Nat) (h : i < 2000000000) : wrap64 ((i : Int) + 1) = ((i + 1 : Nat) : Int) := by unfold wrap64; omega
structure D (l : List One) (now : Int) (ds : List En) : Prop where
  nd : (l.map (·.f0)).Nodup
  st : ds.Pairwise ltE
  has : ∀ e ∈ ds, ∃ x ∈ l, pr x = e ∧ dueB now x
  all : ∀ x ∈ l, dueB now x → pr x ∈ ds
theorem due_l0 (now : Int) (n : Nat) : ∀ (ds : List En) (l : List One) (k t : Nat) (out : List RM), D l now ds → l.length < 1000000 → n < 1000000 → out.length ≤ t → ds.length + t ≤ n → 2 * l.length + 2 + (n - t) < k →
    switchboardref22_Due.l0 k l now out (n : Int) (t : Int) = some (l.filter (fun x => decide (¬ dueB now x)), out ++ ds.map (msgR l now)) := by
  intro ds
  induction ds with
  | nil =>
    intro l k t out hD hl hn ho ht hk
    have hf : l.filter (fun x => decide (¬ dueB now x)) = l := List.filter_eq_self.2 fun x hx => by
      simp only [decide_eq_true_eq]
      exact fun h => by have := hD.all x hx h; simp at this
    rw [hf]
    obtain ⟨k, rfl⟩ : ∃ m, k = m + 1 := ⟨k - 1, by omega⟩
    simp only [switchboardref22_Due.l0]
    by_cases htn : (t : Int) < (n : Int)
    · rw [if_pos htn]
      obtain ⟨v, hv, hF⟩ := first_f l now hl k (by omega)
      rw [hv]
      simp only [Option.bind_some]
      rcases hF with ⟨rfl, _⟩ | ⟨i, hi, _, rfl, hd, _⟩
      · rw [if_pos (by decide)]; simp
      · have := hD.all _ (List.getElem_mem hi) hd
        simp at this
    · rw [if_neg htn]; simp
  | cons e ds ih =>
    intro l k t out hD hl hn ho ht hk
    obtain ⟨k, rfl⟩ : ∃ m, k = m + 1 := ⟨k - 1, by omega⟩
    simp only [List.length_cons] at ht
    simp only [switchboardref22_Due.l0]
    rw [if_pos (by omega)]
    obtain ⟨v, hv, hF⟩ := first_f l now hl k (by omega)
    rw [hv]
    simp only [Option.bind_some]
    obtain ⟨x, hx, hxe, hxd⟩ := hD.has e (by simp)
    obtain ⟨jx, hjx, rfl⟩ := List.getElem_of_mem hx
    rcases hF with ⟨_, hno⟩ | ⟨i, hi, _, rfl, hd, hmin⟩
    · exact absurd hxd (hno jx hjx hjx)
    · have hst := List.pairwise_cons.1 hD.st
      have hie : pr l[i] = e := by
        rcases List.mem_cons.1 (hD.all _ (List.getElem_mem hi) hd) with h | h
        · exact h
        · exact absurd (hxe ▸ hst.1 _ h) (hmin jx hjx hjx hxd)
      have he1 : e.1 = l[i].f0 := by rw [← hie]; rfl
      have htl : (l.take i).length ≤ l.length := by simp; omega
      have hdl : (l.drop (i + 1)).length ≤ l.length := by simp
      have her : l.take i ++ l.drop (i + 1) = rmO l l[i].f0 := by rw [← List.eraseIdx_eq_take_drop_succ, erase_rm l i hi hD.nd]
      have hrl : (rmO l l[i].f0).length + 1 = l.length := by rw [← erase_rm l i hi hD.nd, List.length_eraseIdx]; simp [hi]; omega
      have hD' : D (rmO l l[i].f0) now ds := by
        refine ⟨nd_rm hD.nd _, hst.2, fun e' he' => ?_, fun x hx hdx => ?_⟩
        · obtain ⟨y, hy, hye, hyd⟩ := hD.has e' (by simp [he'])
          refine ⟨y, mem_rm.2 ⟨hy, fun h => ?_⟩, hye, hyd⟩
          have : y = l[i] := by rw [← getO_mem hD.nd hy, h, getO_mem hD.nd (List.getElem_mem hi)]
          rw [this, hie] at hye
          exact ltE.irrefl e (by have := hst.1 e' he'; rwa [← hye] at this)
        · obtain ⟨h1, h2⟩ := mem_rm.1 hx
          rcases List.mem_cons.1 (hD.all x h1 hdx) with h | h
          · exact absurd (show x.f0 = l[i].f0 by rw [← he1, ← h]; rfl) h2
          · exact h
      have hms : ds.map (msgR (rmO l l[i].f0) now) = ds.map (msgR l now) := by
        refine List.map_congr_left fun e' he' => ?_
        obtain ⟨y, hy, hye, hyd⟩ := hD'.has e' he'
        have h1 : e'.1 = y.f0 := by rw [← hye]; rfl
        unfold msgR
        rw [h1, getO_mem hD'.nd hy, getO_mem hD.nd (mem_rm.1 hy).1]
      have hfl : (rmO l l[i].f0).filter (fun x => decide (¬ dueB now x)) = l.filter (fun x => decide (¬ dueB now x)) := by
        unfold rmO
        rw [List.filter_filter]
        refine List.filter_congr fun y hy => ?_
        by_cases h : y.f0 = l[i].f0
        · have : y = l[i] := by rw [← getO_mem hD.nd hy, h, getO_mem hD.nd (List.getElem_mem hi)]
          rw [this]; simp [hd]
        · simp [h]
      have hm1 : msgR l now e = { l[i].f1 with f1 := now } := by
        unfold msgR; rw [he1, getO_mem hD.nd (List.getElem_mem hi)]
      have c1 : ¬ ((i : Int) < 0) := by omega
      have c2 : 0 ≤ (i : Int) := by omega
      have c3 : (i : Int) < (l.length : Int) := by omega
      have c4 : out.length < 1599289640401 := by omega
      have c5 : (i : Int) ≤ (l.length : Int) := by omega
      have c6 : ([] : List One).length + (l.take i).length < 1172812402961 := by simp; omega
      have c7 : 0 ≤ ((i + 1 : Nat) : Int) := by omega
      have c8 : ((i + 1 : Nat) : Int) ≤ (l.length : Int) := by omega
      have c9 : (l.take i).length + (l.drop (i + 1)).length < 1172812402961 := by omega
      have n1 : ((i : Int)).toNat = i := by omega
      have n2 : (((i + 1 : Nat) : Int)).toNat = i + 1 := by omega
      have n3 : (rmO l l[i].f0).length < 1000000 := by omega
      have n4 : ∀ y, (out ++ [y]).length ≤ t + 1 := fun y => by simp; omega
      have n5 : ds.length + (t + 1) ≤ n := by omega
      have n6 : 2 * (rmO l l[i].f0).length + 2 + (n - (t + 1)) < k := by omega
      have fin := ih (rmO l l[i].f0) k (t + 1) (out ++ [{ l[i].f1 with f1 := now }]) hD' n3 hn (n4 _) n5 n6
      have e1 : wrap64 ((i : Int) + 1) = ((i + 1 : Nat) : Int) := wrap_nat i (by omega)
      have e2 : wrap64 ((t : Int) + 1) = ((t + 1 : Nat) : Int) := wrap_nat t (by omega)
      rw [if_neg c1, if_pos c2, if_pos c3, if_pos c4, if_pos c5, n1, if_pos c6, e1, if_pos c7, if_pos c8, n2]
      simp only [List.nil_append]
      rw [if_pos c9, her, e2, rdO_at l i hi]
      refine fin.trans ?_
      rw [hfl, hms, List.map_cons, hm1]
      simp
theorem due_f (l : List One) (now : Int) (ds : List En) (hD : D l now ds) (hl : l.length < 1000000) (hds : ds.length ≤ l.length) (k : Nat) (hk : 3 * l.length + 3 < k) :
    switchboardref22_Due.f k l now = some (l.filter (fun x => decide (¬ dueB now x)), ds.map (msgR l now)) := by
  have := due_l0 now l.length ds l k 0 [] hD hl hl (by simp) (by omega) (by omega)
  simpa [switchboardref22_Due.f] using this
end R22
end Go.Proofs.Ytegnmdnflmlioaa
