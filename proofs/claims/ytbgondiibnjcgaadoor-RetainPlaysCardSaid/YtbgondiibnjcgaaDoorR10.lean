import Derived.Test.YtbgondiibnjcgaaDoorTop
import Derived.Test.YtbgondiibnjcgaaDoorPRetainPlaysx13
namespace Go.Proofs.YtbgondiibnjcgaaDoor
open Go.RowKit Go.Lib Go.Proofs.YtbgondiibnjcgaaDoor.PRetainPlays Go.Proofs.YtbgondiibnjcgaaDoorW.PrintWords Go.Proofs.YtbgondiibnjcgaaDoorW.PrintLast
set_option maxRecDepth 10000
set_option linter.unusedVariables false
set_option maxHeartbeats 1000000
namespace R10
def lvl (acc : List UInt8) : List UInt8 → List (List UInt8)
  | [] => [acc]
  | c :: t => if c = 47 then acc :: lvl [] t else lvl (acc ++ [c]) t
theorem lvl_hit (p q acc : List UInt8) (h : (47 : UInt8) ∉ p) : lvl acc (p ++ 47 :: q) = (acc ++ p) :: lvl [] q := by
  induction p generalizing acc with
  | nil => simp [lvl]
  | cons c t ih =>
    simp only [List.mem_cons, not_or] at h
    show lvl acc (c :: (t ++ 47 :: q)) = _
    rw [lvl, if_neg (fun e => h.1 e.symm), ih _ h.2]
    simp
theorem lvl_miss (p acc : List UInt8) (h : (47 : UInt8) ∉ p) : lvl acc p = [acc ++ p] := by
  induction p generalizing acc with
  | nil => simp [lvl]
  | cons c t ih =>
    simp only [List.mem_cons, not_or] at h
    rw [lvl, if_neg (fun e => h.1 e.symm), ih _ h.2]
    simp
theorem ix (c : UInt8) : ∀ s : List UInt8, (indexByte s c = -1 ∧ c ∉ s) ∨ ∃ i : Nat, indexByte s c = i ∧ i < s.length ∧ s = s.take i ++ c :: s.drop (i + 1) ∧ c ∉ s.take i := by
  intro s
  induction s with
  | nil => exact Or.inl ⟨rfl, by simp⟩
  | cons a t ih =>
    by_cases h : a = c
    · subst h
      exact Or.inr ⟨0, by simp [indexByte], by simp, by simp, by simp⟩
    · have hb : (a == c) = false := by simpa using h
      rcases ih with ⟨h1, h2⟩ | ⟨i, h1, h2, h3, h4⟩
      · exact Or.inl ⟨by simp [indexByte, hb, h1], by simp only [List.mem_cons, not_or]; exact ⟨fun e => h e.symm, h2⟩⟩
      · refine Or.inr ⟨i + 1, ?_, by simpa using h2, ?_, ?_⟩
        · have : ¬ (((i : Int)) == -1) = true := by simp
          simp only [indexByte, hb, h1, Bool.false_eq_true, if_false]
          rw [if_neg this]
          omega
        · simp only [List.take_succ_cons, List.cons_append, List.drop_succ_cons]
          rw [← h3]
        · simp only [List.take_succ_cons, List.mem_cons, not_or]
          exact ⟨fun e => h e.symm, h4⟩
theorem split_lvl : ∀ (n : Nat) (s : List UInt8), s.length = n → splitK [47] 0 (count s [47]) s = lvl [] s := by
  intro n
  induction n using Nat.strongRecOn with
  | ind n ih =>
    intro s hn
    rcases ix 47 s with ⟨h1, h2⟩ | ⟨i, h1, h2, h3, h4⟩
    · rw [count_miss (by rw [index_one]; exact h1), lvl_miss _ _ h2]
      rfl
    · have hi : index s [47] = i := by rw [index_one]; exact h1
      rw [count_hit (by simp) hi]
      have hm : ¬ (index s [47] == -1) = true := by rw [hi]; simp
      have e : (index s [47]).toNat = i := by omega
      rw [Nat.add_comm 1, splitK, if_neg hm, e]
      have hr := ih (s.drop (i + 1)).length (by simp; omega) (s.drop (i + 1)) rfl
      rw [show i + 0 = i from rfl, show i + [(47 : UInt8)].length = i + 1 from rfl, hr]
      conv => rhs; rw [h3]
      rw [lvl_hit _ _ _ h4]
      rfl
theorem levels_data (s : ByteArray) : (levels s).map (·.data.toList) = lvl [] s.data.toList := by
  unfold levels
  rw [splitB_data]
  exact split_lvl _ _ rfl
def mkB (l : List UInt8) : ByteArray := ⟨l.toArray⟩
theorem mkB_data (b : ByteArray) : mkB b.data.toList = b := by unfold mkB; simp
theorem levels_mk (s : ByteArray) : levels s = (lvl [] s.data.toList).map mkB := by
  rw [← levels_data, List.map_map]
  conv => lhs; rw [← List.map_id (levels s)]
  exact List.map_congr_left fun b _ => (mkB_data b).symm
theorem mkB_snoc (acc : List UInt8) (c : UInt8) : mkB acc ++ (⟨#[c]⟩ : ByteArray) = mkB (acc ++ [c]) := by
  have : (mkB acc ++ (⟨#[c]⟩ : ByteArray)).data.toList = (mkB (acc ++ [c])).data.toList := by simp [mkB, ByteArray.data_append]
  cases h1 : mkB acc ++ (⟨#[c]⟩ : ByteArray) with
  | mk d1 =>
    cases h2 : mkB (acc ++ [c]) with
    | mk d2 => rw [h1, h2] at this; exact congrArg ByteArray.mk (Array.toList_inj.1 this)
theorem ext_one (s : ByteArray) (i : Nat) (h : i < s.size) : s.extract i (i + 1) = ⟨#[s[i]]⟩ := by
  have : (s.extract i (i + 1)).data.toList = [s[i]] := by
    rw [extract_data]
    have hl : i < s.data.toList.length := by simpa using h
    rw [List.drop_eq_getElem_cons hl, show i + 1 - i = 1 by omega]
    rfl
  cases h1 : s.extract i (i + 1) with
  | mk d1 => rw [h1] at this; exact congrArg ByteArray.mk (Array.toList_inj.1 this)
theorem levels_l0 (s : ByteArray) (hs : s.size < 1000000) : ∀ (d k i : Nat) (out : List ByteArray) (acc : List UInt8), s.size - i = d → i ≤ s.size → d < k → out.length ≤ i → acc.length ≤ i →
    switchboardref10_Levels.l0 k s out (mkB acc) (i : Int) = some (out ++ (lvl acc (s.data.toList.drop i)).map mkB) := by
  intro d
  induction d with
  | zero =>
    intro k i out acc h1 h2 h3 h4 h5
    obtain ⟨k, rfl⟩ : ∃ m, k = m + 1 := ⟨k - 1, by omega⟩
    simp only [switchboardref10_Levels.l0]
    have hdl : s.data.toList.length = s.size := by simp
    rw [if_neg (by omega), if_pos (by omega), List.drop_of_length_le (by omega)]
    rfl
  | succ d ih =>
    intro k i out acc h1 h2 h3 h4 h5
    obtain ⟨k, rfl⟩ : ∃ m, k = m + 1 := ⟨k - 1, by omega⟩
    have hi : i < s.size := by omega
    have e : wrap64 ((i : Int) + 1) = ((i + 1 : Nat) : Int) := by unfold wrap64; omega
    have hdl : s.data.toList.length = s.size := by simp
    have hd : s.data.toList.drop i = s[i] :: s.data.toList.drop (i + 1) := by rw [List.drop_eq_getElem_cons (by omega)]; rfl
    have hbt : bt s (i : Int) = (s[i].toNat : Int) := by unfold bt; simp [hi]
    simp only [switchboardref10_Levels.l0]
    rw [if_pos (by omega), if_pos (by omega), e, hd, hbt]
    by_cases hc : s[i] = 47
    · rw [if_pos (by rw [hc]; rfl), if_pos (by omega)]
      have := ih k (i + 1) (out ++ [mkB acc]) [] (by omega) (by omega) (by omega) (by simp; omega) (by simp)
      rw [show mkB [] = (⟨#[]⟩ : ByteArray) from rfl] at this
      rw [this, lvl, if_pos hc]
      simp
    · have hx : (s.extract (i : Int).toNat ((((i + 1 : Nat) : Int)).toNat)) = ⟨#[s[i]]⟩ := by
        rw [show ((i : Int)).toNat = i by omega, show (((i + 1 : Nat) : Int)).toNat = i + 1 by omega, ext_one s i hi]
      have hsz : (mkB acc).size = acc.length := by show (acc.toArray).size = _; simp
      have hc47 : ((47 : UInt8).toNat : Int) = 47 := rfl
      have hcn : ¬ ((s[i].toNat : Int) = 47) := fun h => hc (UInt8.toNat_inj.1 (by omega))
      rw [if_neg hcn, if_pos (by omega), if_pos (by omega), hx, if_pos (by rw [hsz]; show acc.length + 1 ≤ _; omega), mkB_snoc]
      rw [ih k (i + 1) out (acc ++ [s[i]]) (by omega) (by omega) (by omega) (by omega) (by simp; omega), lvl, if_neg hc]
theorem levels_f (s : ByteArray) (hs : s.size < 1000000) (k : Nat) (hk : s.size < k) : switchboardref10_Levels.f k s = some (levels s) := by
  have := levels_l0 s hs s.size k 0 [] [] (by omega) (by omega) hk (by simp) (by simp)
  unfold switchboardref10_Levels.f
  rw [show (⟨#[]⟩ : ByteArray) = mkB [] from rfl]
  rw [show ((0 : Nat) : Int) = 0 from rfl] at this
  rw [this, levels_mk]
  simp
theorem rdS_at (l : List ByteArray) (i : Nat) (h : i < l.length) : rdOf ByteArray.empty l (i : Int) = l[i] := by unfold rdOf; simp [List.getD, h]
theorem meetsL_nil (x : ByteArray) (f : List ByteArray) : meetsL (x :: f) [] = if x = restB ∧ f = [] then true else false := by rw [meetsL]
theorem meetsL_rest {x : ByteArray} {f n : List ByteArray} (h : x = restB ∧ f = []) : meetsL (x :: f) n = true := by cases n <;> rw [meetsL, if_pos h]
theorem meets_l0 (F M : List ByteArray) (hF : F.length < 1000000) (hM : M.length < 1000000) : ∀ (d k i : Nat), F.length - i = d → i ≤ F.length → i ≤ M.length → 2 * d + 2 < k →
    switchboardref10_meets.l0 k F M (i : Int) = some (meetsL (F.drop i) (M.drop i)) := by
  intro d
  induction d with
  | zero =>
    intro k i h1 h2 h3 h4
    obtain ⟨k, rfl⟩ : ∃ m, k = m + 1 := ⟨k - 1, by omega⟩
    obtain rfl : i = F.length := by omega
    simp only [switchboardref10_meets.l0]
    rw [if_neg (by omega), List.drop_length]
    unfold meetsL
    congr 1
    rw [Bool.eq_iff_iff]
    simp only [beq_iff_eq, List.isEmpty_iff, List.drop_eq_nil_iff]
    omega
  | succ d ih =>
    intro k i h1 h2 h3 h4
    obtain ⟨k, rfl⟩ : ∃ m, k = m + 1 + 1 := ⟨k - 2, by omega⟩
    have hi : i < F.length := by omega
    have e : wrap64 ((i : Int) + 1) = ((i + 1 : Nat) : Int) := by unfold wrap64; omega
    have ew : wrap64 ((F.length : Int) - 1) = ((F.length - 1 : Nat) : Int) := by unfold wrap64; omega
    have hd : F.drop i = F[i] :: F.drop (i + 1) := List.drop_eq_getElem_cons hi
    have hnil : F.drop (i + 1) = [] ↔ i + 1 = F.length := by rw [List.drop_eq_nil_iff]; omega
    have hb : ((i : Int) == ((F.length - 1 : Nat) : Int)) = decide (i + 1 = F.length) := by
      rw [Bool.eq_iff_iff]; simp only [beq_iff_eq, decide_eq_true_eq]; omega
    simp only [switchboardref10_meets.l0, switchboardref10_meets.j1]
    rw [if_pos (by omega), if_pos (by omega), rdS_at F i hi, ew, hb, e, hd]
    have tail : ¬ (F[i] = restB ∧ F.drop (i + 1) = []) → (if (i : Int) ≥ (M.length : Int) then some false else if 0 ≤ (i : Int) then if (i : Int) < (F.length : Int) then if F[i].toList = [43] then switchboardref10_meets.l0 k F M ((i + 1 : Nat) : Int) else if (i : Int) < (M.length : Int) then if F[i].toList = (rdOf ByteArray.empty M (i : Int)).toList then switchboardref10_meets.l0 k F M ((i + 1 : Nat) : Int) else some false else none else none else none) = some (meetsL (F[i] :: F.drop (i + 1)) (M.drop i)) := by
      intro hnr
      by_cases hm : i < M.length
      · rw [if_neg (by omega), if_pos (by omega), if_pos (by omega)]
        have hdm : M.drop i = M[i] :: M.drop (i + 1) := List.drop_eq_getElem_cons hm
        have hih := ih k (i + 1) (by omega) (by omega) (by omega) (by omega)
        rw [hdm, meetsL, if_neg hnr, hih]
        by_cases h5 : F[i] = oneB
        · rw [if_pos (is_one h5), if_neg (fun h => h.1 h5)]
        · rw [if_neg (not_one h5), if_pos (by omega), rdS_at M i hm]
          by_cases h6 : F[i] = M[i]
          · rw [if_pos (by rw [h6]), if_neg (fun h => h.2 h6)]
          · rw [if_neg (fun h => h6 (tl_eq.1 h)), if_pos ⟨h5, h6⟩]
      · have hdm : M.drop i = [] := List.drop_of_length_le (by omega)
        rw [if_pos (by omega), hdm, meetsL_nil, if_neg hnr]
    by_cases hr : F[i] = restB
    · rw [if_pos (is_rest hr)]
      by_cases hl : i + 1 = F.length
      · rw [if_pos (by simpa using hl), meetsL_rest ⟨hr, hnil.2 hl⟩]
      · rw [if_neg (by simpa using hl)]
        exact tail (fun h => hl (hnil.1 h.2))
    · rw [if_neg (not_rest hr), if_neg (by simp)]
      exact tail (fun h => hr h.1)
theorem match_f (f n : ByteArray) (hf : f.size < 100000) (hn : n.size < 100000) (k : Nat) (hk : 2 * (f.size + n.size) + 10 < k) : switchboardref10_Match.f k f n = some (topM f n) := by
  have hlf := levels_le f
  have hln := levels_le n
  have hl0 : 0 < (levels f).length := by rw [levels_length]; omega
  unfold switchboardref10_Match.f
  rw [levels_f f (by omega) k (by omega)]
  simp only [Option.bind_some]
  obtain ⟨k, rfl⟩ : ∃ m, k = m + 1 := ⟨k - 1, by omega⟩
  have hj : switchboardref10_Match.j0 (k + 1) n (levels f) false = some (meetsL (levels f) (levels n)) := by
    simp only [switchboardref10_Match.j0]
    rw [if_neg (by simp), levels_f n (by omega) k (by omega)]
    simp only [Option.bind_some]
    unfold switchboardref10_meets.f
    have := meets_l0 (levels f) (levels n) (by omega) (by omega) (levels f).length k 0 (by omega) (by omega) (by omega) (by omega)
    rw [show ((0 : Nat) : Int) = 0 from rfl] at this
    rw [this]; rfl
  have hjt : switchboardref10_Match.j0 (k + 1) n (levels f) true = some false := by
    simp only [switchboardref10_Match.j0]; rfl
  unfold topM hid
  by_cases h0 : n.size = 0
  · have hn0 : n.toList = [] := by rw [ByteArray.toList_eq]; cases n with | mk d => cases d with | mk l => cases l with | nil => rfl | cons a t => exact absurd h0 (by simp [ByteArray.size])
    rw [if_pos hn0, hj, if_neg (by simp [h0])]
  · have hn0 : ¬ n.toList = [] := by
      rw [ByteArray.toList_eq]; intro e; apply h0
      have := congrArg List.length e
      simpa using this
    rw [if_neg hn0, if_pos (by omega)]
    have hb0 : bt n 0 = (n[0].toNat : Int) := by unfold bt; simp [show 0 < n.size by omega]
    have hx : n.extract 0 1 = ⟨#[n[0]]⟩ := ext_one n 0 (by omega)
    have hq : ((n.extract 0 1).toList == (⟨#[36]⟩ : ByteArray).toList) = decide (n[0] = 36) := by
      rw [hx, ByteArray.toList_eq, ByteArray.toList_eq, Bool.eq_iff_iff]; simp
    rw [hq, hb0]
    have hg : (levels f).getD 0 oneB = rdOf ByteArray.empty (levels f) 0 := by
      have := rdS_at (levels f) 0 hl0
      rw [show ((0 : Nat) : Int) = 0 from rfl] at this
      rw [this]; simp [List.getD, hl0]
    have h36 : ((36 : UInt8).toNat : Int) = 36 := rfl
    by_cases h6 : n[0] = 36
    · rw [if_pos (by rw [h6]; rfl), if_pos (by omega), hg]
      by_cases h7 : rdOf ByteArray.empty (levels f) 0 = oneB
      · rw [if_pos (is_one h7), hjt, if_pos ⟨by simp [h6]; omega, Or.inl h7⟩]
      · rw [if_neg (not_one h7)]
        by_cases h8 : rdOf ByteArray.empty (levels f) 0 = restB
        · rw [is_rest h8, show (([35] : List UInt8) == [35]) = true from rfl, hjt, if_pos ⟨by simp [h6]; omega, Or.inr h8⟩]
        · have : ((rdOf ByteArray.empty (levels f) 0).toList == ([35] : List UInt8)) = false := by
            have := not_rest h8; simpa using this
          rw [this, hj, if_neg (fun h => h.2.elim h7 h8)]
    · rw [if_neg (fun h => h6 (UInt8.toNat_inj.1 (by omega))), hj, if_neg (by simp [h6])]
end R10
end Go.Proofs.YtbgondiibnjcgaaDoor
