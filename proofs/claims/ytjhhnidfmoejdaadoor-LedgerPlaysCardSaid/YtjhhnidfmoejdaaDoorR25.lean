import Derived.Test.YtjhhnidfmoejdaaDoorP10
import Derived.Test.YtjhhnidfmoejdaaDoorPLedgerPlaysx11
namespace Go.Proofs.YtjhhnidfmoejdaaDoor
open Go.RowKit Go.Lib Go.Proofs.YtjhhnidfmoejdaaDoor.PLedgerPlays Go.Proofs.YtjhhnidfmoejdaaDoorW.PrintWords Go.Proofs.YtjhhnidfmoejdaaDoorW.PrintLast
set_option maxRecDepth 10000
set_option linter.unusedVariables false
set_option maxHeartbeats 1000000
namespace R25
abbrev RX := S87
def toX (e : SX) : RX := ⟨e.f0, e.f1, e.f2, e.f3, e.f4, e.f5⟩
theorem rdR_at (l : List RX) (i : Nat) (h : i < l.length) : rd_T87 l (i : Int) = l[i] := by unfold rd_T87; simp [List.getD, h]
theorem rdX_at (l : List SX) (i : Nat) (h : i < l.length) : rd_T66 l (i : Int) = l[i] := by unfold rd_T66; simp [List.getD, h]
theorem rd_at (l : List Int) (i : Nat) (h : i < l.length) : rd l (i : Int) = l[i] := by unfold rd; simp [List.getD, h]
theorem up1 {i n : Nat} (h : i < n) (hn : n < 1000000) : wrap64 ((i : Int) + 1) = ((i + 1 : Nat) : Int) := by unfold wrap64; omega
theorem w_up (i : Nat) (h : i < 1000000) : wrap64 ((i : Int) + 1) = ((i + 1 : Nat) : Int) := by unfold wrap64; omega
theorem w_id (a : Int) (h : 0 ≤ a ∧ a < 100000) : wrap64 a = a := by unfold wrap64; omega
theorem w_div (n : Nat) (h : n < 1000000) : wrap64 (Int.tdiv (n : Int) 10) = ((n / 10 : Nat) : Int) := by
  rw [Int.tdiv_eq_ediv_of_nonneg (by omega)]; unfold wrap64; omega
theorem w_mod (n : Nat) : Int.tmod (n : Int) 10 = ((n % 10 : Nat) : Int) := by rw [Int.tmod_eq_emod_of_nonneg (by omega)]; omega
def place (id : Int) : Nat → List RX → Int
  | _, [] => -1
  | i, y :: t => if y.f0 = id then (i : Int) else place id (i + 1) t
theorem find_l0 (l : List RX) (id : Int) (hl : l.length < 1000000) : ∀ (d k i : Nat), l.length - i = d → i ≤ l.length → d < k →
    switchboardref25_find.l0 k id l (l.length : Int) (i : Int) = some (place id i (l.drop i)) := by
  intro d
  induction d with
  | zero =>
    intro k i h1 h2 h3
    obtain ⟨k, rfl⟩ : ∃ m, k = m + 1 := ⟨k - 1, by omega⟩
    simp only [switchboardref25_find.l0]
    rw [if_neg (by omega), List.drop_of_length_le (by omega)]
    rfl
  | succ d ih =>
    intro k i h1 h2 h3
    obtain ⟨k, rfl⟩ : ∃ m, k = m + 1 := ⟨k - 1, by omega⟩
    have hi : i < l.length := by omega
    simp only [switchboardref25_find.l0]
    rw [if_pos (by omega), if_pos (by omega), if_pos (by omega), rdR_at l i hi, up1 hi hl, ih k (i + 1) (by omega) (by omega) (by omega), List.drop_eq_getElem_cons hi]
    simp only [place]
    split <;> rfl
theorem find_f (l : List RX) (id : Int) (hl : l.length < 1000000) (k : Nat) (hk : l.length < k) : switchboardref25_find.f k l id = some (place id 0 l) := by
  have := find_l0 l id hl l.length k 0 (by omega) (by omega) hk
  simpa [switchboardref25_find.f] using this
def setL (x : RX) : Bool → List RX → List RX
  | d, [] => if d = true then [] else [x]
  | d, y :: t => if y.f0 = x.f0 then setL x d t else if d = true then y :: setL x d t else if x.f0 < y.f0 then x :: y :: setL x true t else y :: setL x d t
theorem set_l0 (l : List RX) (x : RX) (O : List RX) (D : List RX) (T : List Int) (n : Int) (E : List BA) (hl : l.length < 1000000) : ∀ (d k i : Nat) (out : List RX) (b : Bool), l.length - i = d → i ≤ l.length → d < k → out.length ≤ 2 * i →
    switchboardref25_set.l0 k out b l (l.length : Int) (i : Int) O D T n E x.f0 x.f1 x.f2 x.f3 x.f4 x.f5 = some (out ++ setL x b (l.drop i), D, T, n, E) := by
  intro d
  induction d with
  | zero =>
    intro k i out b h1 h2 h3 h4
    obtain ⟨k, rfl⟩ : ∃ m, k = m + 1 := ⟨k - 1, by omega⟩
    simp only [switchboardref25_set.l0]
    rw [if_neg (by omega), List.drop_of_length_le (by omega)]
    cases b
    · rw [if_neg (by simp), if_pos (by omega)]; simp [setL]
    · rw [if_pos rfl]; simp [setL]
  | succ d ih =>
    intro k i out b h1 h2 h3 h4
    obtain ⟨k, rfl⟩ : ∃ m, k = m + 1 := ⟨k - 1, by omega⟩
    have hi : i < l.length := by omega
    simp only [switchboardref25_set.l0]
    rw [if_pos (by omega), if_pos (by omega), if_pos (by omega), rdR_at l i hi, up1 hi hl, List.drop_eq_getElem_cons hi]
    simp only [setL]
    by_cases he : l[i].f0 = x.f0
    · rw [if_pos he, if_pos he, ih k (i + 1) out b (by omega) (by omega) (by omega) (by omega)]
    · rw [if_neg he, if_neg he]
      cases b
      · rw [if_neg (show ¬ (false = true) by simp), if_neg (show ¬ (false = true) by simp)]
        by_cases hlt : x.f0 < l[i].f0
        · rw [if_pos hlt, if_pos hlt, if_pos (by omega)]
          simp only [Option.bind_some]
          rw [if_pos (by simp; omega), ih k (i + 1) _ true (by omega) (by omega) (by omega) (by simp; omega)]
          simp [-List.getElem_cons_drop]
        · rw [if_neg hlt, if_neg hlt, if_pos (by omega), ih k (i + 1) _ false (by omega) (by omega) (by omega) (by simp; omega)]
          simp [-List.getElem_cons_drop]
      · rw [if_pos (show true = true from rfl), if_pos (show true = true from rfl), if_pos (by omega), ih k (i + 1) _ true (by omega) (by omega) (by omega) (by simp; omega)]
        simp [-List.getElem_cons_drop]
theorem set_f (O D : List RX) (T : List Int) (n : Int) (E : List BA) (x : RX) (hl : O.length < 1000000) (k : Nat) (hk : O.length < k) :
    switchboardref25_set.f k O D T n E x.f0 x.f1 x.f2 x.f3 x.f4 x.f5 = some (setL x false O, D, T, n, E) := by
  have := set_l0 O x O D T n E hl O.length k 0 [] false (by omega) (by omega) hk (by simp)
  simpa [switchboardref25_set.f] using this
theorem drop_l0 (l : List RX) (id : Int) (O : List RX) (D : List RX) (T : List Int) (n : Int) (E : List BA) (hl : l.length < 1000000) : ∀ (d k i : Nat) (out : List RX), l.length - i = d → i ≤ l.length → d < k → out.length ≤ i →
    switchboardref25_drop.l0 k id out l (l.length : Int) (i : Int) O D T n E = some (out ++ (l.drop i).filter (fun y => decide (y.f0 ≠ id)), D, T, n, E) := by
  intro d
  induction d with
  | zero =>
    intro k i out h1 h2 h3 h4
    obtain ⟨k, rfl⟩ : ∃ m, k = m + 1 := ⟨k - 1, by omega⟩
    simp only [switchboardref25_drop.l0]
    rw [if_neg (by omega), List.drop_of_length_le (by omega)]
    simp
  | succ d ih =>
    intro k i out h1 h2 h3 h4
    obtain ⟨k, rfl⟩ : ∃ m, k = m + 1 := ⟨k - 1, by omega⟩
    have hi : i < l.length := by omega
    simp only [switchboardref25_drop.l0]
    rw [if_pos (by omega), if_pos (by omega), if_pos (by omega), rdR_at l i hi, up1 hi hl, List.drop_eq_getElem_cons hi, List.filter_cons]
    by_cases he : l[i].f0 = id
    · rw [if_pos he, if_neg (show ¬ (decide (l[i].f0 ≠ id) = true) by simpa using he), ih k (i + 1) out (by omega) (by omega) (by omega) (by omega)]
    · rw [if_neg he, if_pos (show decide (l[i].f0 ≠ id) = true by simpa using he), if_pos (by omega), ih k (i + 1) _ (by omega) (by omega) (by omega) (by simp; omega)]
      simp [-List.getElem_cons_drop]
theorem drop_f (O D : List RX) (T : List Int) (n : Int) (E : List BA) (id : Int) (hl : O.length < 1000000) (k : Nat) (hk : O.length < k) :
    switchboardref25_drop.f k O D T n E id = some (O.filter (fun y => decide (y.f0 ≠ id)), D, T, n, E) := by
  have := drop_l0 O id O D T n E hl O.length k 0 [] (by omega) (by omega) hk (by simp)
  simpa [switchboardref25_drop.f] using this
theorem one_digit (q : Nat) (hq : q < 10) : strOfNums [(wrap64 (48 + (q : Int))) % 256] = ⟨#[UInt8.ofNat (48 + q)]⟩ := by
  have h : ∀ q : Fin 10, strOfNums [(wrap64 (48 + ((q.val : Nat) : Int))) % 256] = ⟨#[UInt8.ofNat (48 + q.val)]⟩ := by decide +kernel
  exact h ⟨q, hq⟩
theorem ba_list (l : List UInt8) : (⟨l.toArray⟩ : ByteArray).toList = l := by
  rw [ByteArray.toList_eq]
theorem digits_end (k i : Nat) (s : List UInt8) (hs : s ≠ []) : switchboardref25_digits.l0 (k + 1) 0 ⟨s.toArray⟩ (i : Int) = some ⟨s.toArray⟩ := by
  simp only [switchboardref25_digits.l0]
  split
  · rw [if_neg (by omega), if_neg (by rw [ba_list]; exact hs)]
  · rfl
theorem digits_l0 : ∀ (d k i n : Nat) (s : List UInt8), n < 10 ^ d → d + i ≤ 20 → d + 1 < k → s.length ≤ i → 0 < n → n < 1000000 →
    switchboardref25_digits.l0 k (n : Int) ⟨s.toArray⟩ (i : Int) = some ⟨(decDigits n ++ s).toArray⟩ := by
  intro d
  induction d with
  | zero => intro k i n s h1 h2 h3 h4 h5 h6; simp at h1; omega
  | succ d ih =>
    intro k i n s h1 h2 h3 h4 h5 h6
    obtain ⟨k, rfl⟩ : ∃ m, k = m + 1 := ⟨k - 1, by omega⟩
    have h10 : n % 10 < 10 := Nat.mod_lt _ (by omega)
    simp only [switchboardref25_digits.l0]
    rw [if_pos (by omega), if_pos (by omega), w_mod, w_div n h6, w_up i (by omega)]
    simp only [Option.bind_some]
    rw [one_digit _ h10, if_pos (by show 1 + s.toArray.size ≤ _; simp; omega)]
    have hc : (⟨#[UInt8.ofNat (48 + n % 10)]⟩ : ByteArray) ++ ⟨s.toArray⟩ = ⟨(UInt8.ofNat (48 + n % 10) :: s).toArray⟩ := by apply ByteArray.ext; simp
    rw [hc]
    by_cases hn : n < 10
    · obtain ⟨k, rfl⟩ : ∃ m, k = m + 1 := ⟨k - 1, by omega⟩
      rw [show n / 10 = 0 by omega, show ((0 : Nat) : Int) = 0 from rfl, digits_end k (i + 1) _ (by simp), decDigits, dif_pos hn, show n % 10 = n by omega]
      rfl
    · rw [ih k (i + 1) (n / 10) _ (by rw [Nat.pow_succ] at h1; exact Nat.div_lt_of_lt_mul (by rw [Nat.mul_comm]; exact h1)) (by omega) (by omega) (by simp; omega) (by omega) (by omega)]
      conv => rhs; rw [decDigits, dif_neg hn]
      simp
theorem digits_f (n : Int) (h0 : 0 ≤ n) (h1 : n < 100000) (k : Nat) (hk : 10 < k) : switchboardref25_digits.f k n = some (dig n) := by
  obtain ⟨m, rfl⟩ := Int.eq_ofNat_of_zero_le h0
  unfold switchboardref25_digits.f dig
  rw [itoa_nonneg]
  by_cases hm : m = 0
  · subst hm
    obtain ⟨k, rfl⟩ : ∃ j, k = j + 1 + 1 := ⟨k - 2, by omega⟩
    rw [switchboardref25_digits.l0, decDigits, dif_pos (by omega)]
    have hd := one_digit 0 (by omega)
    have hw := w_div 0 (by omega)
    have hu := w_up 0 (by omega)
    rw [if_pos (by clear hd hw hu; omega), if_neg (by clear hd hw hu; omega), if_pos (by rw [ByteArray.toList_eq])]
    simp only [Option.bind_some]
    rw [w_mod, show (0 : Nat) % 10 = 0 from rfl, hw, hd, if_pos (by decide), show wrap64 ((0 : Int) + 1) = ((1 : Nat) : Int) from hu, show ((⟨#[UInt8.ofNat (48 + 0)]⟩ : ByteArray) ++ ⟨#[]⟩) = ⟨#[UInt8.ofNat (48 + 0)]⟩ from by decide +kernel]
    exact digits_end (k := k) (i := 1) [UInt8.ofNat (48 + 0)] (by simp)
  · have := digits_l0 6 k 0 m [] (by omega) (by omega) (by omega) (by simp) (by omega) (by omega)
    simpa using this
theorem dig_len (n : Int) (h0 : 0 ≤ n) (h1 : n < 100000) : (dig n).size ≤ 21 := dig_size n h0 (by omega)
theorem wrong_f (O D : List RX) (T : List Int) (n : Int) (E : List BA) (s : BA) (id : Int) (hs : s.size ≤ 100) (h0 : 0 ≤ id) (h1 : id < 100000) (hE : E.length < 1000000) (k : Nat) (hk : 10 < k) :
    switchboardref25_wrong.f k O D T n E s id = some (O, D, T, n, E ++ [msg s id]) := by
  have hd := dig_len id h0 h1
  unfold switchboardref25_wrong.f
  simp only [Option.bind_some, List.nil_append, List.length_nil]
  rw [if_pos (by omega), if_pos (by omega), digits_f id h0 h1 k hk]
  simp only [Option.bind_some]
  rw [if_pos (by rw [ByteArray.size_append]; have : (⟨#[32]⟩ : ByteArray).size = 1 := rfl; omega), if_pos (by omega)]
  rfl
structure Rx where
  O : List RX
  D : List RX
  T : List Int
  n : Int
  E : List BA
abbrev Rx.tup (x : Rx) : List RX × List RX × List Int × Int × List BA := (x.O, x.D, x.T, x.n, x.E)
def Rx.wrong (x : Rx) (s : BA) (id : Int) : Rx := { x with E := x.E ++ [msg s id] }
def Rx.sent (x : Rx) (id : Int) (tp pl : BA) (d : Bool) : Rx :=
  if d = false then
    if place id 0 x.O ≥ 0 then x.wrong sTwice id else { x with O := setL ⟨id, tp, pl, 1, false, false⟩ false x.O }
  else if place id 0 x.O < 0 then x.wrong sNever id
  else
    let y := rd_T87 x.O (place id 0 x.O)
    if y.f4 = true then x.wrong sWhen id
    else if y.f1.toList = tp.toList ∧ y.f2.toList = pl.toList then { x with O := setL ⟨y.f0, y.f1, y.f2, wrap64 (y.f3 + 1), y.f4, y.f5⟩ false x.O }
    else x.wrong sOther id
theorem place_lt (id : Int) : ∀ (l : List RX) (i : Nat), place id i l < (i + l.length : Nat) ∧ (-1 ≤ place id i l) ∧ (place id i l = -1 ∨ (i : Int) ≤ place id i l)
  | [], i => by simp [place]; omega
  | y :: t, i => by
    have := place_lt id t (i + 1)
    simp only [place, List.length_cons]
    split <;> omega
theorem sent_f (x : Rx) (id : Int) (tp pl : BA) (d : Bool) (hl : x.O.length < 1000) (h0 : 0 ≤ id) (h1 : id < 100000) (hE : x.E.length < 1000) (k : Nat) (hk : 2000 < k) :
    switchboardref25_Sent.f k x.O x.D x.T x.n x.E id tp pl d = some (x.sent id tp pl d).tup := by
  obtain ⟨k, rfl⟩ : ∃ m, k = m + 1 + 1 := ⟨k - 2, by omega⟩
  have hp := place_lt id x.O 0
  unfold switchboardref25_Sent.f Rx.sent
  rw [find_f _ _ (by omega) _ (by omega)]
  simp only [Option.bind_some]
  have hw := fun (s : BA) (hs : s.size ≤ 100) (k : Nat) (hk : 10 < k) => wrong_f x.O x.D x.T x.n x.E s id hs h0 h1 (by omega) k hk
  cases d
  · rw [if_neg (by simp), if_pos rfl]
    simp only [switchboardref25_Sent.j0]
    by_cases hg : place id 0 x.O ≥ 0
    · rw [if_pos (by simpa using hg), if_pos hg, hw _ (by decide) _ (by omega)]; rfl
    · rw [if_neg (show ¬ (decide (place id 0 x.O ≥ 0) = true) by simpa using hg), if_neg hg, if_neg (show ¬ (false = true) by simp)]
      have := set_f x.O x.D x.T x.n x.E ⟨id, tp, pl, 1, false, false⟩ (by omega) (k + 1) (by omega)
      simp only at this
      rw [this, if_neg hg]; rfl
  · rw [if_pos rfl, if_neg (by simp)]
    simp only [switchboardref25_Sent.j0]
    rw [if_neg (by simp), if_pos trivial]
    by_cases hg : place id 0 x.O < 0
    · rw [if_pos hg, if_pos hg, hw _ (by decide) _ (by omega)]; rfl
    · rw [if_neg hg, if_neg hg, if_pos (by omega), if_pos (by omega)]
      by_cases h4 : (rd_T87 x.O (place id 0 x.O)).f4 = true
      · rw [if_pos h4, if_pos h4, hw _ (by decide) _ (by omega)]; rfl
      · rw [if_neg h4, if_neg h4]
        by_cases ht : (rd_T87 x.O (place id 0 x.O)).f1.toList = tp.toList
        · rw [if_pos ht]
          by_cases hpl : (rd_T87 x.O (place id 0 x.O)).f2.toList = pl.toList
          · rw [if_pos ⟨ht, hpl⟩]
            simp only [switchboardref25_Sent.j1]
            rw [if_neg (by simp [hpl])]
            have := set_f x.O x.D x.T x.n x.E ⟨(rd_T87 x.O (place id 0 x.O)).f0, (rd_T87 x.O (place id 0 x.O)).f1, (rd_T87 x.O (place id 0 x.O)).f2, wrap64 ((rd_T87 x.O (place id 0 x.O)).f3 + 1), (rd_T87 x.O (place id 0 x.O)).f4, (rd_T87 x.O (place id 0 x.O)).f5⟩ (by omega) k (by omega)
            simp only at this
            rw [this]; rfl
          · rw [if_neg (fun h => hpl h.2)]
            simp only [switchboardref25_Sent.j1]
            rw [if_pos (by simp [hpl]), hw _ (by decide) _ (by omega)]; rfl
        · rw [if_neg ht, if_neg (fun h => ht h.1)]
          simp only [switchboardref25_Sent.j1]
          rw [if_pos trivial, hw _ (by decide) _ (by omega)]; rfl
def Rx.released (x : Rx) (id code : Int) : Rx :=
  if code = 0 then
    if place id 0 x.O < 0 then x.wrong sRel id
    else if (rd_T87 x.O (place id 0 x.O)).f4 = true then x else x.wrong sRel id
  else x
theorem released_f (x : Rx) (id code : Int) (hl : x.O.length < 1000) (h0 : 0 ≤ id) (h1 : id < 100000) (hE : x.E.length < 1000) (k : Nat) (hk : 2000 < k) :
    switchboardref25_Released.f k x.O x.D x.T x.n x.E id code = some (x.released id code).tup := by
  have hp := place_lt id x.O 0
  have hw := fun (s : BA) (hs : s.size ≤ 100) (k : Nat) (hk : 10 < k) => wrong_f x.O x.D x.T x.n x.E s id hs h0 h1 (by omega) k hk
  unfold switchboardref25_Released.f Rx.released
  rw [find_f _ _ (by omega) _ (by omega)]
  simp only [Option.bind_some]
  by_cases hc : code = 0
  · rw [if_pos hc, if_pos hc]
    by_cases hg : place id 0 x.O < 0
    · rw [if_pos hg, if_pos hg, hw _ (by decide) _ (by omega)]; rfl
    · rw [if_neg hg, if_neg hg, if_pos (by omega), if_pos (by omega)]
      split
      · rfl
      · rw [hw _ (by decide) _ (by omega)]; rfl
  · rw [if_neg hc, if_neg hc]
def Rx.came (x : Rx) (id : Int) : Rx := if id ∈ x.T then x else { x with n := wrap64 (x.n + 1), T := x.T ++ [id] }
theorem came_l0 (x : Rx) (id : Int) (hl : x.T.length < 1000) : ∀ (d k i : Nat), x.T.length - i = d → i ≤ x.T.length → d < k →
    switchboardref25_Came.l0 k id x.T (x.T.length : Int) (i : Int) x.O x.D x.T x.n x.E = some (if id ∈ x.T.drop i then x else { x with n := wrap64 (x.n + 1), T := x.T ++ [id] }).tup := by
  intro d
  induction d with
  | zero =>
    intro k i h1 h2 h3
    obtain ⟨k, rfl⟩ : ∃ m, k = m + 1 := ⟨k - 1, by omega⟩
    simp only [switchboardref25_Came.l0]
    rw [if_neg (by omega), List.drop_of_length_le (by omega)]
    simp only [Option.bind_some, List.nil_append, List.length_nil]
    rw [if_pos (by omega), if_pos (by omega)]
    simp
  | succ d ih =>
    intro k i h1 h2 h3
    obtain ⟨k, rfl⟩ : ∃ m, k = m + 1 := ⟨k - 1, by omega⟩
    have hi : i < x.T.length := by omega
    simp only [switchboardref25_Came.l0]
    rw [if_pos (by omega), if_pos (by omega), if_pos (by omega), rd_at x.T i hi, up1 hi (by omega), ih k (i + 1) (by omega) (by omega) (by omega), List.drop_eq_getElem_cons hi]
    by_cases he : x.T[i] = id
    · rw [if_pos he, if_pos (by simp [he])]
    · rw [if_neg he]
      congr 2
      have : (id ∈ x.T[i] :: List.drop (i + 1) x.T) ↔ id ∈ List.drop (i + 1) x.T := by
        rw [List.mem_cons]; exact ⟨fun h => h.elim (fun h => absurd h.symm he) (fun h => h), Or.inr⟩
      simp only [this]
theorem came_f (x : Rx) (id : Int) (hl : x.T.length < 1000) (k : Nat) (hk : 2000 < k) : switchboardref25_Came.f k x.O x.D x.T x.n x.E id = some (x.came id).tup := by
  have := came_l0 x id hl x.T.length k 0 (by omega) (by omega) (by omega)
  simpa [switchboardref25_Came.f, Rx.came] using this
theorem same_l0 (l : List SX) (hl : l.length < 1000) (hb : ∀ e ∈ l, 0 ≤ e.f0 ∧ e.f0 < 100000) : ∀ (d k i : Nat), l.length - i = d → i ≤ l.length → d < k → switchboardlaw25_same.l0 k l (l.map toX) ((l.map toX).length : Int) (i : Int) = some true := by
  intro d
  induction d with
  | zero =>
    intro k i h1 h2 h3
    obtain ⟨k, rfl⟩ : ∃ m, k = m + 1 := ⟨k - 1, by omega⟩
    simp only [switchboardlaw25_same.l0]
    rw [if_neg (by simp; omega)]
  | succ d ih =>
    intro k i h1 h2 h3
    obtain ⟨k, rfl⟩ : ∃ m, k = m + 1 := ⟨k - 1, by omega⟩
    have hi : i < l.length := by omega
    have hbi := hb _ (List.getElem_mem hi)
    simp only [switchboardlaw25_same.l0]
    rw [if_pos (by simp; omega), if_pos (by omega), if_pos (by omega), rdX_at l i hi]
    unfold switchboardlaw25_told.f
    simp only [Option.bind_some]
    rw [if_pos (by simp; omega), rdR_at (l.map toX) i (by simpa using hi), List.getElem_map, w_id _ hbi, if_neg (by simp [toX]), up1 hi (by omega)]
    exact ih k (i + 1) (by omega) (by omega) (by omega)
theorem same_f (l : List SX) (hl : l.length < 1000) (hb : ∀ e ∈ l, 0 ≤ e.f0 ∧ e.f0 < 100000) (k : Nat) (hk : 2000 < k) : switchboardlaw25_same.f k l (l.map toX) = some true := by
  unfold switchboardlaw25_same.f
  rw [if_pos (by simp)]
  exact same_l0 l hl hb l.length k 0 (by omega) (by omega) (by omega)
end R25
end Go.Proofs.YtjhhnidfmoejdaaDoor
