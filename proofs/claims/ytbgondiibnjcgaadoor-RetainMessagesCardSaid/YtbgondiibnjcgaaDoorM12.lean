import Derived.Test.YtbgondiibnjcgaaDoorU12
import Derived.Test.YtbgondiibnjcgaaDoorPub
import Derived.Test.YtbgondiibnjcgaaDoorQc
namespace Go.Proofs.YtbgondiibnjcgaaDoor
open Go.RowKit Go.Lib Go.Proofs.YtbgondiibnjcgaaDoorW.PrintWords Go.Proofs.YtbgondiibnjcgaaDoorW.PrintLast
set_option maxRecDepth 10000
set_option linter.unusedVariables false
set_option maxHeartbeats 1000000
namespace M12
open R12
abbrev SPm := PRetainMessages.S30
abbrev RPm := PRetainMessages.S92
abbrev kPm : Kd SPm := PRetainMessages.k30
abbrev kRm : Kd RPm := PRetainMessages.k92
def pm (p : SP) : SPm := ⟨p.f0, p.f1, p.f2, p.f3⟩
def mp (p : SPm) : SP := ⟨p.f0, p.f1, p.f2, p.f3⟩
def rm (p : RP) : RPm := ⟨p.f0, p.f1, p.f2, p.f3⟩
def mr (p : RPm) : RP := ⟨p.f0, p.f1, p.f2, p.f3⟩
def encR (x : RP) : List Value := [.int .i64 x.f0, .int .u32 x.f1, .string x.f2, .string x.f3]
def encPm (x : SPm) : List Value := [.int .i64 x.f0, .int .u32 x.f1, .string x.f2, .string x.f3]
def encRm (x : RPm) : List Value := [.int .i64 x.f0, .int .u32 x.f1, .string x.f2, .string x.f3]
theorem flatR : Flat kRP encR where
  len _ := rfl
  M := by
    intro w base ok x cs
    constructor
    · intro h; exact PRetainPlays.k92_openM h
    · rintro rfl; exact PRetainPlays.k92_mkM _ _ _ _
theorem flatPm : Flat kPm encPm where
  len _ := rfl
  M := by
    intro w base ok x cs
    constructor
    · intro h; exact PRetainMessages.k30_openM h
    · rintro rfl; exact PRetainMessages.k30_mkM _ _ _ _
theorem flatRm : Flat kRm encRm where
  len _ := rfl
  M := by
    intro w base ok x cs
    constructor
    · intro h; exact PRetainMessages.k92_openM h
    · rintro rfl; exact PRetainMessages.k92_mkM _ _ _ _
theorem Own.turn {α β : Type} {d : Kd α} {d' : Kd β} {enc : α → List Value} {enc' : β → List Value} (F : Flat d enc) (F' : Flat d' enc') (f : α → β) (he : ∀ x, enc' (f x) = enc x) (hs : d.sz = d'.sz) {e base : Nat} {w : World} {v : Value} {xs : List α} (h : Own d e base w v xs) : Own d' e base w v (xs.map f) := by
  refine Own.of_flat F' ?_
  have h1 := Own.flat F h
  have h2 : (xs.map f).flatMap enc' = xs.flatMap enc := by
    clear h h1
    induction xs with
    | nil => rfl
    | cons a t ih => rw [List.map_cons, List.flatMap_cons, List.flatMap_cons, he, ih]
  rw [h2, List.length_map, ← hs]; exact h1
theorem Own.toPm {e base : Nat} {w : World} {v : Value} {l : List SP} (h : Own kPr e base w v l) : Own kPm e base w v (l.map pm) := Own.turn flatP flatPm pm (fun _ => rfl) rfl h
theorem Own.ofPm {e base : Nat} {w : World} {v : Value} {l : List SPm} (h : Own kPm e base w v l) : Own kPr e base w v (l.map mp) := Own.turn flatPm flatP mp (fun _ => rfl) rfl h
theorem Own.toRm {e base : Nat} {w : World} {v : Value} {l : List RP} (h : Own kRP e base w v l) : Own kRm e base w v (l.map rm) := Own.turn flatR flatRm rm (fun _ => rfl) rfl h
theorem Own.ofRm {e base : Nat} {w : World} {v : Value} {l : List RPm} (h : Own kRm e base w v l) : Own kRP e base w v (l.map mr) := Own.turn flatRm flatR mr (fun _ => rfl) rfl h
theorem C_pm {w : World} {A : Option Addr} {n : Nat} {l : List SP} (h : kPr.C w A n l) : kPm.C w A n (l.map pm) := by
  obtain ⟨h1, h2, h3⟩ := h
  refine ⟨by rw [List.length_map]; exact h1, h2, fun h0 => ?_⟩
  obtain ⟨ad, ha, h4⟩ := h3 h0
  refine ⟨ad, ha, fun j p hp => ?_⟩
  rw [List.getElem?_map] at hp
  obtain ⟨q, hq, rfl⟩ := Option.map_eq_some_iff.1 hp
  obtain ⟨cs, hl, hK, hc⟩ := h4 j q hq
  obtain rfl := PRetainPlays.k30_open hK
  exact ⟨_, hl, PRetainMessages.k30_mk _ _, hc⟩
section
open Go.Proofs.YtbgondiibnjcgaaDoor.PRetainMessages
def cutPm (p : SPm) : SPm := ⟨p.f0, p.f1, cutS p.f2 20, cutS p.f3 20⟩
def toPm (p : SPm) : RPm := ⟨p.f0, p.f1, p.f2, p.f3⟩
theorem rdPm_at (l : List SPm) (i : Nat) (h : i < l.length) : rd_T30 l (i : Int) = l[i] := by unfold rd_T30; simp [List.getD, h]
theorem rdQm_at (l : List RPm) (i : Nat) (h : i < l.length) : rd_T92 l (i : Int) = l[i] := by unfold rd_T92; simp [List.getD, h]
theorem cut_f (s : ByteArray) (n : Nat) : switchboardlaw01_Cut.f s (n : Int) = some (cutS s n) := by
  unfold switchboardlaw01_Cut.f cutS
  by_cases h : s.size > n
  · rw [if_pos (by omega), if_pos (by omega), if_pos (by omega), if_pos h]; rfl
  · rw [if_neg (by omega), if_neg h]
theorem few_l0 (l : List SPm) : ∀ (d k i : Nat) (out : List SPm), 8 - i = d → i ≤ 8 → 2 * d + 2 < k → out.length ≤ i →
    switchboardlaw03_Few.l0 k l out (i : Int) = some (out ++ ((l.drop i).take (8 - i)).map cutPm) := by
  intro d
  induction d with
  | zero =>
    intro k i out h1 h2 h3 h4
    obtain ⟨k, rfl⟩ : ∃ m, k = m + 1 + 1 := ⟨k - 2, by omega⟩
    obtain rfl : i = 8 := by omega
    have hd : decide (((8 : Nat) : Int) < 8) = false := by decide
    simp only [switchboardlaw03_Few.l0, hd, switchboardlaw03_Few.j1]
    rw [ite_self]
    simp
  | succ d ih =>
    intro k i out h1 h2 h3 h4
    obtain ⟨k, rfl⟩ : ∃ m, k = m + 1 + 1 := ⟨k - 2, by omega⟩
    have e : wrap64 ((i : Int) + 1) = ((i + 1 : Nat) : Int) := by unfold wrap64; omega
    have hd : decide ((i : Int) < 8) = true := by simp; omega
    simp only [switchboardlaw03_Few.l0, hd, switchboardlaw03_Few.j1]
    by_cases hi : i < l.length
    · rw [if_pos (by omega), if_pos trivial, if_pos (by omega), if_pos (by omega), rdPm_at l i hi]
      rw [show (20 : Int) = ((20 : Nat) : Int) from rfl, cut_f, cut_f]
      simp only [Option.bind_some]
      rw [if_pos (by omega), e, ih k (i + 1) _ (by omega) (by omega) (by omega) (by simp; omega)]
      rw [List.drop_eq_getElem_cons hi, show 8 - i = (8 - (i + 1)) + 1 by omega, List.take_succ_cons, List.map_cons]
      simp [cutPm]
    · rw [if_neg (by omega), if_neg (by simp), List.drop_of_length_le (by omega)]; simp
theorem few07_f (l : List SPm) (d rt : Bool) (q id : Int) (tp pl : ByteArray) (k : Nat) (hk : 20 ≤ k) : switchboardlaw07_Few.f k d rt q id l tp pl = some (d, rt, q, id, (l.take 8).map cutPm, cutS tp 30, cutS pl 50) := by
  unfold switchboardlaw07_Few.f switchboardlaw03_Few.f
  rw [show (50 : Int) = ((50 : Nat) : Int) from rfl, show (30 : Int) = ((30 : Nat) : Int) from rfl, cut_f, cut_f]
  have := few_l0 l 8 k 0 [] rfl (by omega) (by omega) (by simp)
  simp only [List.drop_zero, List.nil_append, Nat.sub_zero] at this
  rw [show ((0 : Nat) : Int) = 0 from rfl] at this
  rw [this]
  rfl
theorem few07 {w : World} {A : Option Addr} {c : Nat} {ps : List SP} (hc : ps.length ≤ c) (hC : kPr.C w A ps.length ps) (d rt : Bool) (q id : Int) (tp pl : ByteArray) :
    Calls Tryd.prog 20 #[.agg #[.bool d, .bool rt, .int .u8 q, .int .u32 id, .slice A ps.length c, .string tp, .string pl]] w (Px fun (v : Value) e w' => e = .returned (.agg #[.bool d, .bool rt, .int .u8 q, .int .u32 id, v, .string (cutS tp 30), .string (cutS pl 50)]) ∧ Own kPr PrT w.heap.size w' v (fewP ps) ∧ Keep [] w w') := by
  have h1 := switchboardlaw07_Few.calls 20 d rt q id A c (ps.map pm) tp pl _ _ _ _ _ _ _ w (by rw [List.length_map]; exact C_pm hC) (by rw [List.length_map]; exact hc) (few07_f (ps.map pm) d rt q id tp pl 20 (Nat.le_refl _))
  rw [List.length_map] at h1
  refine h1.mono ?_
  rintro e w' ⟨v, rfl, hR, hB⟩
  have hO : Own kPm PrT w.heap.size w' v (((ps.map pm).take 8).map cutPm) := hR
  refine ⟨v, rfl, ?_, Keep.of_below hB⟩
  have h2 := Own.ofPm hO
  have e2 : (((ps.map pm).take 8).map cutPm).map mp = fewP ps := by
    unfold fewP; rw [← List.map_take, List.map_map, List.map_map]; rfl
  rw [e2] at h2
  exact h2
theorem toldp_l0 (l : List SPm) (hl : l.length < 1000000) : ∀ (d k i : Nat) (out : List RPm), l.length - i = d → i ≤ l.length → d < k → out.length ≤ i →
    switchboardlaw03_Told.l0 k out l (l.length : Int) (i : Int) = some (out ++ (l.drop i).map toPm) := by
  intro d
  induction d with
  | zero =>
    intro k i out h1 h2 h3 h4
    obtain ⟨k, rfl⟩ : ∃ m, k = m + 1 := ⟨k - 1, by omega⟩
    simp only [switchboardlaw03_Told.l0]
    rw [if_neg (by omega), List.drop_of_length_le (by omega)]
    simp
  | succ d ih =>
    intro k i out h1 h2 h3 h4
    obtain ⟨k, rfl⟩ : ∃ m, k = m + 1 := ⟨k - 1, by omega⟩
    have hi : i < l.length := by omega
    have e : wrap64 ((i : Int) + 1) = ((i + 1 : Nat) : Int) := by unfold wrap64; omega
    simp only [switchboardlaw03_Told.l0]
    rw [if_pos (by omega), if_pos (by omega), if_pos (by omega), if_pos (by omega), rdPm_at l i hi, e, ih k (i + 1) _ (by omega) (by omega) (by omega) (by simp; omega), List.drop_eq_getElem_cons hi]
    simp [toPm, -List.getElem_cons_drop]
theorem toldp_f (l : List SPm) (hl : l.length < 1000000) (k : Nat) (hk : l.length < k) : switchboardlaw03_Told.f k l = some (l.map toPm) := by
  have := toldp_l0 l hl l.length k 0 [] (by omega) (by omega) hk (by simp)
  simpa [switchboardlaw03_Told.f] using this
theorem told07 {w : World} {base : Nat} {v : Value} {ps : List SP} (h : Own kPr PrT base w v ps) (hl : ps.length ≤ 100) (d rt : Bool) (q id : Int) (tp pl : ByteArray) :
    Calls Tryd.prog 26 #[.agg #[.bool d, .bool rt, .int .u8 q, .int .u32 id, v, .string tp, .string pl]] w (Px fun (v' : Value) e w' => e = .returned (.agg #[.bool d, .bool rt, .int .u8 q, .int .u32 id, v', .string tp, .string pl]) ∧ Own kRP RPT w.heap.size w' v' (ps.map toP) ∧ Keep [] w w') := by
  obtain ⟨A, c, rfl, hc, hC⟩ := (Own.toPm h).reads
  refine (switchboardlaw07_Told.calls 200 d rt q id A c (ps.map pm) tp pl _ _ _ _ _ _ _ w hC hc (by unfold switchboardlaw07_Told.f; rw [toldp_f (ps.map pm) (by simp; omega) 200 (by simp; omega)]; rfl)).mono ?_
  rintro e w' ⟨v, rfl, hR, hB⟩
  have hO : Own kRm RPT w.heap.size w' v ((ps.map pm).map toPm) := hR
  refine ⟨v, rfl, ?_, Keep.of_below hB⟩
  have h2 := Own.ofRm hO
  have e2 : (((ps.map pm).map toPm).map mr) = ps.map toP := by rw [List.map_map, List.map_map]; rfl
  rw [e2] at h2
  exact h2
theorem same_l0 (l : List RPm) (hl : l.length < 1000000) : ∀ (d k i : Nat), l.length - i = d → i ≤ l.length → d < k → switchboardref06_same.l0 k l l (l.length : Int) (i : Int) = some true := by
  intro d
  induction d with
  | zero =>
    intro k i h1 h2 h3
    obtain ⟨k, rfl⟩ : ∃ m, k = m + 1 := ⟨k - 1, by omega⟩
    simp only [switchboardref06_same.l0]
    rw [if_neg (by omega)]
  | succ d ih =>
    intro k i h1 h2 h3
    obtain ⟨k, rfl⟩ : ∃ m, k = m + 1 := ⟨k - 1, by omega⟩
    have e : wrap64 ((i : Int) + 1) = ((i + 1 : Nat) : Int) := by unfold wrap64; omega
    simp only [switchboardref06_same.l0]
    rw [if_pos (by omega), if_pos (by omega), if_pos (by omega), if_pos (by omega), if_neg (by simp), e]
    exact ih k (i + 1) (by omega) (by omega) (by omega)
theorem same07 {w : World} {b1 b2 : Nat} {v1 v2 : Value} {l : List RP} (h1 : Own kRP RPT b1 w v1 l) (h2 : Own kRP RPT b2 w v2 l) (hl : l.length ≤ 100) (d rt : Bool) (q id : Int) (tp pl : ByteArray) :
    Calls Tryd.prog 28 #[.agg #[.bool d, .bool rt, .int .u8 q, .int .u32 id, v1, .string tp, .string pl], .agg #[.bool d, .bool rt, .int .u8 q, .int .u32 id, v2, .string tp, .string pl]] w fun e w' => e = .returned (.bool true) ∧ Keep [] w w' := by
  obtain ⟨A1, c1, rfl, hc1, hC1⟩ := (Own.toRm h1).reads
  obtain ⟨A2, c2, rfl, hc2, hC2⟩ := (Own.toRm h2).reads
  refine (switchboardref07_Same.calls 200 d rt q id A1 c1 (l.map rm) tp pl d rt q id A2 c2 (l.map rm) tp pl true w hC1 hc1 hC2 hc2 ?_).mono ?_
  · unfold switchboardref07_Same.f switchboardref06_Props.f switchboardref06_same.f
    rw [if_pos (by simp), if_pos (by simp), if_pos rfl, if_pos rfl, if_pos rfl]
    have := same_l0 (l.map rm) (by simp; omega) (l.map rm).length 200 0 (by omega) (by omega) (by simp; omega)
    rw [show ((0 : Nat) : Int) = 0 from rfl] at this
    rw [this]
    simp
  · rintro e w' ⟨rfl, hB⟩
    exact ⟨rfl, Keep.of_below hB⟩
def keepPm (p : SPm) : Bool := decide (p.f0 ≠ 35) && decide (p.f0 ≠ 11)
def keepRm (p : RPm) : Bool := decide (p.f0 ≠ 35) && decide (p.f0 ≠ 11)
def ofP (l : List SP) : List SP := l.filter fun p => decide (p.f0 ≠ 35) && decide (p.f0 ≠ 11)
def ofR (l : List RP) : List RP := l.filter fun p => decide (p.f0 ≠ 35) && decide (p.f0 ≠ 11)
theorem of_l0 (name fr : ByteArray) (now : Int) (l l0 : List SPm) (d rt : Bool) (q id : Int) (tp pl : ByteArray) (hl : l.length < 1000000) : ∀ (n k i : Nat) (out : List SPm), l.length - i = n → i ≤ l.length → n < k → out.length ≤ i →
    retain_Of.l0 k name fr now out l (l.length : Int) (i : Int) d rt q id l0 tp pl = some (fr, now, q, rt, out ++ (l.drop i).filter keepPm, name, pl) := by
  intro n
  induction n with
  | zero =>
    intro k i out h1 h2 h3 h4
    obtain ⟨k, rfl⟩ : ∃ m, k = m + 1 := ⟨k - 1, by omega⟩
    simp only [retain_Of.l0]
    rw [if_neg (by omega), List.drop_of_length_le (by omega)]
    simp
  | succ n ih =>
    intro k i out h1 h2 h3 h4
    obtain ⟨k, rfl⟩ : ∃ m, k = m + 1 := ⟨k - 1, by omega⟩
    have hi : i < l.length := by omega
    have e : wrap64 ((i : Int) + 1) = ((i + 1 : Nat) : Int) := by unfold wrap64; omega
    simp only [retain_Of.l0]
    rw [if_pos (by omega), if_pos (by omega), if_pos (by omega), rdPm_at l i hi, e, List.drop_eq_getElem_cons hi]
    by_cases h5 : l[i].f0 = 35
    · rw [if_pos h5, ih k (i + 1) out (by omega) (by omega) (by omega) (by omega), List.filter_cons_of_neg (by unfold keepPm; simp [h5])]
    · rw [if_neg h5]
      by_cases h6 : l[i].f0 = 11
      · rw [if_pos h6, ih k (i + 1) out (by omega) (by omega) (by omega) (by omega), List.filter_cons_of_neg (by unfold keepPm; simp [h6])]
      · rw [if_neg h6, if_pos (by omega), ih k (i + 1) _ (by omega) (by omega) (by omega) (by simp; omega), List.filter_cons_of_pos (by unfold keepPm; simp [h5, h6])]
        simp [-List.getElem_cons_drop]
theorem ofr_l0 (name fr : ByteArray) (now : Int) (l l0 : List RPm) (d rt : Bool) (q id : Int) (tp pl : ByteArray) (hl : l.length < 1000000) : ∀ (n k i : Nat) (out : List RPm), l.length - i = n → i ≤ l.length → n < k → out.length ≤ i →
    switchboardref12_Of.l0 k name fr now out l (l.length : Int) (i : Int) d rt q id l0 tp pl = some (fr, now, q, rt, out ++ (l.drop i).filter keepRm, name, pl) := by
  intro n
  induction n with
  | zero =>
    intro k i out h1 h2 h3 h4
    obtain ⟨k, rfl⟩ : ∃ m, k = m + 1 := ⟨k - 1, by omega⟩
    simp only [switchboardref12_Of.l0]
    rw [if_neg (by omega), List.drop_of_length_le (by omega)]
    simp
  | succ n ih =>
    intro k i out h1 h2 h3 h4
    obtain ⟨k, rfl⟩ : ∃ m, k = m + 1 := ⟨k - 1, by omega⟩
    have hi : i < l.length := by omega
    have e : wrap64 ((i : Int) + 1) = ((i + 1 : Nat) : Int) := by unfold wrap64; omega
    simp only [switchboardref12_Of.l0]
    rw [if_pos (by omega), if_pos (by omega), if_pos (by omega), rdQm_at l i hi, e, List.drop_eq_getElem_cons hi]
    by_cases h5 : l[i].f0 = 35
    · rw [if_pos h5, ih k (i + 1) out (by omega) (by omega) (by omega) (by omega), List.filter_cons_of_neg (by unfold keepRm; simp [h5])]
    · rw [if_neg h5]
      by_cases h6 : l[i].f0 = 11
      · rw [if_pos h6, ih k (i + 1) out (by omega) (by omega) (by omega) (by omega), List.filter_cons_of_neg (by unfold keepRm; simp [h6])]
      · rw [if_neg h6, if_pos (by omega), ih k (i + 1) _ (by omega) (by omega) (by omega) (by simp; omega), List.filter_cons_of_pos (by unfold keepRm; simp [h5, h6])]
        simp [-List.getElem_cons_drop]
theorem mof {w : World} {base : Nat} {v : Value} {ps : List SP} (h : Own kPr PrT base w v ps) (hl : ps.length ≤ 100) (d rt : Bool) (q id : Int) (tp pl name fr : ByteArray) (now : Int) :
    Calls Tryd.prog 21 #[.agg #[.bool d, .bool rt, .int .u8 q, .int .u32 id, v, .string tp, .string pl], .string name, .string fr, .int .i64 now] w (Px fun (v' : Value) e w' => e = .returned (.agg #[.string fr, .int .i64 now, .int .u8 q, .bool rt, v', .string name, .string pl]) ∧ Own kPr PrT w.heap.size w' v' (ofP ps) ∧ Keep [] w w') := by
  obtain ⟨A, c, rfl, hc, hC⟩ := (Own.toPm h).reads
  have hf := of_l0 name fr now (ps.map pm) (ps.map pm) d rt q id tp pl (by simp; omega) (ps.map pm).length 200 0 [] (by omega) (by omega) (by simp; omega) (by simp)
  rw [show ((0 : Nat) : Int) = 0 from rfl, List.drop_zero, List.nil_append] at hf
  refine (retain_Of.calls 200 d rt q id A c (ps.map pm) tp pl name fr now _ _ _ _ _ _ _ w hC hc hf).mono ?_
  rintro e w' ⟨v, rfl, hR, hB⟩
  have hO : Own kPm PrT w.heap.size w' v ((ps.map pm).filter keepPm) := hR
  refine ⟨v, rfl, ?_, Keep.of_below hB⟩
  have h2 := Own.ofPm hO
  have e2 : (((ps.map pm).filter keepPm).map mp) = ofP ps := by
    rw [List.filter_map, List.map_map]
    exact List.map_id _
  rw [e2] at h2
  exact h2
theorem rof {w : World} {base : Nat} {v : Value} {ps : List RP} (h : Own kRP RPT base w v ps) (hl : ps.length ≤ 100) (d rt : Bool) (q id : Int) (tp pl name fr : ByteArray) (now : Int) :
    Calls Tryd.prog 25 #[.agg #[.bool d, .bool rt, .int .u8 q, .int .u32 id, v, .string tp, .string pl], .string name, .string fr, .int .i64 now] w (Px fun (v' : Value) e w' => e = .returned (.agg #[.string fr, .int .i64 now, .int .u8 q, .bool rt, v', .string name, .string pl]) ∧ Own kRP RPT w.heap.size w' v' (ofR ps) ∧ Keep [] w w') := by
  obtain ⟨A, c, rfl, hc, hC⟩ := (Own.toRm h).reads
  have hf := ofr_l0 name fr now (ps.map rm) (ps.map rm) d rt q id tp pl (by simp; omega) (ps.map rm).length 200 0 [] (by omega) (by omega) (by simp; omega) (by simp)
  rw [show ((0 : Nat) : Int) = 0 from rfl, List.drop_zero, List.nil_append] at hf
  refine (switchboardref12_Of.calls 200 d rt q id A c (ps.map rm) tp pl name fr now _ _ _ _ _ _ _ w hC hc hf).mono ?_
  rintro e w' ⟨v, rfl, hR, hB⟩
  have hO : Own kRm RPT w.heap.size w' v ((ps.map rm).filter keepRm) := hR
  refine ⟨v, rfl, ?_, Keep.of_below hB⟩
  have h2 := Own.ofRm hO
  have e2 : (((ps.map rm).filter keepRm).map mr) = ofR ps := by
    rw [List.filter_map, List.map_map]
    exact List.map_id _
  rw [e2] at h2
  exact h2
end
section
open Go.Proofs.YtbgondiibnjcgaaDoor.PRetainPlays
theorem told12 {w : World} {base : Nat} {v : Value} {ps : List SP} (h : Own kPr PrT base w v ps) (hl : ps.length ≤ 100) (fr tp pl : ByteArray) (at_ q : Int) (rt : Bool) :
    Calls Tryd.prog 23 #[.agg #[.string fr, .int .i64 at_, .int .u8 q, .bool rt, v, .string tp, .string pl]] w (Px fun (v' : Value) e w' => e = .returned (.agg #[.string fr, .int .i64 at_, .int .u8 q, .bool rt, v', .string tp, .string pl]) ∧ Own kRP RPT w.heap.size w' v' (ps.map toP) ∧ Keep [] w w') := by
  obtain ⟨A, c, rfl, hc, hC⟩ := h.reads
  refine (switchboardlaw12_Told.calls (ps.length + 1) fr at_ q rt A c ps tp pl _ _ _ _ _ _ _ w hC hc (by unfold switchboardlaw12_Told.f; rw [R12.toldp_f ps (by omega) _ (by omega)]; rfl)).mono ?_
  rintro e w' ⟨v0, rfl, hR, hB⟩
  exact ⟨v0, rfl, hR, Keep.of_below hB⟩
theorem same12 {w : World} {b1 b2 : Nat} {v1 v2 : Value} {l : List RP} (h1 : Own kRP RPT b1 w v1 l) (h2 : Own kRP RPT b2 w v2 l) (hl : l.length ≤ 100) (fr tp pl : ByteArray) (at_ q : Int) (rt : Bool) :
    Calls Tryd.prog 24 #[.agg #[.string fr, .int .i64 at_, .int .u8 q, .bool rt, v1, .string tp, .string pl], .agg #[.string fr, .int .i64 at_, .int .u8 q, .bool rt, v2, .string tp, .string pl]] w fun e w' => e = .returned (.int .i64 0) ∧ Keep [] w w' := by
  obtain ⟨A1, c1, rfl, hc1, hC1⟩ := h1.reads
  obtain ⟨A2, c2, rfl, hc2, hC2⟩ := h2.reads
  refine (switchboardlaw12_Same.calls 200 fr at_ q rt A1 c1 l tp pl fr at_ q rt A2 c2 l tp pl 0 w hC1 hc1 hC2 hc2 (R12.same_f ⟨fr, at_, q, rt, l, tp, pl⟩ (by show l.length < _; omega) 200 (by show l.length < _; omega))).mono ?_
  rintro e w' ⟨rfl, hB⟩
  exact ⟨rfl, Keep.of_below hB⟩
theorem rleft {w : World} {base : Nat} {v : Value} {l : List RP} (h : Own kRP RPT base w v l) (hl : l.length ≤ 100) (fr tp pl : ByteArray) (at_ q : Int) (rt : Bool) (now : Int) :
    Calls Tryd.prog 22 #[.agg #[.string fr, .int .i64 at_, .int .u8 q, .bool rt, v, .string tp, .string pl], .int .i64 now] w fun e w' => e = .returned (.tuple #[.int .i64 (leftR at_ l now).1, .bool (leftR at_ l now).2]) ∧ Keep [] w w' := by
  obtain ⟨A, c, rfl, hc, hC⟩ := h.reads
  exact (switchboardref12_Left.calls (l.length + 1) fr at_ q rt A c l tp pl now _ _ w hC hc (R12.left_f ⟨fr, at_, q, rt, l, tp, pl⟩ now (by show l.length < _; omega) _ (by show l.length < _; omega))).mono fun e w' h => ⟨h.1, Keep.of_below h.2⟩
theorem rgone {w : World} {base : Nat} {v : Value} {l : List RP} (h : Own kRP RPT base w v l) (hl : l.length ≤ 100) (fr tp pl : ByteArray) (at_ q : Int) (rt : Bool) (now : Int) :
    Calls Tryd.prog 27 #[.agg #[.string fr, .int .i64 at_, .int .u8 q, .bool rt, v, .string tp, .string pl], .int .i64 now] w fun e w' => e = .returned (.bool (goneR now ⟨fr, at_, q, rt, l, tp, pl⟩)) ∧ Keep [] w w' := by
  obtain ⟨A, c, rfl, hc, hC⟩ := h.reads
  exact (switchboardref12_Gone.calls (l.length + 1) fr at_ q rt A c l tp pl now _ w hC hc (R12.gone_f ⟨fr, at_, q, rt, l, tp, pl⟩ now (by show l.length < _; omega) _ (by show l.length < _; omega))).mono fun e w' h => ⟨h.1, Keep.of_below h.2⟩
end
def updR (n : Int) (p : RP) : RP := if p.f0 = 2 then { p with f1 := n } else p
theorem of_map (ps : List SP) : ofR (ps.map toP) = (ofP ps).map toP := by
  unfold ofR ofP
  rw [List.filter_map]; rfl
theorem pub_map (at_ : Int) (ps : List SP) (now : Int) : (ps.map toP).map (updR (clampU (leftR at_ (ps.map toP) now).1)) = (pubPs at_ ps now).map toP := by
  unfold pubPs
  rw [left_map, List.map_map, List.map_map]
  refine List.map_congr_left fun p _ => ?_
  show updR _ (toP p) = toP (updP _ p)
  unfold updR updP
  by_cases h5 : p.f0 = 2
  · rw [if_pos h5, if_pos (show (toP p).f0 = 2 from h5)]; rfl
  · rw [if_neg h5, if_neg (show ¬ (toP p).f0 = 2 from h5)]
end M12
end Go.Proofs.YtbgondiibnjcgaaDoor
