import Derived.Test.YtbgondiibnjcgaaDoorCut
import Derived.Test.YtbgondiibnjcgaaDoorBox
import Derived.Test.YtbgondiibnjcgaaDoorPpR
namespace Go.Proofs.YtbgondiibnjcgaaDoor
open Go.RowKit Go.Proofs.YtbgondiibnjcgaaDoor.PRetainPlays Go.Proofs.YtbgondiibnjcgaaDoorW.PrintWords Go.Proofs.YtbgondiibnjcgaaDoorW.PrintLast
set_option maxRecDepth 10000
set_option linter.unusedVariables false
set_option maxHeartbeats 1000000
abbrev ShProp : Sh := .struct (.cons (.int .i64) (.cons (.int .u32) (.cons .str (.cons .str .nil))))
abbrev ShMsg : Sh := .struct (.cons .str (.cons (.int .i64) (.cons (.int .u8) (.cons .bool (.cons (.slice ShProp) (.cons .str (.cons .str .nil)))))))
def propsOf (z : Sh.T (.slice ShProp)) : List SP := List.map (fun x => (⟨x.1, x.2.1, x.2.2.1, x.2.2.2.1⟩ : SP)) z
theorem props_in {w : World} {z : Sh.T (.slice ShProp)} {A : Option Addr} {n cap : Nat} (r : Sh.Rd w (.slice ShProp) z [.slice A n cap]) :
    n = (propsOf z).length ∧ n ≤ cap ∧ kPr.C w A n (propsOf z) ∧ ∀ p ∈ propsOf z, 0 ≤ p.f1 ∧ p.f1 ≤ 4294967295 := by
  obtain ⟨a', cap', h, h1, h2, h3⟩ := r
  simp at h
  obtain ⟨rfl, rfl, rfl⟩ := h
  have hel : ∀ (b off : Nat), (∀ (i : Nat) (y : Sh.T ShProp), (z : List (Sh.T ShProp))[i]? = some y → ∃ c : List Value, c.length = ShProp.size ∧ (∀ j, j < ShProp.size → w.cell? ⟨b, off + i * ShProp.size + j, none⟩ = c[j]?) ∧ Sh.Rd w ShProp y c) →
      ∀ (i : Nat) (y : Sh.T ShProp), (z : List (Sh.T ShProp))[i]? = some y → (0 ≤ y.2.1 ∧ y.2.1 ≤ 4294967295) ∧ ∀ j u, [Value.int .i64 y.1, .int .u32 y.2.1, .string y.2.2.1, .string y.2.2.2.1][j]? = some u → w.cell? ⟨b, off + i * 4 + j, none⟩ = some u := by
    intro b off hh i y hy
    obtain ⟨c, k1, k2, c1, c2, rfl, _, ⟨rfl, w1⟩, d1, d2, rfl, _, ⟨rfl, w2⟩, e1, e2, rfl, _, ⟨rfl, w3⟩, f1, f2, rfl, _, ⟨rfl, w4⟩, rfl⟩ := hh i y hy
    refine ⟨?_, fun j u hj => ?_⟩
    · have := w2
      simp [Lit.wf, IntKind.min, IntKind.max, IntKind.signed, IntKind.bits] at this
      omega
    · have hlt : j < 4 := by
        have := (List.getElem?_eq_some_iff.1 hj).1
        simpa using this
      have := k2 j (by simpa [Sh.size] using hlt)
      simp only [Sh.size] at this
      rw [show off + i * 4 + j = off + i * (1 + (1 + (1 + (1 + 0)))) + j by omega, this]
      exact hj
  refine ⟨by simp [propsOf], h1, ⟨by simp [propsOf], by unfold maxLen at h2; omega, fun h0 => ?_⟩, fun p hp => ?_⟩
  · obtain ⟨b, off, rfl, hh⟩ := h3 h0
    refine ⟨_, rfl, fun j p hp => ?_⟩
    unfold propsOf at hp
    rw [List.getElem?_map] at hp
    obtain ⟨y, hy, rfl⟩ := Option.map_eq_some_iff.1 hp
    obtain ⟨_, hc⟩ := hel b off hh j y hy
    refine ⟨[Value.int .i64 y.1, .int .u32 y.2.1, .string y.2.2.1, .string y.2.2.2.1], rfl, k30_mk _ _, fun i u hu => ?_⟩
    have := hc i u hu
    rw [show ∀ (m : Nat), (⟨b, off, none⟩ : Addr).add m = ⟨b, off + m, none⟩ from fun m => by unfold Addr.add; split <;> simp_all, show kPr.sz = 4 from rfl, show off + (j * 4 + i) = off + j * 4 + i by omega]
    exact this
  · unfold propsOf at hp
    obtain ⟨y, hy, rfl⟩ := List.mem_map.1 hp
    obtain ⟨i, hi, rfl⟩ := List.getElem_of_mem hy
    obtain ⟨b, off, _, hh⟩ := h3 (by omega)
    exact (hel b off hh i _ (List.getElem?_eq_getElem hi)).1
theorem msg_in {w : World} {z : Sh.T ShMsg} {cs : List Value} (r : Sh.Rd w ShMsg z cs) :
    ∃ (fr : ByteArray) (at_ q : Int) (rt : Bool) (A : Option Addr) (c : Nat) (ps : List SP) (tp pl : ByteArray), cs = [.string fr, .int .i64 at_, .int .u8 q, .bool rt, .slice A ps.length c, .string tp, .string pl] ∧
      ps.length ≤ c ∧ kPr.C w A ps.length ps ∧ (∀ p ∈ ps, 0 ≤ p.f1 ∧ p.f1 ≤ 4294967295) ∧ (0 ≤ q ∧ q ≤ 255) := by
  obtain ⟨c1, d1, rfl, _, ⟨rfl, w1⟩, c2, d2, rfl, _, ⟨rfl, w2⟩, c3, d3, rfl, _, ⟨rfl, w3⟩, c4, d4, rfl, _, rfl, c5, d5, rfl, _, hsl, c6, d6, rfl, _, ⟨rfl, w6⟩, c7, d7, rfl, _, ⟨rfl, w7⟩, rfl⟩ := r
  obtain ⟨A, cap2, rfl, q1, q2, q3⟩ := hsl
  obtain ⟨p1, p2, p3, p4⟩ := props_in (w := w) ⟨A, cap2, rfl, q1, q2, q3⟩
  rw [p1] at p2 p3
  refine ⟨_, _, _, _, A, cap2, _, _, _, by simp only [List.cons_append, List.nil_append]; rw [p1], p2, p3, p4, ?_⟩
  have := w3
  simp [Lit.wf, IntKind.min, IntKind.max, IntKind.signed, IntKind.bits] at this
  omega
def cutP (p : SP) : SP := ⟨p.f0, p.f1, cutS p.f2 20, cutS p.f3 20⟩
def fewP (l : List SP) : List SP := (l.take 8).map cutP
def tickV (n : Int) : Int := Int.tmod (Int.tmod n 100000 + 100000) 100000
theorem tick_f (n : Int) : switchboardlaw12_Tick.f n = some (tickV n) := by
  unfold switchboardlaw12_Tick.f tickV
  have h1 := Int.tmod_lt_of_pos n (show (0 : Int) < 100000 by decide)
  have h2 : -100000 < Int.tmod n 100000 := by
    rcases Int.le_total 0 n with h | h
    · have := Int.tmod_nonneg 100000 h; omega
    · have h3 := Int.neg_tmod (a := -n) (b := 100000)
      rw [Int.neg_neg] at h3
      have h4 := Int.tmod_lt_of_pos (-n) (show (0 : Int) < 100000 by decide)
      omega
  have h3 : wrap64 (Int.tmod n 100000 + 100000) = Int.tmod n 100000 + 100000 := by unfold wrap64; omega
  rw [h3]
theorem cut_f (s : ByteArray) (n : Nat) : switchboardlaw01_Cut.f s (n : Int) = some (cutS s n) := by
  unfold switchboardlaw01_Cut.f cutS
  by_cases h : s.size > n
  · rw [if_pos (by omega), if_pos (by omega), if_pos (by omega), if_pos h]; rfl
  · rw [if_neg (by omega), if_neg h]
theorem few_l0 (l : List SP) : ∀ (d k i : Nat) (out : List SP), 8 - i = d → i ≤ 8 → 2 * d + 2 < k → out.length ≤ i →
    switchboardlaw03_Few.l0 k l out (i : Int) = some (out ++ ((l.drop i).take (8 - i)).map cutP) := by
  intro d
  induction d with
  | zero =>
    intro k i out h1 h2 h3 h4
    obtain ⟨k, rfl⟩ : ∃ m, k = m + 1 + 1 := ⟨k - 2, by omega⟩
    obtain rfl : i = 8 := by omega
    have hd : decide (((8 : Nat) : Int) < 8) = false := by decide
    simp only [switchboardlaw03_Few.l0, hd, switchboardlaw03_Few.j1]
    rw [ite_self]
    simp
  | succ d ih =>
    intro k i out h1 h2 h3 h4
    obtain ⟨k, rfl⟩ : ∃ m, k = m + 1 + 1 := ⟨k - 2, by omega⟩
    have e : wrap64 ((i : Int) + 1) = ((i + 1 : Nat) : Int) := by unfold wrap64; omega
    have hd : decide ((i : Int) < 8) = true := by simp; omega
    simp only [switchboardlaw03_Few.l0, hd, switchboardlaw03_Few.j1]
    by_cases hi : i < l.length
    · rw [if_pos (by omega), if_pos trivial, if_pos (by omega), if_pos (by omega), rdP_at l i hi]
      rw [show (20 : Int) = ((20 : Nat) : Int) from rfl, cut_f, cut_f]
      simp only [Option.bind_some]
      rw [if_pos (by omega), e, ih k (i + 1) _ (by omega) (by omega) (by omega) (by simp; omega)]
      rw [List.drop_eq_getElem_cons hi, show 8 - i = (8 - (i + 1)) + 1 by omega, List.take_succ_cons, List.map_cons]
      simp [cutP]
    · rw [if_neg (by omega), if_neg (by simp), List.drop_of_length_le (by omega)]; simp
theorem few_f (l : List SP) (fr tp pl : ByteArray) (at_ q : Int) (rt : Bool) (k : Nat) (hk : 20 ≤ k) : switchboardlaw12_Few.f k fr at_ q rt l tp pl = some (cutS fr 10, tickV at_, q, rt, fewP l, cutS tp 30, cutS pl 30) := by
  unfold switchboardlaw12_Few.f switchboardlaw03_Few.f
  rw [show (10 : Int) = ((10 : Nat) : Int) from rfl, show (30 : Int) = ((30 : Nat) : Int) from rfl, cut_f, cut_f, cut_f, tick_f]
  simp only [Option.bind_some]
  have := few_l0 l 8 k 0 [] rfl (by omega) (by omega) (by simp)
  simp only [List.drop_zero, List.nil_append, Nat.sub_zero] at this
  rw [show ((0 : Nat) : Int) = 0 from rfl] at this
  rw [this]
  rfl
theorem fewP_len (ps : List SP) : (fewP ps).length ≤ 8 := by unfold fewP; simp; omega
theorem mfew {w : World} {A : Option Addr} {c : Nat} {ps : List SP} (hc : ps.length ≤ c) (hC : kPr.C w A ps.length ps) (fr tp pl : ByteArray) (at_ q : Int) (rt : Bool) :
    Calls Tryd.prog 9 #[.agg #[.string fr, .int .i64 at_, .int .u8 q, .bool rt, .slice A ps.length c, .string tp, .string pl]] w (Px fun (v : Value) e w' => e = .returned (.agg #[.string (cutS fr 10), .int .i64 (tickV at_), .int .u8 q, .bool rt, v, .string (cutS tp 30), .string (cutS pl 30)]) ∧ Own kPr PrT w.heap.size w' v (fewP ps) ∧ Keep [] w w') := by
  refine (switchboardlaw12_Few.calls 20 fr at_ q rt A c ps tp pl _ _ _ _ _ _ _ w hC hc (few_f ps fr tp pl at_ q rt 20 (Nat.le_refl _))).mono ?_
  rintro e w' ⟨v, rfl, hR, hB⟩
  exact ⟨v, rfl, hR, Keep.of_below hB⟩
theorem mtick (n : Int) (w : World) : Calls Tryd.prog 10 #[.int .i64 n] w fun e w' => e = .returned (.int .i64 (tickV n)) ∧ Keep [] w w' := by
  refine (switchboardlaw12_Tick.calls n _ w (tick_f n)).mono ?_
  rintro e w' ⟨rfl, hd⟩
  exact ⟨rfl, Keep.of_below hd.below⟩
end Go.Proofs.YtbgondiibnjcgaaDoor
