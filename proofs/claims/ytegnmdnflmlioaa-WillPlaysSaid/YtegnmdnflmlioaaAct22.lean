import Derived.Test.YtegnmdnflmlioaaIn
import Derived.Test.YtegnmdnflmlioaaPp
namespace Go.Proofs.Ytegnmdnflmlioaa
open Go.RowKit Go.Proofs.Ytegnmdnflmlioaa.PWillPlays Go.Proofs.YtegnmdnflmlioaaW.PrintWords Go.Proofs.YtegnmdnflmlioaaW.PrintLast
set_option maxRecDepth 10000
abbrev ShProp : Sh := .struct (.cons (.int .i64) (.cons (.int .u32) (.cons .str (.cons .str .nil))))
abbrev ShWill : Sh := .struct (.cons (.slice ShProp) (.cons .str (.cons .str (.cons (.int .u8) (.cons .bool .nil)))))
abbrev ShAct22 : Sh := .struct (.cons (.int .i64) (.cons (.int .i64) (.cons .str (.cons ShWill (.cons (.int .u32) .nil)))))
def propsOf (z : Sh.T (.slice ShProp)) : List SP := List.map (fun x => (⟨x.1, x.2.1, x.2.2.1, x.2.2.2.1⟩ : SP)) z
theorem props_in {w : World} {z : Sh.T (.slice ShProp)} {A : Option Addr} {n cap : Nat} (r : Sh.Rd w (.slice ShProp) z [.slice A n cap]) :
    n = (propsOf z).length ∧ n ≤ cap ∧ kPr.C w A n (propsOf z) ∧ ∀ p ∈ propsOf z, 0 ≤ p.f1 ∧ p.f1 ≤ 4294967295 := by
  obtain ⟨a', cap', h, h1, h2, h3⟩ := r
  simp at h
  obtain ⟨rfl, rfl, rfl⟩ := h
  have hel : ∀ (b off : Nat), (∀ (i : Nat) (y : Sh.T ShProp), (z : List (Sh.T ShProp))[i]? = some y → ∃ c : List Value, c.length = ShProp.size ∧ (∀ j, j < ShProp.size → w.cell? ⟨b, off + i * ShProp.size + j, none⟩ = c[j]?) ∧ Sh.Rd w ShProp y c) →
      ∀ (i : Nat) (y : Sh.T ShProp), (z : List (Sh.T ShProp))[i]? = some y → (0 ≤ y.2.1 ∧ y.2.1 ≤ 4294967295) ∧ ∀ j u, [Value.int .i64 y.1, .int .u32 y.2.1, .string y.2.2.1, .string y.2.2.2.1][j]? = some u → w.cell? ⟨b, off + i * 4 + j, none⟩ = some u := by
    intro b off hh i y hy
    obtain ⟨c, k1, k2, c1, c2, rfl, _, ⟨rfl, w1⟩, d1, d2, rfl, _, ⟨rfl, w2⟩, e1, e2, rfl, _, ⟨rfl, w3⟩, f1, f2, rfl, _, ⟨rfl, w4⟩, rfl⟩ := hh i y hy
    refine ⟨?_, fun j u hj => ?_⟩
    · have := w2
      simp [Lit.wf, IntKind.min, IntKind.max, IntKind.signed, IntKind.bits] at this
      omega
    · have hlt : j < 4 := by
        have := (List.getElem?_eq_some_iff.1 hj).1
        simpa using this
      have := k2 j (by simpa [Sh.size] using hlt)
      simp only [Sh.size] at this
      rw [show off + i * 4 + j = off + i * (1 + (1 + (1 + (1 + 0)))) + j by omega, this]
      exact hj
  refine ⟨by simp [propsOf], h1, ⟨by simp [propsOf], by unfold maxLen at h2; omega, fun h0 => ?_⟩, fun p hp => ?_⟩
  · obtain ⟨b, off, rfl, hh⟩ := h3 h0
    refine ⟨_, rfl, fun j p hp => ?_⟩
    unfold propsOf at hp
    rw [List.getElem?_map] at hp
    obtain ⟨y, hy, rfl⟩ := Option.map_eq_some_iff.1 hp
    obtain ⟨_, hc⟩ := hel b off hh j y hy
    refine ⟨[Value.int .i64 y.1, .int .u32 y.2.1, .string y.2.2.1, .string y.2.2.2.1], rfl, k29_mk _ _, fun i u hu => ?_⟩
    have := hc i u hu
    rw [show ∀ (m : Nat), (⟨b, off, none⟩ : Addr).add m = ⟨b, off + m, none⟩ from fun m => by unfold Addr.add; split <;> simp_all, show kPr.sz = 4 from rfl, show off + (j * 4 + i) = off + j * 4 + i by omega]
    exact this
  · unfold propsOf at hp
    obtain ⟨y, hy, rfl⟩ := List.mem_map.1 hp
    obtain ⟨i, hi, rfl⟩ := List.getElem_of_mem hy
    obtain ⟨b, off, _, hh⟩ := h3 (by omega)
    exact (hel b off hh i _ (List.getElem?_eq_getElem hi)).1
theorem slice_act22 {w : World} {z : Sh.T (.slice ShAct22)} {a : Option Addr} {len cap : Nat} (r : Sh.Rd w (.slice ShAct22) z [.slice a len cap]) (hl : 0 < len) :
    ∃ b off, a = some ⟨b, off, none⟩ ∧ b < w.heap.size ∧ ∀ i, i < len → ∃ (kd nn : Int) (cl : ByteArray) (A : Option Addr) (c : Nat) (ps : List SP) (tp pl : ByteArray) (q : Int) (rt : Bool) (ex : Int),
      (w.cell? ⟨b, off + i * 9, none⟩ = some (.int .i64 kd) ∧ w.cell? ⟨b, off + i * 9 + 1, none⟩ = some (.int .i64 nn) ∧ w.cell? ⟨b, off + i * 9 + 2, none⟩ = some (.string cl) ∧ w.cell? ⟨b, off + i * 9 + 3, none⟩ = some (.slice A ps.length c) ∧ w.cell? ⟨b, off + i * 9 + 4, none⟩ = some (.string tp) ∧ w.cell? ⟨b, off + i * 9 + 5, none⟩ = some (.string pl) ∧ w.cell? ⟨b, off + i * 9 + 6, none⟩ = some (.int .u8 q) ∧ w.cell? ⟨b, off + i * 9 + 7, none⟩ = some (.bool rt) ∧ w.cell? ⟨b, off + i * 9 + 8, none⟩ = some (.int .u32 ex)) ∧
      ps.length ≤ c ∧ kPr.C w A ps.length ps ∧ (∀ p ∈ ps, 0 ≤ p.f1 ∧ p.f1 ≤ 4294967295) ∧ 0 ≤ ex ∧ ex ≤ 4294967295 := by
  obtain ⟨rfl, _⟩ := Sh.slice_len r
  obtain ⟨b, off, ha, h⟩ := Sh.slice_at r hl
  have H : ∀ i, i < List.length z → ∃ (kd nn : Int) (cl : ByteArray) (A : Option Addr) (c : Nat) (ps : List SP) (tp pl : ByteArray) (q : Int) (rt : Bool) (ex : Int),
      (w.cell? ⟨b, off + i * 9, none⟩ = some (.int .i64 kd) ∧ w.cell? ⟨b, off + i * 9 + 1, none⟩ = some (.int .i64 nn) ∧ w.cell? ⟨b, off + i * 9 + 2, none⟩ = some (.string cl) ∧ w.cell? ⟨b, off + i * 9 + 3, none⟩ = some (.slice A ps.length c) ∧ w.cell? ⟨b, off + i * 9 + 4, none⟩ = some (.string tp) ∧ w.cell? ⟨b, off + i * 9 + 5, none⟩ = some (.string pl) ∧ w.cell? ⟨b, off + i * 9 + 6, none⟩ = some (.int .u8 q) ∧ w.cell? ⟨b, off + i * 9 + 7, none⟩ = some (.bool rt) ∧ w.cell? ⟨b, off + i * 9 + 8, none⟩ = some (.int .u32 ex)) ∧
      ps.length ≤ c ∧ kPr.C w A ps.length ps ∧ (∀ p ∈ ps, 0 ≤ p.f1 ∧ p.f1 ≤ 4294967295) ∧ 0 ≤ ex ∧ ex ≤ 4294967295 := by
    intro i hi
    obtain ⟨c, k1, k2, c1, c2, rfl, _, ⟨rfl, w1⟩, d1, d2, rfl, _, ⟨rfl, w2⟩, e1, e2, rfl, _, ⟨rfl, w3⟩, f1, f2, rfl, l5, ⟨g1, g2, rfl, lg, hsl, g3, g4, rfl, _, ⟨rfl, w4⟩, g5, g6, rfl, _, ⟨rfl, w5⟩, g7, g8, rfl, _, ⟨rfl, w6⟩, g9, g10, rfl, _, rfl, rfl⟩, h1, h2, rfl, _, ⟨rfl, w7⟩, rfl⟩ := h i _ (List.getElem?_eq_getElem hi)
    obtain ⟨A, cap2, rfl, q1, q2, q3⟩ := hsl
    obtain ⟨p1, p2, p3, p4⟩ := props_in (w := w) ⟨A, cap2, rfl, q1, q2, q3⟩
    simp only [Sh.size] at k2
    have k3 := fun j (hj : j < 9) => k2 j (by omega)
    rw [show i * (1 + (1 + (1 + (1 + (1 + (1 + (1 + (1 + 0)))) + (1 + 0))))) = i * 9 by omega] at k3
    rw [p1] at k3 p2 p3
    exact ⟨_, _, _, A, cap2, _, _, _, _, _, _, ⟨by simpa using k3 0 (by omega), by simpa using k3 1 (by omega), by simpa using k3 2 (by omega), by simpa using k3 3 (by omega), by simpa using k3 4 (by omega), by simpa using k3 5 (by omega), by simpa using k3 6 (by omega), by simpa using k3 7 (by omega), by simpa using k3 8 (by omega)⟩, p2, p3, p4, by
      have := w7
      simp [Lit.wf, IntKind.min, IntKind.max, IntKind.signed, IntKind.bits] at this
      omega, by
      have := w7
      simp [Lit.wf, IntKind.min, IntKind.max, IntKind.signed, IntKind.bits] at this
      omega⟩
  obtain ⟨_, _, _, _, _, _, _, _, _, _, _, ⟨h0, _⟩, _⟩ := H 0 hl
  exact ⟨b, off, ha, World.block_lt_of_cell? _ _ h0, H⟩
end Go.Proofs.Ytegnmdnflmlioaa
