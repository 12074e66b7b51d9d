import Derived.Test.YtjhhnidfmoejdaaDoorMem
import Derived.ProofKit
import Derived.OpenShut
import Derived.Deep.Slices
namespace Go.Proofs.YtjhhnidfmoejdaaDoor
open Go.ChangeShapes Go.WideShapes Go.ChangeAt Go.RowKit Go.Deep
inductive Sh where
  | int (k : IntKind)
  | bool
  | str
  | slice (e : Sh)
  | struct (fs : Sh)
  | nil
  | cons (f r : Sh)
namespace Sh
def size : Sh → Nat
  | int _ => 1
  | bool => 1
  | str => 1
  | slice _ => 1
  | struct fs => fs.size
  | nil => 0
  | cons f r => f.size + r.size
@[reducible] def T : Sh → Type
  | int _ => Int
  | bool => Bool
  | str => ByteArray
  | slice e => List e.T
  | struct fs => fs.T
  | nil => Unit
  | cons f r => f.T × r.T
def Rd (w : World) : (s : Sh) → s.T → List Value → Prop
  | int k, z, cs => cs = [.int k z] ∧ (Lit.int k z).wf = true
  | bool, b, cs => cs = [.bool b]
  | str, s, cs => cs = [.string s] ∧ s.size ≤ maxLen
  | slice e, zs, cs => ∃ a cap, cs = [.slice a zs.length cap] ∧ zs.length ≤ cap ∧ cap ≤ maxLen ∧ (0 < zs.length → ∃ b off, a = some ⟨b, off, none⟩ ∧
      ∀ i z, zs[i]? = some z → ∃ c : List Value, c.length = e.size ∧ (∀ j, j < e.size → w.cell? ⟨b, off + i * e.size + j, none⟩ = c[j]?) ∧ e.Rd w z c)
  | struct fs, z, cs => fs.Rd w z cs
  | nil, _, cs => cs = []
  | cons f r, z, cs => ∃ c1 c2, cs = c1 ++ c2 ∧ c1.length = f.size ∧ f.Rd w z.1 c1 ∧ r.Rd w z.2 c2
def F (P : Program) : Sh → (TypeId → Prop) × (List Field → Nat → Prop)
  | int k => (fun t => P.underlying t = some (.int k), fun _ _ => False)
  | bool => (fun t => P.underlying t = some .bool, fun _ _ => False)
  | str => (fun t => P.underlying t = some .string, fun _ _ => False)
  | slice e => (fun t => ∃ te, P.underlying t = some (.slice te) ∧ P.cellsOf te = e.size ∧ 0 < e.size ∧ (e.F P).1 te, fun _ _ => False)
  | struct fs => (fun t => ∃ l, P.underlying t = some (.struct l) ∧ P.cellsOf t = fs.size ∧ (fs.F P).2 l.toList 0, fun _ _ => False)
  | nil => (fun _ => False, fun l _ => l = [])
  | cons f r => (fun _ => False, fun l off => ∃ x l', l = x :: l' ∧ x.offset = off ∧ P.cellsOf x.type = f.size ∧ (f.F P).1 x.type ∧ (r.F P).2 l' (off + f.size))
theorem cells_spot {w : World} {base : Nat} {a : Addr} {n : Nat} {cs : List Value} (hn : 0 < n) (h : w.cells? base a n = some cs) : cs.length = n ∧ ∃ b off, a = ⟨b, off, none⟩ ∧ ∀ j, j < n → w.cell? ⟨b, off + j, none⟩ = cs[j]? := by
  obtain ⟨_, hlen, hc⟩ := World.cells?_some h
  obtain ⟨b, off, sp⟩ := a
  have h0 := hc 0 (by omega)
  have hsp : sp = none := by
    cases sp with
    | none => rfl
    | some s =>
      rw [List.getElem?_eq_getElem (by omega)] at h0
      simp [Addr.add, World.cell?] at h0
      split at h0 <;> simp at h0
  subst hsp
  refine ⟨hlen, b, off, rfl, fun j hj => ?_⟩
  have := hc j (by omega)
  simp only [Addr.add] at this
  by_cases hj0 : j = 0
  · subst hj0; simpa using this
  · simpa [hj0] using this
variable {H : Type} {enc : TypeId × Value → H} {P : Program} {w : World} {base : Nat} {spare : Nat → Bool} {held : Bool}
theorem list_choose {α : Type} {n : Nat} {p : Nat → α → Prop} (h : ∀ i, i < n → ∃ x, p i x) : ∃ l : List α, l.length = n ∧ ∀ i x, l[i]? = some x → p i x := by
  induction n with
  | zero => exact ⟨[], rfl, by simp⟩
  | succ n ih =>
    obtain ⟨l, hl, hp⟩ := ih (fun i hi => h i (by omega))
    obtain ⟨x, hx⟩ := h n (by omega)
    refine ⟨l ++ [x], by simp [hl], fun i y hy => ?_⟩
    rw [List.getElem?_append] at hy
    split at hy
    · exact hp i y hy
    · rename_i hi
      have : i = n := by
        have := (List.getElem?_eq_some_iff.1 hy).1
        simp at this; omega
      subst this
      rw [hl] at hy; simp at hy; subst hy; exact hx
theorem opens (s : Sh) : (∀ (t : TypeId) (fuel : Nat) (cs : List Value) (x : DataW H × List MemPlace), (s.F P).1 t → DataW.trod enc P w base spare held fuel t cs = some x → ∃ z, s.Rd w z cs) ∧
    (∀ (l : List Field) (off n : Nat) (cs : List Value), (s.F P).2 l off → cs.length = off + s.size → (∀ f ∈ l, ∃ y, DataW.trod enc P w base spare held n f.type ((cs.drop f.offset).take (P.cellsOf f.type)) = some y) → ∃ z, s.Rd w z (cs.drop off)) := by
  induction s with
  | int k =>
    refine ⟨fun t fuel cs x hF h => ?_, fun l off n cs hF => hF.elim⟩
    obtain ⟨a, h1, _, h2⟩ := DataW.trod_int hF h
    exact ⟨a, h1, h2⟩
  | bool =>
    refine ⟨fun t fuel cs x hF h => ?_, fun l off n cs hF => hF.elim⟩
    obtain ⟨a, h1, _⟩ := DataW.trod_bool hF h
    exact ⟨a, h1⟩
  | str =>
    refine ⟨fun t fuel cs x hF h => ?_, fun l off n cs hF => hF.elim⟩
    obtain ⟨a, h1, _, h2⟩ := DataW.trod_string hF h
    exact ⟨a, h1, h2⟩
  | slice e ih =>
    refine ⟨fun t fuel cs x hF h => ?_, fun l off n cs hF => hF.elim⟩
    obtain ⟨te, ht, hc, hpos, hFe⟩ := hF
    rcases open_slice ht h with ⟨rfl, _⟩ | ⟨a, len, cap, m, n, D, Pl, rfl, hb, hl, hm, hmm, _, hx⟩
    · exact ⟨[], none, 0, rfl, by simp, by simp [maxLen], by simp⟩
    · rw [hc] at hx
      have hlm : len ≤ m := by rw [hmm]; split <;> omega
      obtain ⟨zs, hlen, hz⟩ := list_choose (n := len) (p := fun i z => ∃ c : List Value, w.cells? base (a.add (i * e.size)) e.size = some c ∧ e.Rd w z c) (fun i hi => by
        obtain ⟨c, h1, h2⟩ := hx i (by omega)
        obtain ⟨z, hz⟩ := ih.1 te n c _ hFe h2
        exact ⟨z, c, h1, hz⟩)
      subst hlen
      refine ⟨zs, some a, cap, rfl, hl, hm, fun h0 => ?_⟩
      obtain ⟨z0, hz0⟩ : ∃ z0, zs[0]? = some z0 := ⟨_, List.getElem?_eq_getElem h0⟩
      obtain ⟨c0, hc0, _⟩ := hz 0 z0 hz0
      obtain ⟨_, b, off, ha, _⟩ := cells_spot hpos hc0
      simp [Addr.add] at ha
      subst ha
      refine ⟨b, off, rfl, fun i z hi => ?_⟩
      obtain ⟨c, hc1, hR⟩ := hz i z hi
      obtain ⟨hl1, b1, off1, ha1, hcell⟩ := cells_spot hpos hc1
      refine ⟨c, hl1, fun j hj => ?_, hR⟩
      have : b1 = b ∧ off1 = off + i * e.size := by
        simp only [Addr.add] at ha1
        split at ha1
        · rename_i h0; simp at ha1; simp [ha1, h0]
        · simp at ha1; simp [ha1]
      obtain ⟨rfl, rfl⟩ := this
      exact hcell j hj
  | struct fs ih =>
    refine ⟨fun t fuel cs x hF h => ?_, fun l off n cs hF => hF.elim⟩
    obtain ⟨l, ht, hc, hFl⟩ := hF
    obtain ⟨xs, n, _, _, hl, hlen, hf⟩ := DataW.trod_struct ht h
    obtain ⟨z, hz⟩ := ih.2 l.toList 0 n cs hFl (by rw [hl, hc]; simp) (fun f hf' => by
      obtain ⟨i, hi, e⟩ := List.getElem_of_mem hf'
      have := hf i f (by rw [← e]; simp at hi; simp [hi])
      rw [this]
      exact ⟨_, List.getElem?_eq_getElem (by rw [hlen]; simpa using hi)⟩)
    rw [List.drop_zero] at hz
    exact ⟨z, hz⟩
  | nil =>
    refine ⟨fun t fuel cs x hF => hF.elim, fun l off n cs hF hlen h => ⟨(), ?_⟩⟩
    simp only [Rd, List.drop_eq_nil_iff]
    simp [size] at hlen; omega
  | cons f r ihf ihr =>
    refine ⟨fun t fuel cs x hF => hF.elim, fun l off n cs hF hlen h => ?_⟩
    obtain ⟨x, l', rfl, ho, hc, hFf, hFr⟩ := hF
    simp only [size] at hlen
    obtain ⟨y, hy⟩ := h x (by simp)
    rw [ho, hc] at hy
    obtain ⟨z1, hz1⟩ := ihf.1 x.type n _ y hFf hy
    obtain ⟨z2, hz2⟩ := ihr.2 l' (off + f.size) n cs hFr (by omega) (fun g hg => h g (by simp [hg]))
    refine ⟨(z1, z2), (cs.drop off).take f.size, cs.drop (off + f.size), ?_, ?_, hz1, hz2⟩
    · rw [← List.drop_drop, List.take_append_drop]
    · simp; omega
theorem slice_len {w : World} {e : Sh} {z : List e.T} {a : Option Addr} {len cap : Nat} (r : Rd w (.slice e) z [.slice a len cap]) : len = z.length ∧ len ≤ cap ∧ cap ≤ maxLen := by
  obtain ⟨a', cap', h, h1, h2, _⟩ := r
  simp at h
  obtain ⟨rfl, rfl, rfl⟩ := h
  exact ⟨rfl, h1, h2⟩
theorem slice_at {w : World} {e : Sh} {z : List e.T} {a : Option Addr} {len cap : Nat} (r : Rd w (.slice e) z [.slice a len cap]) (hl : 0 < len) :
    ∃ b off, a = some ⟨b, off, none⟩ ∧ ∀ i z', z[i]? = some z' → ∃ c : List Value, c.length = e.size ∧ (∀ j, j < e.size → w.cell? ⟨b, off + i * e.size + j, none⟩ = c[j]?) ∧ e.Rd w z' c := by
  obtain ⟨a', cap', h, h1, h2, h3⟩ := r
  simp at h
  obtain ⟨rfl, rfl, rfl⟩ := h
  exact h3 hl
end Sh
end Go.Proofs.YtjhhnidfmoejdaaDoor
