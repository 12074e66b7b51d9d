import Derived.WalkKit
import Derived.WalkSpells
import Derived.WalkLawsBesides
import Derived.Maps.OwnSet
import Derived.Maps.OwnOps
namespace Go.Proofs.YtjhhnidfmoejdaaDoor
open Go.RowKit
theorem hide {p : Prop} (h : p) : Hid p := h
def Px {α : Type} (f : α → Ending → World → Prop) (e : Ending) (w : World) : Prop := ∃ x, f x e w
def Blk (w : World) (b : Nat) (cs : Array Value) (T : TypeId) : Prop := ∃ lo hi, w.heap[b]? = some (.cells cs T (lo, hi)) ∧ (hi ≤ lo ∨ cs.size ≤ lo)
theorem Blk.lt {w : World} {b : Nat} {cs : Array Value} {T : TypeId} (h : Blk w b cs T) : b < w.heap.size := by
  obtain ⟨lo, hi, h, _⟩ := h; exact (Array.getElem?_eq_some_iff.1 h).1
theorem Blk.cell {w : World} {b : Nat} {cs : Array Value} {T : TypeId} (h : Blk w b cs T) (o : Nat) : w.cell? ⟨b, o, none⟩ = cs[o]? := by
  obtain ⟨lo, hi, h, _⟩ := h; simp [World.cell?, h]
theorem Blk.frozen {w : World} {b : Nat} {cs : Array Value} {T : TypeId} (h : Blk w b cs T) (o : Nat) (ho : o < cs.size) : w.frozen? ⟨b, o, none⟩ = false := by
  obtain ⟨lo, hi, h, h'⟩ := h
  simp only [World.frozen?, h, Bool.and_eq_false_iff, decide_eq_false_iff_not]
  omega
theorem Blk.of {w : World} {b : Nat} {cs : Array Value} {T : TypeId} {lo hi : Nat} (h : w.heap[b]? = some (.cells cs T (lo, hi))) (hl : hi ≤ lo ∨ cs.size ≤ lo) : Blk w b cs T := ⟨lo, hi, h, hl⟩
theorem Blk.new (w : World) (cs : Array Value) (T : TypeId) : Blk (w.alloc (.cells cs T)) w.heap.size cs T := by
  refine ⟨0, 0, ?_, Or.inl (Nat.le_refl _)⟩
  show (w.heap.push _)[w.heap.size]? = _; simp
theorem Blk.new' {w : World} {n : Nat} (cs : Array Value) (T : TypeId) (h : n = w.heap.size) : Blk (w.alloc (.cells cs T)) n cs T := by
  subst h; exact Blk.new w cs T
theorem Blk.of_block {w w' : World} {b : Nat} {cs : Array Value} {T : TypeId} (h : Blk w b cs T) (hb : w'.heap[b]? = w.heap[b]?) : Blk w' b cs T := by
  obtain ⟨lo, hi, h, h'⟩ := h; exact ⟨lo, hi, hb.trans h, h'⟩
theorem Blk.alloc {w : World} {b : Nat} {cs : Array Value} {T : TypeId} (h : Blk w b cs T) (o : Obj) : Blk (w.alloc o) b cs T := h.of_block (Below.heap_alloc _ _ _ h.lt)
theorem Blk.drew {w : World} {b : Nat} {cs : Array Value} {T : TypeId} (h : Blk w b cs T) : Blk w.drew b cs T := h
theorem Blk.drewN {w : World} {b : Nat} {cs : Array Value} {T : TypeId} (h : Blk w b cs T) (n : Nat) : Blk (w.drewN n) b cs T := h
theorem Blk.set {w : World} {b : Nat} {cs : Array Value} {T : TypeId} (h : Blk w b cs T) (o : Nat) (v : Value) : Blk (w.setCell ⟨b, o, none⟩ v) b (cs.setIfInBounds o v) T := by
  obtain ⟨lo, hi, h, h'⟩ := h
  refine ⟨lo, hi, ?_, by simpa using h'⟩
  simp only [World.setCell, Array.getElem?_modify, h]; simp
theorem Blk.other {w : World} {b : Nat} {cs : Array Value} {T : TypeId} (h : Blk w b cs T) {a : Addr} (hne : b ≠ a.block) (v : Value) : Blk (w.setCell a v) b cs T := h.of_block (Below.heap_setCell _ _ _ _ hne)
structure Keep (S : List Nat) (w w' : World) : Prop where
  os : w'.os = w.os
  tape : w'.tape = w.tape
  output : w'.output = w.output
  size : w.heap.size ≤ w'.heap.size
  block : ∀ k, k < w.heap.size → k ∉ S → w'.heap[k]? = w.heap[k]?
theorem Keep.refl (S : List Nat) (w : World) : Keep S w w := ⟨rfl, rfl, rfl, Nat.le_refl _, fun _ _ _ => rfl⟩
theorem Keep.trans {S S1 S2 : List Nat} {a b c : World} (h1 : Keep S1 a b) (h2 : Keep S2 b c) (i1 : ∀ x ∈ S1, x < a.heap.size → x ∈ S) (i2 : ∀ x ∈ S2, x < a.heap.size → x ∈ S) : Keep S a c :=
  ⟨h2.os.trans h1.os, h2.tape.trans h1.tape, h2.output.trans h1.output, Nat.le_trans h1.size h2.size, fun k hk hS =>
    (h2.block k (Nat.lt_of_lt_of_le hk h1.size) (fun h => hS (i2 k h hk))).trans (h1.block k hk (fun h => hS (i1 k h hk)))⟩
theorem Keep.then {S : List Nat} {a b c : World} (h1 : Keep S a b) (h2 : Keep S b c) : Keep S a c := h1.trans h2 (fun _ h _ => h) (fun _ h _ => h)
theorem Keep.mono {S S' : List Nat} {a b : World} (h : Keep S a b) (hs : ∀ x ∈ S, x < a.heap.size → x ∈ S') : Keep S' a b :=
  ⟨h.os, h.tape, h.output, h.size, fun k hk hS => h.block k hk (fun hh => hS (hs k hh hk))⟩
theorem Keep.drew {S : List Nat} {a b : World} (h : Keep S a b) : Keep S a b.drew := ⟨h.os, h.tape, h.output, h.size, h.block⟩
theorem Keep.drewN {S : List Nat} {a b : World} (h : Keep S a b) (n : Nat) : Keep S a (b.drewN n) := ⟨h.os, h.tape, h.output, h.size, h.block⟩
theorem Keep.alloc {S : List Nat} {a b : World} (h : Keep S a b) (o : Obj) : Keep S a (b.alloc o) :=
  ⟨h.os, h.tape, h.output, Nat.le_trans h.size (by simp), fun k hk hS => by rw [Below.heap_alloc _ _ _ (Nat.lt_of_lt_of_le hk h.size)]; exact h.block k hk hS⟩
theorem Keep.setCell {S : List Nat} {a b : World} (h : Keep S a b) {p : Addr} (hp : p.block < a.heap.size → p.block ∈ S) (v : Value) : Keep S a (b.setCell p v) :=
  ⟨h.os, h.tape, h.output, by simpa [World.setCell] using h.size, fun k hk hS => by
    rw [Below.heap_setCell _ _ _ _ (fun e => hS (by subst e; exact hp hk))]; exact h.block k hk hS⟩
theorem Keep.below {a b : World} (h : Keep [] a b) : Below a.heap.size a b := ⟨h.os, h.tape, h.output, h.size, fun k hk => h.block k hk (by simp)⟩
theorem Keep.of_below {a b : World} (h : Below a.heap.size a b) : Keep [] a b := ⟨h.os, h.tape, h.output, h.size, fun k hk _ => h.block k hk⟩
theorem Keep.of_grown {S : List Nat} {a b : World} {row : Option Nat} (h : a.grownBy b row) (hr : ∀ k, row = some k → k < a.heap.size → k ∈ S) : Keep S a b :=
  ⟨h.os, h.tape, h.output, h.size, fun k hk hS => h.block k hk (fun e => hS (hr k e.symm hk))⟩
theorem Keep.cell {S : List Nat} {a b : World} (h : Keep S a b) {p : Addr} (hp : p.block < a.heap.size) (hS : p.block ∉ S) : b.cell? p = a.cell? p := World.cell?_of_block (w := a) (h.block p.block hp hS)
theorem Keep.frozen {S : List Nat} {a b : World} (h : Keep S a b) {p : Addr} (hp : p.block < a.heap.size) (hS : p.block ∉ S) : b.frozen? p = a.frozen? p := World.frozen?_of_block (w := a) (h.block p.block hp hS)
theorem Blk.keep {S : List Nat} {w w' : World} {b : Nat} {cs : Array Value} {T : TypeId} (h : Blk w b cs T) (hk : Keep S w w') (hS : b ∉ S) : Blk w' b cs T := h.of_block (hk.block b h.lt hS)
namespace AL
variable {κ ν : Type} [DecidableEq κ]
def idx : List (κ × ν) → κ → Option (Nat × ν)
  | [], _ => none
  | (a, v) :: t, k => if k = a then some (0, v) else (idx t k).map fun p => (p.1 + 1, p.2)
def get : List (κ × ν) → κ → Option ν
  | [], _ => none
  | (a, v) :: t, k => if k = a then some v else get t k
def set : List (κ × ν) → κ → ν → List (κ × ν)
  | [], k, v => [(k, v)]
  | (a, x) :: t, k, v => if k = a then (a, v) :: t else (a, x) :: set t k v
def del : List (κ × ν) → κ → List (κ × ν)
  | [], _ => []
  | (a, x) :: t, k => if k = a then t else (a, x) :: del t k
def keys (l : List (κ × ν)) : List κ := l.map (·.1)
theorem get_idx (l : List (κ × ν)) (k : κ) : get l k = (idx l k).map (·.2) := by
  induction l with
  | nil => rfl
  | cons p t ih =>
    obtain ⟨a, v⟩ := p
    simp only [get, idx]
    split
    · rfl
    · rw [ih]; cases idx t k <;> rfl
theorem get_set (l : List (κ × ν)) (k k' : κ) (v : ν) : get (set l k v) k' = if k' = k then some v else get l k' := by
  induction l with
  | nil => simp [set, get]
  | cons p t ih =>
    obtain ⟨a, x⟩ := p
    simp only [set]
    by_cases h : k = a
    · subst h; simp only [if_true, get]; split <;> rfl
    · rw [if_neg h]; simp only [get, ih]
      by_cases h1 : k' = a
      · rw [if_pos h1, if_pos h1, if_neg (by rintro rfl; exact h h1)]
      · rw [if_neg h1, if_neg h1]
theorem mem_keys_set (l : List (κ × ν)) (k k' : κ) (v : ν) : k' ∈ keys (set l k v) ↔ k' = k ∨ k' ∈ keys l := by
  induction l with
  | nil => simp [set, keys]
  | cons p t ih =>
    obtain ⟨a, x⟩ := p
    simp only [set]
    by_cases h : k = a
    · subst h; simp [keys]
    · rw [if_neg h]; simp only [keys, List.map_cons, List.mem_cons] at *; rw [ih]; constructor
      · rintro (h | h | h) <;> simp [h]
      · rintro (h | h | h) <;> simp [h]
theorem nodup_set {l : List (κ × ν)} (h : (keys l).Nodup) (k : κ) (v : ν) : (keys (set l k v)).Nodup := by
  induction l with
  | nil => simp [set, keys]
  | cons p t ih =>
    obtain ⟨a, x⟩ := p
    simp only [set]
    by_cases hk : k = a
    · subst hk; simpa [keys] using h
    · rw [if_neg hk]; simp only [keys, List.map_cons, List.nodup_cons] at *
      refine ⟨fun hm => ?_, ih h.2⟩
      rcases (mem_keys_set t k a v).1 hm with e | e
      · exact hk e.symm
      · exact h.1 e
theorem get_none {l : List (κ × ν)} {k : κ} : get l k = none ↔ k ∉ keys l := by
  induction l with
  | nil => simp [get, keys]
  | cons p t ih =>
    obtain ⟨a, x⟩ := p
    simp only [get, keys, List.map_cons, List.mem_cons]
    by_cases h : k = a
    · simp [h]
    · rw [if_neg h, ih]; simp [keys, h]
theorem get_isSome {l : List (κ × ν)} {k : κ} : (get l k).isSome = true ↔ k ∈ keys l := by
  have := get_none (l := l) (k := k); cases h : get l k <;> simp_all
theorem keys_del {l : List (κ × ν)} (h : (keys l).Nodup) (k k' : κ) : k' ∈ keys (del l k) ↔ k' ≠ k ∧ k' ∈ keys l := by
  induction l with
  | nil => simp [del, keys]
  | cons p t ih =>
    obtain ⟨a, x⟩ := p
    simp only [keys, List.map_cons, List.nodup_cons] at h
    simp only [del]
    by_cases hk : k = a
    · subst hk; rw [if_pos rfl]; simp only [keys, List.map_cons, List.mem_cons]; constructor
      · intro hm; exact ⟨fun e => h.1 (e ▸ hm), Or.inr hm⟩
      · rintro ⟨h1, h2 | h2⟩
        · exact absurd h2 h1
        · exact h2
    · rw [if_neg hk]; have := ih h.2; simp only [keys, List.map_cons, List.mem_cons] at *; rw [this]; constructor
      · rintro (h | h)
        · exact ⟨fun e => hk (e.symm.trans h), Or.inl h⟩
        · exact ⟨h.1, Or.inr h.2⟩
      · rintro ⟨h1, h2 | h2⟩
        · exact Or.inl h2
        · exact Or.inr ⟨h1, h2⟩
theorem nodup_del {l : List (κ × ν)} (h : (keys l).Nodup) (k : κ) : (keys (del l k)).Nodup := by
  induction l with
  | nil => simp [del, keys]
  | cons p t ih =>
    obtain ⟨a, x⟩ := p
    have h' := h
    simp only [keys, List.map_cons, List.nodup_cons] at h
    simp only [del]
    by_cases hk : k = a
    · rw [if_pos hk]; exact h.2
    · rw [if_neg hk]; simp only [keys, List.map_cons, List.nodup_cons]
      exact ⟨fun hm => h.1 ((keys_del h.2 k a).1 hm).2, ih h.2⟩
theorem get_del {l : List (κ × ν)} (h : (keys l).Nodup) (k k' : κ) : get (del l k) k' = if k' = k then none else get l k' := by
  induction l with
  | nil => simp [del, get]
  | cons p t ih =>
    obtain ⟨a, x⟩ := p
    simp only [keys, List.map_cons, List.nodup_cons] at h
    simp only [del]
    by_cases hk : k = a
    · subst hk; rw [if_pos rfl]; simp only [get]
      by_cases h1 : k' = k
      · subst h1; rw [if_pos rfl]; exact get_none.2 h.1
      · rw [if_neg h1, if_neg h1]
    · rw [if_neg hk]; simp only [get, ih h.2]
      by_cases h1 : k' = a
      · rw [if_pos h1, if_pos h1, if_neg (by rintro rfl; exact hk h1)]
      · rw [if_neg h1, if_neg h1]
end AL
def emb {κ ν : Type} (kf : κ → Value) (vf : ν → Value) (l : List (κ × ν)) : List (Value × Value) := l.map fun p => (kf p.1, vf p.2)
def MapAt {κ ν : Type} (w : World) (b : Nat) (kf : κ → Value) (vf : ν → Value) (l : List (κ × ν)) : Prop :=
  ∃ es cl, w.heap[b]? = some (.map es cl) ∧ es.toList.map (fun e => (e.key, e.val)) = emb kf vf l ∧ (es.toList.map (·.born)).Nodup ∧ (∀ e ∈ es.toList, e.born < cl) ∧ (l.map (·.1)).Nodup
section
variable {κ ν : Type} {w w' : World} {b : Nat} {kf : κ → Value} {vf : ν → Value} {l : List (κ × ν)}
theorem MapAt.lt (h : MapAt w b kf vf l) : b < w.heap.size := by
  obtain ⟨es, cl, h, _⟩ := h; exact (Array.getElem?_eq_some_iff.1 h).1
theorem MapAt.nodup (h : MapAt w b kf vf l) : (l.map (·.1)).Nodup := by
  obtain ⟨_, _, _, _, _, _, h⟩ := h; exact h
theorem MapAt.of_block (h : MapAt w b kf vf l) (hb : w'.heap[b]? = w.heap[b]?) : MapAt w' b kf vf l := by
  obtain ⟨es, cl, h, r⟩ := h; exact ⟨es, cl, hb.trans h, r⟩
theorem MapAt.keep {S : List Nat} (h : MapAt w b kf vf l) (hk : Keep S w w') (hS : b ∉ S) : MapAt w' b kf vf l := h.of_block (hk.block b h.lt hS)
theorem MapAt.alloc (h : MapAt w b kf vf l) (o : Obj) : MapAt (w.alloc o) b kf vf l := h.of_block (Below.heap_alloc _ _ _ h.lt)
theorem MapAt.drew (h : MapAt w b kf vf l) : MapAt w.drew b kf vf l := h
theorem MapAt.drewN (h : MapAt w b kf vf l) (n : Nat) : MapAt (w.drewN n) b kf vf l := h
theorem MapAt.setCell (h : MapAt w b kf vf l) (a : Addr) (v : Value) : MapAt (w.setCell a v) b kf vf l := by
  obtain ⟨es, cl, h, r⟩ := h
  refine ⟨es, cl, ?_, r⟩
  simp only [World.setCell, Array.getElem?_modify, h]
  split <;> simp
theorem MapAt.new (w : World) (kf : κ → Value) (vf : ν → Value) : MapAt (w.alloc (.map #[] 0)) w.heap.size kf vf [] :=
  ⟨#[], 0, by show (w.heap.push _)[w.heap.size]? = _; simp, rfl, by simp, by simp, by simp⟩
theorem MapAt.ne_blk {cs : Array Value} {T : TypeId} {c : Nat} (h : MapAt w b kf vf l) (hb : Blk w c cs T) : c ≠ b := by
  rintro rfl; obtain ⟨es, cl, h, _⟩ := h; obtain ⟨lo, hi, hb, _⟩ := hb; rw [h] at hb; cases hb
end
structure KeyLaw {κ : Type} [DecidableEq κ] (P : Program) (K : TypeId) (kf : κ → Value) : Prop where
  desc : ∃ d, P.underlying K = some d ∧ ∀ a b, Instr.sameNow d (kf a) (kf b) = some (decide (a = b))
  bits : ∀ a, Instr.sameBits 10000 (kf a) (kf a) = true
  chk : ∀ e a w, (Instr.checkKey e 10000 K (kf a)).run P w = .ok () w
theorem KeyLaw.int {P : Program} {K : TypeId} {k : IntKind} (h : P.underlying K = some (.int k)) : KeyLaw P K (Value.int k) where
  desc := ⟨_, h, fun a b => by simp only [Instr.sameNow, if_true]; rfl⟩
  bits := fun a => by simp [Instr.sameBits]
  chk := fun e a w => by
    unfold Instr.checkKey
    simp [run_underlying h]
theorem beq_bytes (a b : ByteArray) : (a == b) = decide (a = b) := by
  rw [beq_toListBytes, ByteArray.toList_eq, ByteArray.toList_eq]
  obtain ⟨⟨x⟩⟩ := a
  obtain ⟨⟨y⟩⟩ := b
  by_cases h : x = y
  · simp [h]
  · simp [h]
theorem KeyLaw.str {P : Program} {K : TypeId} (h : P.underlying K = some .string) : KeyLaw P K Value.string where
  desc := ⟨_, h, fun a b => by simp only [Instr.sameNow]; rw [beq_bytes]⟩
  bits := fun a => by simp [Instr.sameBits, beq_bytes]
  chk := fun e a w => by
    unfold Instr.checkKey
    simp [run_underlying h]
section
variable {κ ν : Type} [DecidableEq κ] {P : Program} {w : World} {b : Nat} {kf : κ → Value} {vf : ν → Value} {l : List (κ × ν)} {K E T : TypeId}
theorem findNow_emb {d : TypeDesc} (hs : ∀ a b, Instr.sameNow d (kf a) (kf b) = some (decide (a = b))) (k : κ) (es : List MapEntry) : ∀ (l : List (κ × ν)) (i : Nat),
    es.map (fun e => (e.key, e.val)) = emb kf vf l → Instr.findNow d (kf k) es i = some ((AL.idx l k).map fun p => (i + p.1, vf p.2)) := by
  induction es with
  | nil => intro l i h; cases l with | nil => rfl | cons p t => simp [emb] at h
  | cons e es ih =>
    intro l i h
    cases l with
    | nil => simp [emb] at h
    | cons p t =>
      obtain ⟨a, v⟩ := p
      simp only [emb, List.map_cons, List.cons.injEq, Prod.mk.injEq] at h
      obtain ⟨⟨h1, h2⟩, h3⟩ := h
      simp only [Instr.findNow, h1, hs, AL.idx]
      by_cases hk : k = a
      · simp [hk, h2]
      · simp only [hk, decide_false, if_false]
        rw [ih t (i + 1) h3]
        cases AL.idx t k <;> simp <;> omega
theorem run_findKey_emb (KL : KeyLaw P K kf) (k : κ) (es : List MapEntry) (h : es.map (fun e => (e.key, e.val)) = emb kf vf l) :
    (Instr.findKey K (kf k) es).run P w = .ok ((AL.idx l k).map fun p => (p.1, vf p.2)) w := by
  obtain ⟨d, hd, hs⟩ := KL.desc
  simp [Instr.findKey, run_underlying hd, findNow_emb hs k es l 0 h]
def optV (vf : ν → Value) (z : Value) : Option ν → Value
  | some x => vf x
  | none => z
theorem optV_int (k : IntKind) (o : Option Int) : optV (Value.int k) (.int k 0) o = .int k (o.getD 0) := by cases o <;> rfl
theorem run_lookup_map (KL : KeyLaw P K kf) (ht : P.underlying T = some (.map K E)) (hM : MapAt w b kf vf l) {z : Value} (hz : (zeroValue E).run P w = .ok z w) (k : κ) (ok : Bool) :
    (Instr.lookup T (.map (some b)) (kf k) ok).run P w = .ok (if ok then .tuple #[optV vf z (AL.get l k), .bool (AL.get l k).isSome] else optV vf z (AL.get l k)) w := by
  obtain ⟨es, cl, hb, he, _⟩ := hM
  simp only [Instr.lookup, Sem.run_bind, run_underlying ht, Result.andThen, MapKept.run_getObj_map hb, KL.chk, run_findKey_emb KL k _ he, AL.get_idx, Sem.run_pure]
  cases AL.idx l k with
  | none => simp [hz, optV]
  | some p => simp [optV]
theorem set_of_idx {k : κ} {i : Nat} {x : ν} (v : ν) (h : AL.idx l k = some (i, x)) : i < l.length ∧ AL.set l k v = l.set i (k, v) ∧ (l[i]?).map (·.1) = some k := by
  induction l generalizing i with
  | nil => simp [AL.idx] at h
  | cons p t ih =>
    obtain ⟨a, y⟩ := p
    simp only [AL.idx] at h
    by_cases hk : k = a
    · subst hk; simp only [if_true, Option.some.injEq, Prod.mk.injEq] at h; obtain ⟨rfl, rfl⟩ := h; simp [AL.set]
    · rw [if_neg hk] at h
      cases hi : AL.idx t k with
      | none => simp [hi] at h
      | some q =>
        obtain ⟨j, y'⟩ := q
        rw [hi] at h
        simp only [Option.map_some, Option.some.injEq, Prod.mk.injEq] at h
        obtain ⟨rfl, rfl⟩ := h
        obtain ⟨h1, h2, h3⟩ := ih hi
        refine ⟨by simpa using h1, by simp [AL.set, hk, h2], by simpa using h3⟩
theorem del_of_idx {k : κ} {i : Nat} {x : ν} (h : AL.idx l k = some (i, x)) : i < l.length ∧ AL.del l k = l.eraseIdx i := by
  induction l generalizing i with
  | nil => simp [AL.idx] at h
  | cons p t ih =>
    obtain ⟨a, y⟩ := p
    simp only [AL.idx] at h
    by_cases hk : k = a
    · subst hk; simp only [if_true, Option.some.injEq, Prod.mk.injEq] at h; obtain ⟨rfl, rfl⟩ := h; simp [AL.del]
    · rw [if_neg hk] at h
      cases hi : AL.idx t k with
      | none => simp [hi] at h
      | some q =>
        obtain ⟨j, y'⟩ := q
        rw [hi] at h
        simp only [Option.map_some, Option.some.injEq, Prod.mk.injEq] at h
        obtain ⟨rfl, rfl⟩ := h
        obtain ⟨h1, h2⟩ := ih hi
        exact ⟨by simpa using h1, by simp [AL.del, hk, h2]⟩
theorem set_of_none {k : κ} (v : ν) (h : AL.idx l k = none) : AL.set l k v = l ++ [(k, v)] := by
  induction l with
  | nil => rfl
  | cons p t ih =>
    obtain ⟨a, y⟩ := p
    simp only [AL.idx] at h
    by_cases hk : k = a
    · simp [hk] at h
    · rw [if_neg hk] at h; simp only [AL.set, if_neg hk, List.cons_append]; rw [ih (by simpa using h)]
theorem del_of_none {k : κ} (h : AL.idx l k = none) : AL.del l k = l := by
  induction l with
  | nil => rfl
  | cons p t ih =>
    obtain ⟨a, y⟩ := p
    simp only [AL.idx] at h
    by_cases hk : k = a
    · simp [hk] at h
    · rw [if_neg hk] at h; simp only [AL.del, if_neg hk]; rw [ih (by simpa using h)]
theorem map_modify_of {α β : Type} {f : α → β} {g : α → α} {h : β → β} (e : ∀ x, f (g x) = h (f x)) (l : List α) (i : Nat) : (l.modify i g).map f = (l.map f).modify i h := by
  induction l generalizing i with
  | nil => simp
  | cons a t ih => cases i with
    | zero => simp [e]
    | succ i => simp [ih]
theorem map_eraseIdx {α β : Type} (f : α → β) (l : List α) (i : Nat) : (l.eraseIdx i).map f = (l.map f).eraseIdx i := by
  induction l generalizing i with
  | nil => simp
  | cons a t ih => cases i with
    | zero => simp
    | succ i => simp [ih]
theorem modify_id_of {β : Type} (l : List β) (i : Nat) : l.modify i (fun x => x) = l := by
  induction l generalizing i with
  | nil => simp
  | cons a t ih => cases i with
    | zero => simp
    | succ i => simp [ih]
theorem modify_const {β : Type} (l : List β) (i : Nat) (c : β) : l.modify i (fun _ => c) = l.set i c := by
  induction l generalizing i with
  | nil => simp
  | cons a t ih => cases i with
    | zero => simp
    | succ i => simp [ih]
theorem mem_modify_of {α : Type} {p : α → Prop} {g : α → α} (l : List α) (i : Nat) (hg : ∀ x, p x → p (g x)) (h : ∀ x ∈ l, p x) : ∀ x ∈ l.modify i g, p x := by
  induction l generalizing i with
  | nil => simp
  | cons a t ih => cases i with
    | zero =>
      intro x hx
      simp only [List.modify_zero_cons, List.mem_cons] at hx
      rcases hx with rfl | hx
      · exact hg _ (h a (by simp))
      · exact h x (by simp [hx])
    | succ i =>
      intro x hx
      simp only [List.modify_succ_cons, List.mem_cons] at hx
      rcases hx with rfl | hx
      · exact h _ (by simp)
      · exact ih i (fun y hy => h y (by simp [hy])) x hx
theorem keep_setObj (w : World) (b : Nat) (o : Obj) : Keep [b] w { w with heap := w.heap.setIfInBounds b o } :=
  ⟨rfl, rfl, rfl, by simp, fun k _ hS => by simp at hS; simp only [Array.getElem?_setIfInBounds]; rw [if_neg (by omega)]⟩
theorem run_mapUpdate_map (KL : KeyLaw P K kf) (ht : P.underlying T = some (.map K E)) (hM : MapAt w b kf vf l) (k : κ) (v : ν) :
    ∃ w', (Instr.mapUpdate T (.map (some b)) (kf k) (vf v)).run P w = .ok () w' ∧ MapAt w' b kf vf (AL.set l k v) ∧ Keep [b] w w' ∧ w'.heap.size = w.heap.size := by
  have hnd := AL.nodup_set (show (AL.keys l).Nodup from hM.nodup) k v
  obtain ⟨es, cl, hb, he, hn, hc, _⟩ := hM
  have hlt := (Array.getElem?_eq_some_iff.1 hb).1
  cases hi : AL.idx l k with
  | none =>
    refine ⟨_, by simp only [Instr.mapUpdate, Sem.run_bind, run_underlying ht, Result.andThen, MapKept.run_getObj_map hb, KL.chk, run_findKey_emb KL k _ he, hi, Option.map_none, MapKept.run_setObj_map _ hb]; rfl, ⟨_, _, by simp [hlt]; exact ⟨rfl, rfl⟩, ?_, ?_, ?_, hnd⟩, keep_setObj _ _ _, by simp⟩
    · rw [set_of_none v hi]; simp [he, emb]
    · simp only [Array.toList_push, List.map_append, List.map_cons, List.map_nil, List.nodup_append, hn, true_and]
      refine ⟨by simp, ?_⟩
      intro a ha c hc' e
      simp only [List.mem_singleton] at hc'
      obtain ⟨x, hx, rfl⟩ := List.mem_map.1 ha
      have := hc x hx
      omega
    · intro e he'
      simp only [Array.toList_push, List.mem_append, List.mem_singleton] at he'
      rcases he' with h | rfl
      · have := hc e h; omega
      · simp
  | some p =>
    obtain ⟨i, x⟩ := p
    obtain ⟨h1, h2, h3⟩ := set_of_idx v hi
    have hlen : es.toList.length = l.length := by simpa [emb] using congrArg List.length he
    have hkey : ((es[i]?).map (·.key)) = some (kf k) := by
      have := congrArg (fun q => (q[i]?).map Prod.fst) he
      simp only [emb, List.getElem?_map, Option.map_map] at this
      have e1 : Option.map (Prod.fst ∘ fun e => (e.key, e.val)) es.toList[i]? = Option.map (fun e : MapEntry => e.key) es[i]? := by simp; rfl
      have e2 : Option.map (Prod.fst ∘ fun p : κ × ν => (kf p.1, vf p.2)) l[i]? = ((l[i]?).map (·.1)).map kf := by simp; rfl
      rw [e1, e2, h3] at this
      exact this
    refine ⟨_, by simp only [Instr.mapUpdate, Sem.run_bind, run_underlying ht, Result.andThen, MapKept.run_getObj_map hb, KL.chk, run_findKey_emb KL k _ he, hi, Option.map_some, hkey, Option.getD_some, Instr.keyThatStays, KL.bits, if_true, Sem.run_pure, MapKept.run_setObj_map _ hb]; rfl, ⟨_, _, by simp [hlt]; exact ⟨rfl, rfl⟩, ?_, ?_, ?_, hnd⟩, keep_setObj _ _ _, by simp⟩
    · rw [h2, Array.toList_modify, map_modify_of (f := fun e : MapEntry => (e.key, e.val)) (h := fun _ => (kf k, vf v)) (fun _ => rfl), he, modify_const]
      simp [emb]
    · rw [Array.toList_modify, map_modify_of (f := fun e : MapEntry => e.born) (g := fun e => { key := kf k, val := vf v, born := e.born }) (h := fun x => x) (fun _ => rfl), modify_id_of]; exact hn
    · rw [Array.toList_modify]; exact mem_modify_of _ _ (fun _ h => h) hc
theorem run_delete_map (KL : KeyLaw P K kf) (ht : P.underlying T = some (.map K E)) (hM : MapAt w b kf vf l) (k : κ) (ty : TypeId) :
    ∃ w', (Builtin.delete_ #[T, K] ty #[.map (some b), kf k]).run P w = .ok (.tuple #[]) w' ∧ MapAt w' b kf vf (AL.del l k) ∧ Keep [b] w w' ∧ w'.heap.size = w.heap.size := by
  have hnd := AL.nodup_del (show (AL.keys l).Nodup from hM.nodup) k
  obtain ⟨es, cl, hb, he, hn, hc, _⟩ := hM
  have hlt := (Array.getElem?_eq_some_iff.1 hb).1
  cases hi : AL.idx l k with
  | none =>
    refine ⟨{ w with heap := w.heap.setIfInBounds b (.map es cl) }, by simp only [Builtin.delete_]; simp [run_underlying ht, Result.andThen, MapKept.run_getObj_map hb, KL.chk, run_findKey_emb KL k _ he, hi, MapKept.run_setObj_map _ hb], ⟨es, cl, by simp [hlt], ?_, hn, hc, hnd⟩, keep_setObj _ _ _, by simp⟩
    rw [del_of_none hi]; exact he
  | some p =>
    obtain ⟨i, x⟩ := p
    obtain ⟨h1, h2⟩ := del_of_idx hi
    have hlen : es.toList.length = l.length := by simpa [emb] using congrArg List.length he
    have hsz : i < es.size := by rw [← Array.length_toList, hlen]; exact h1
    have hel : (es.eraseIdxIfInBounds i).toList = es.toList.eraseIdx i := by simp [Array.eraseIdxIfInBounds, hsz]
    refine ⟨_, by simp only [Builtin.delete_]; simp [run_underlying ht, Result.andThen, MapKept.run_getObj_map hb, KL.chk, run_findKey_emb KL k _ he, hi, MapKept.run_setObj_map _ hb]; rfl, ⟨_, _, by simp [hlt]; exact ⟨rfl, rfl⟩, ?_, ?_, ?_, hnd⟩, keep_setObj _ _ _, by simp⟩
    · rw [hel, h2, map_eraseIdx, he]; simp [emb, map_eraseIdx]
    · rw [hel, map_eraseIdx]; exact hn.sublist (List.eraseIdx_sublist _ _)
    · rw [hel]; exact fun e h => hc e (List.mem_of_mem_eraseIdx h)
omit [DecidableEq κ] in
theorem run_clear_map (ht : P.underlying T = some (.map K E)) (hM : MapAt w b kf vf l) (ty : TypeId) :
    ∃ w', (Builtin.clear_ #[T] ty #[.map (some b)]).run P w = .ok (.tuple #[]) w' ∧ MapAt w' b kf vf ([] : List (κ × ν)) ∧ Keep [b] w w' ∧ w'.heap.size = w.heap.size := by
  obtain ⟨es, cl, hb, he, hn, hc, _⟩ := hM
  have hlt := (Array.getElem?_eq_some_iff.1 hb).1
  exact ⟨_, by simp only [Builtin.clear_]; simp [run_underlying ht, Result.andThen, MapKept.run_getObj_map hb, MapKept.run_setObj_map _ hb]; rfl, ⟨_, _, by simp [hlt]; exact ⟨rfl, rfl⟩, rfl, by simp, by simp, by simp⟩, keep_setObj _ _ _, by simp⟩
variable {ops : Array Oper} {rest : List Oper} {o : Oper} {a : Act} {Q : Exit → Act → World → Prop}
theorem wpList_mapUpdate_map (hg : o.guard = none) (m x v : Operand) (t : TypeId) (hop : o.op = Op.mapUpdate t m x v) (K E : TypeId) (KL : KeyLaw P K kf) (ht : P.underlying t = some (.map K E))
    (b : Nat) (l : List (κ × ν)) (hm : a.eval m = .map (some b)) (hM : MapAt w b kf vf l) (k : κ) (y : ν) (hx : a.eval x = kf k) (hv : a.eval v = vf y)
    (hK : ∀ w', MapAt w' b kf vf (AL.set l k y) → Keep [b] w w' → w'.heap.size = w.heap.size → wpList P ops Q rest (a.put o.dst undef) w') : wpList P ops Q (o :: rest) a w := by
  refine wpList_plain hg fun K' hK' => ?_
  obtain ⟨w', hrun, r1, r2, r3⟩ := run_mapUpdate_map KL ht hM k y
  unfold Oper.wp
  simp [execOp, hop, hm, hx, hv, hrun, Result.andThen]
  exact hK' _ _ (hK w' r1 r2 r3)
omit [DecidableEq κ] in
theorem wpList_clear_map (hg : o.guard = none) (m : Operand) (t : TypeId) (hop : o.op = Op.call { callee := Callee.builtin Builtin.clear, args := #[m], argTypes := #[t] }) (K E : TypeId) (ht : P.underlying t = some (.map K E))
    (b : Nat) (l : List (κ × ν)) (hm : a.eval m = .map (some b)) (hM : MapAt w b kf vf l)
    (hK : ∀ w', MapAt w' b kf vf ([] : List (κ × ν)) → Keep [b] w w' → w'.heap.size = w.heap.size → wpList P ops Q rest (a.put o.dst (.tuple #[])) w') : wpList P ops Q (o :: rest) a w := by
  refine wpList_plain hg fun K' hK' => ?_
  obtain ⟨w', hrun, r1, r2, r3⟩ := run_clear_map ht hM o.type
  unfold Oper.wp
  simp [execOp, hop, resolve, invoke, builtin, hm, hrun, Result.andThen]
  exact hK' _ _ (hK w' r1 r2 r3)
end
end Go.Proofs.YtjhhnidfmoejdaaDoor
