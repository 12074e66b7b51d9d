import Derived.Test.YtjhhnidfmoejdaaDoorT25
import Derived.Test.YtjhhnidfmoejdaaDoorBox
namespace Go.Proofs.YtjhhnidfmoejdaaDoor
open Go.RowKit Go.Lib Go.Proofs.YtjhhnidfmoejdaaDoor.PLedgerPlays Go.Proofs.YtjhhnidfmoejdaaDoorW.PrintWords Go.Proofs.YtjhhnidfmoejdaaDoorW.PrintLast
set_option maxRecDepth 10000
set_option linter.unusedVariables false
set_option maxHeartbeats 2000000
namespace R25
theorem _root_.Go.Proofs.YtjhhnidfmoejdaaDoor.Blk.cells5 {w : World} {B T : Nat} {a0 a1 a2 a3 a4 : Value} (h : Blk w B #[a0, a1, a2, a3, a4] T) : w.cell? ⟨B, 0, none⟩ = some a0 ∧ w.cell? ⟨B, 1, none⟩ = some a1 ∧ w.cell? ⟨B, 2, none⟩ = some a2 ∧ w.cell? ⟨B, 3, none⟩ = some a3 ∧ w.cell? ⟨B, 4, none⟩ = some a4 :=
  ⟨h.cell 0, h.cell 1, h.cell 2, h.cell 3, h.cell 4⟩
theorem _root_.Go.Proofs.YtjhhnidfmoejdaaDoor.Blk.froz5 {w : World} {B T : Nat} {a0 a1 a2 a3 a4 : Value} (h : Blk w B #[a0, a1, a2, a3, a4] T) : w.frozen? ⟨B, 0, none⟩ = false ∧ w.frozen? ⟨B, 1, none⟩ = false ∧ w.frozen? ⟨B, 2, none⟩ = false ∧ w.frozen? ⟨B, 3, none⟩ = false ∧ w.frozen? ⟨B, 4, none⟩ = false :=
  ⟨h.frozen 0 (by simp), h.frozen 1 (by simp), h.frozen 2 (by simp), h.frozen 3 (by simp), h.frozen 4 (by simp)⟩
def set5 (w : World) (B : Nat) (a0 a1 a2 a3 a4 : Value) : World := (((((w.setCell ⟨B, 0, none⟩ a0).setCell ⟨B, 1, none⟩ a1).setCell ⟨B, 2, none⟩ a2).setCell ⟨B, 3, none⟩ a3).setCell ⟨B, 4, none⟩ a4)
theorem set5_blk {w : World} {B T : Nat} {a0 a1 a2 a3 a4 : Value} (h : Blk w B #[a0, a1, a2, a3, a4] T) (b0 b1 b2 b3 b4 : Value) : Blk (set5 w B b0 b1 b2 b3 b4) B #[b0, b1, b2, b3, b4] T ∧ Keep [B] w (set5 w B b0 b1 b2 b3 b4) :=
  ⟨by unfold set5; have := (((((h.set 0 b0).set 1 b1).set 2 b2).set 3 b3).set 4 b4); simpa using this, by unfold set5; exact ((((((Keep.refl [B] w).setCell (fun _ => by simp) b0).setCell (fun _ => by simp) b1).setCell (fun _ => by simp) b2).setCell (fun _ => by simp) b3).setCell (fun _ => by simp) b4)⟩
abbrev SbT : Nat := 46
structure Bx (w0 w w' : World) (v : Vs) (x : Rx) : Prop where
  s : Blk w' w.heap.size #[v.a, v.b, v.c, .int .i64 x.n, v.d] SbT
  r : Blk w' (w.heap.size + 1) #[.slice none 0 0, .slice none 0 0, .slice none 0 0, .int .i64 0, .slice none 0 0] SbT
  k : Keep [] w w'
  h : Rmem w0.heap.size w' v x
section
variable {w0 w w' w'' : World} {v : Vs} {x : Rx}
theorem Bx.keep (h : Bx w0 w w' v x) (hk : Keep [] w' w'') : Bx w0 w w'' v x := ⟨h.s.keep hk (by simp), h.r.keep hk (by simp), h.k.then hk, h.h.keep hk⟩
theorem Bx.lay (h : Rmem w0.heap.size w v x) : Bx w0 w ((w.alloc (.cells #[v.a, v.b, v.c, .int .i64 x.n, v.d] SbT)).alloc (.cells #[.slice none 0 0, .slice none 0 0, .slice none 0 0, .int .i64 0, .slice none 0 0] SbT)) v x :=
  ⟨(Blk.new w _ _).alloc _, Blk.new' _ _ (by simp), ((Keep.refl [] w).alloc _).alloc _, h.keep (((Keep.refl [] w).alloc _).alloc _)⟩
theorem bx_end {wm : World} {v' : Vs} {x' : Rx} (hr : Blk wm (w.heap.size + 1) #[.slice none 0 0, .slice none 0 0, .slice none 0 0, .int .i64 0, .slice none 0 0] SbT) (hm : Rmem w0.heap.size wm v' x') (hn : ∀ k, v'.in_ k → v.in_ k ∨ w.heap.size ≤ k) (hk : Kept w wm v.in_) (hBl : Below w0.heap.size w0 wm) (hsz : w0.heap.size ≤ w.heap.size) :
    Blk (set5 wm (w.heap.size + 1) v'.a v'.b v'.c (.int .i64 x'.n) v'.d) (w.heap.size + 1) #[v'.a, v'.b, v'.c, .int .i64 x'.n, v'.d] SbT ∧ Rmem w0.heap.size (set5 wm (w.heap.size + 1) v'.a v'.b v'.c (.int .i64 x'.n) v'.d) v' x' ∧ Kept w (set5 wm (w.heap.size + 1) v'.a v'.b v'.c (.int .i64 x'.n) v'.d) v.in_ ∧ Below w0.heap.size w0 (set5 wm (w.heap.size + 1) v'.a v'.b v'.c (.int .i64 x'.n) v'.d) := by
  obtain ⟨h1, h2⟩ := set5_blk hr v'.a v'.b v'.c (.int .i64 x'.n) v'.d
  refine ⟨h1, hm.off fun k hi => h2.block k (hm.lt hi).2 ?_, ⟨Nat.le_trans hk.1 h2.size, fun i hi hS => (h2.block i (Nat.lt_of_lt_of_le hi hk.1) (by simp; omega)).trans (hk.2 i hi hS)⟩, Keep.below_of hBl h2 (by simp; omega)⟩
  simp only [List.mem_singleton]
  rintro rfl
  have hty : ∀ {α : Type} {d : Kd α} {e : Nat} {u : Value} {xs : List α}, Own d e w0.heap.size wm u xs → u.ownBlock = some (w.heap.size + 1) → e = SbT := fun {α d e u xs} ho hu => by
    obtain ⟨_, _, ho, _⟩ := ho
    obtain ⟨c, hc⟩ := own_typed ho _ hu
    obtain ⟨lo, hi, h3, _⟩ := hr
    rw [hc] at h3
    cases h3; rfl
  rcases hi with hi | hi | hi | hi
  · exact absurd (hty hm.o hi) (by decide)
  · exact absurd (hty hm.d hi) (by decide)
  · exact absurd (hty hm.t hi) (by decide)
  · exact absurd (hty hm.e hi) (by decide)
end
end R25
end Go.Proofs.YtjhhnidfmoejdaaDoor
