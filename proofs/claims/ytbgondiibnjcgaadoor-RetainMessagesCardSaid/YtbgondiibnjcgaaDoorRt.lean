import Derived.Test.YtbgondiibnjcgaaDoorPpR
import Derived.Carry
import Derived.Shelf.Lay
import Derived.Deep.RegionHeld3
import Derived.Deep.DeepFit
import Derived.Outline
namespace Go.Proofs.YtbgondiibnjcgaaDoor
open Go.RowKit Go.Shelf Go.Proofs.YtbgondiibnjcgaaDoor.PRetainPlays Go.Proofs.YtbgondiibnjcgaaDoorW.PrintWords Go.Proofs.YtbgondiibnjcgaaDoorW.PrintLast
set_option maxRecDepth 100000
set_option linter.unusedVariables false
set_option maxHeartbeats 1000000
attribute [local go_sem] Go.Proofs.YtbgondiibnjcgaaDoorW.PrintMore.max2_int
structure Rm where
  fr : ByteArray
  at_ : Int
  q : Int
  rt : Bool
  ps : List SP
  pv : Value
  tp : ByteArray
  pl : ByteArray
def rmV (m : Rm) : Value := .agg #[.string m.fr, .int .i64 m.at_, .int .u8 m.q, .bool m.rt, m.pv, .string m.tp, .string m.pl]
def Rm.zero : Rm := ⟨⟨#[]⟩, 0, 0, false, [], .slice none 0 0, ⟨#[]⟩, ⟨#[]⟩⟩
theorem zeroRm (w : World) : (zeroValue 25).run Tryd.prog w = .ok (rmV Rm.zero) w := by kernel_rfl
structure Rs (W w : World) (n b : Nat) (most : Int) (hs : List (ByteArray × Rm)) : Prop where
  box : Blk w n #[.map (some b), .int .i64 most] 83
  map : MapAt w b Value.string rmV hs
  bn : W.heap.size ≤ n
  bb : W.heap.size ≤ b
  own : ∀ p ∈ hs, Own kPr PrT W.heap.size w p.2.pv p.2.ps
  plen : ∀ p ∈ hs, p.2.ps.length ≤ 100
theorem Rs.keep {W w w' : World} {n b : Nat} {most : Int} {hs : List (ByteArray × Rm)} (h : Rs W w n b most hs) (hk : Keep [] w w') : Rs W w' n b most hs :=
  ⟨h.box.keep hk (by simp), h.map.keep hk (by simp), h.bn, h.bb, fun p hp => (h.own p hp).keep hk (by simp), h.plen⟩
theorem Rs.offb {W w w' : World} {n b : Nat} {most : Int} {hs hs' : List (ByteArray × Rm)} (h : Rs W w n b most hs) (hk : Keep [b] w w') (hm : MapAt w' b Value.string rmV hs')
    (own : ∀ p ∈ hs', Own kPr PrT W.heap.size w p.2.pv p.2.ps) (pl : ∀ p ∈ hs', p.2.ps.length ≤ 100) : Rs W w' n b most hs' :=
  ⟨h.box.keep hk (by simpa using h.map.ne_blk h.box), hm, h.bn, h.bb, fun p hp => (own p hp).keep hk (by simp; exact not_of_map h.map _), pl⟩
theorem rNew {W w : World} (hW : W.heap.size ≤ w.heap.size) (most : Int) : Calls Tryd.prog 14 #[.int .i64 most] w (Px fun (x : Nat × Nat) e w' => e = .returned (.pointer (some ⟨x.1, 0, none⟩)) ∧ Rs W w' x.1 x.2 (max most 0) [] ∧ Keep [] w w') := by
  have hmm := @run_makeMap Tryd.prog
  have hz : (w.alloc (Obj.map #[] 0)).heap.size = w.heap.size + 1 := by simp
  have key : ∀ m : Int, max most 0 = m → (fun (x : Nat × Nat) (w' : World) => Rs W w' x.1 x.2 (max most 0) [] ∧ Keep [] w w') (w.heap.size + 1, w.heap.size) ((w.alloc (Obj.map #[] 0)).alloc (.cells #[.map (some w.heap.size), .int .i64 m] 83)) := by
    rintro m rfl
    have hM := (MapAt.new w Value.string rmV)
    have hk1 := (Keep.refl [] (w.alloc (Obj.map #[] 0))).alloc (.cells #[.map (some w.heap.size), .int .i64 (max most 0)] 83)
    exact ⟨⟨by simp only; rw [← hz]; exact Blk.new _ _ _, hM.keep hk1 (by simp), by simp only; omega, by simp only; omega, by simp, by simp⟩, ((Keep.refl [] w).alloc _).then hk1⟩
  have KEY := hide key
  clear key
  go_enter Tryd.func14, Tryd.ntmps14
  go_wp2_with fail
  all_goals
    go_ret
    exact ⟨(w.heap.size + 1, w.heap.size), by simp, KEY.out _ (by omega)⟩
theorem rLen {W w : World} {n b : Nat} {most : Int} {hs : List (ByteArray × Rm)} (h : Rs W w n b most hs) :
    Calls Tryd.prog 17 #[.pointer (some ⟨n, 0, none⟩)] w fun e w' => e = .returned (.int .i64 hs.length) ∧ w = w' := by
  have c0 : w.cell? ⟨n, 0, none⟩ = some (.map (some b)) := h.box.cell 0
  have hlen := fun ty => run_len_map (w := w) Tryd.underlying81 h.map ty
  generalize (hs.length : Int) = q at hlen ⊢
  go_enter Tryd.func17, Tryd.ntmps17
  go_wp2
  go_ret
  exact ⟨rfl, rfl⟩
theorem lawStr : KeyLaw Tryd.prog 9 Value.string := KeyLaw.str Tryd.underlying9
theorem lookR {W w : World} {n b : Nat} {most : Int} {hs : List (ByteArray × Rm)} (h : Rs W w n b most hs) (k : ByteArray) (ok : Bool) :
    (Instr.lookup 81 (.map (some b)) (.string k) ok).run Tryd.prog w = .ok (if ok then .tuple #[rmV ((AL.get hs k).getD Rm.zero), .bool (AL.get hs k).isSome] else rmV ((AL.get hs k).getD Rm.zero)) w := by
  have := run_lookup_map lawStr Tryd.underlying81 h.map (zeroRm _) k ok
  rw [this]
  cases AL.get hs k <;> rfl
end Go.Proofs.YtbgondiibnjcgaaDoor
