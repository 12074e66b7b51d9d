import Derived.Test.YtbgondiibnjcgaaDoorRng
namespace Go.Proofs.YtbgondiibnjcgaaDoor
open Go.RowKit
set_option maxRecDepth 10000
set_option linter.unusedVariables false
set_option maxHeartbeats 1000000
section
variable {κ ν : Type} {P : Program} {ops : Array Oper} {rest : List Oper} {o : Oper} {a : Act} {Q : Exit → Act → World → Prop} {kf : κ → Value} {vf : ν → Value}
theorem wpList_range_map (w : World) (hg : o.guard = none) (m : Operand) (t : TypeId) (hop : o.op = Op.range t m) (K E : TypeId) (ht : P.underlying t = some (.map K E)) (b : Nat) (l : List (κ × ν))
    (hm : a.eval m = .map (some b)) (hM : MapAt w b kf vf l)
    (hK : ∀ w', RangeAt w' b w.heap.size kf vf l [] → w.grownBy w' none → w'.heap.size = w.heap.size + 1 → wpList P ops Q rest (a.put o.dst (.pointer (some ⟨w.heap.size, 0, none⟩))) w') :
    wpList P ops Q (o :: rest) a w := by
  refine wpList_plain hg fun K' hK' => ?_
  obtain ⟨w', hrun, r1, r2, r3⟩ := hM.range ht
  unfold Oper.wp
  simp [execOp, hop, hm, hrun, Result.andThen]
  exact hK' _ _ (hK w' r1 r2 r3)
theorem wpList_next_map (w : World) (hg : o.guard = none) (it : Operand) (hop : o.op = Op.next it false) (b r : Nat) (l : List (κ × ν)) (ss : List κ) (hinj : ∀ x y, kf x = kf y → x = y) (hnd : (l.map (·.1)).Nodup)
    (hit : a.eval it = .pointer (some ⟨r, 0, none⟩)) (h : RangeAt w b r kf vf l ss)
    (hDone : (∀ k ∈ l.map (·.1), k ∈ ss) → wpList P ops Q rest (a.put o.dst (.tuple #[.bool false])) w)
    (hMore : ∀ (x : κ) (v : ν) (w' : World), (x, v) ∈ l → ss.length < l.length → RangeAt w' b r kf vf l (ss ++ [x]) → w'.rangeLeft b r < w.rangeLeft b r → w.grownBy w' (some r) → w'.heap.size = w.heap.size →
      (Instr.entry (.pointer (some ⟨r, 0, none⟩))).run P w' = .ok (.tuple #[kf x, vf v]) w' → wpList P ops Q rest (a.put o.dst (.tuple #[.bool true, kf x, vf v])) w') :
    wpList P ops Q (o :: rest) a w := by
  refine wpList_plain hg fun K' hK' => ?_
  unfold Oper.wp
  rcases h.next (P := P) hinj hnd o.type with ⟨hall, hrun⟩ | ⟨x, v, w', hxv, hll, hrun, h1, h2, h3, h4, h5⟩
  · simp [execOp, hop, hit, hrun, Result.andThen]
    exact hK' _ _ (hDone hall)
  · simp [execOp, hop, hit, hrun, Result.andThen]
    exact hK' _ _ (hMore x v w' hxv hll h1 h2 h3 h4 h5)
end
theorem strInj : ∀ x y : ByteArray, Value.string x = Value.string y → x = y := fun x y h => by injection h
end Go.Proofs.YtbgondiibnjcgaaDoor
