import Derived.Test.YtjhhnidfmoejdaaDoorWr
namespace Go.Proofs.YtjhhnidfmoejdaaDoor.PLedgerPlays
open Go.RowKit Go.Proofs.YtjhhnidfmoejdaaDoor Go.Proofs.YtjhhnidfmoejdaaDoorW.PrintWords Go.Proofs.YtjhhnidfmoejdaaDoorW.PrintLast Go.Proofs.YtjhhnidfmoejdaaDoorW.PrintMore
set_option linter.unusedVariables false
set_option linter.unusedSimpArgs false
def switchboardref25_wrong.f (k : Nat) (l0_0 : List (S87)) (l0_1 : List (S87)) (l0_2 : List Int) (a0_3 : Int) (l0_4 : List ByteArray) (a1 : ByteArray) (a2 : Int) : Option ((List (S87)) × (List (S87)) × List Int × Int × List ByteArray) := (some (([] : List ByteArray) : List ByteArray)).bind fun y250 => (if y250.length + l0_4.length < 8796093022208 then ((some (y250 ++ l0_4 : List ByteArray)).bind fun y253 => (if a1.size + 1 ≤ 9223372036854775807 then ((switchboardref25_digits.f k a2).bind fun t256 => (if (a1 ++ (⟨#[32]⟩ : ByteArray)).size + t256.size ≤ 9223372036854775807 then (if y253.length < 8796093022208 then (some (l0_0, l0_1, l0_2, a0_3, (y253 ++ [(a1 ++ (⟨#[32]⟩ : ByteArray)) ++ t256]))) else (none)) else (none))) else (none))) else (none))
theorem switchboardref25_wrong.mono : ∀ a0 a1 a2 a3 a4 a5 a6 k, LeO (switchboardref25_wrong.f k a0 a1 a2 a3 a4 a5 a6) (switchboardref25_wrong.f (k + 1) a0 a1 a2 a3 a4 a5 a6) := by
  intro a0 a1 a2 a3 a4 a5 a6 k
  unfold switchboardref25_wrong.f
  repeat' first
      | (with_reducible exact switchboardref25_digits.mono _ _)
      | (with_reducible exact LeO.refl _)
      | (with_reducible exact LeO.none _)
      | (with_reducible refine LeO.ite ?_ ?_)
      | (with_reducible refine LeO.bind ?_ (fun _ => ?_))
      | exact switchboardref25_digits.mono _ _
      | exact LeO.none _
      | refine LeO.ite ?_ ?_
      | refine LeO.bind ?_ (fun _ => ?_)
theorem switchboardref25_wrong.calls (k : Nat) (P0_0_ : Nat → Prop) (u9000_ : Value) (l0_0 : List (S87)) (P0_1_ : Nat → Prop) (u9001_ : Value) (l0_1 : List (S87)) (P0_2_ : Nat → Prop) (u9002_ : Value) (l0_2 : List Int) (a0_3 : Int) (A0_4 : Option Addr) (c0_4 : Nat) (l0_4 : List ByteArray) (a1 : ByteArray) (a2 : Int) (r1 : List (S87)) (r2 : List (S87)) (r3 : List Int) (r4 : Int) (r5 : List ByteArray) (w0 w : World) (hB : Below w0.heap.size w0 w) (ho0_0 : Kd.R k87 87 w w0.heap.size P0_0_ u9000_ l0_0) (hp0_0_0_1 : ∀ k_, P0_0_ k_ → ¬ P0_1_ k_) (ho0_1 : Kd.R k87 87 w w0.heap.size P0_1_ u9001_ l0_1) (hp0_1_0_0 : ∀ k_, P0_1_ k_ → ¬ P0_0_ k_) (ho0_2 : Kd.R (Kd.int .i64) 3 w w0.heap.size P0_2_ u9002_ l0_2) (hr0_4 : ∀ W_, Kept w W_ (fun k_ => P0_0_ k_ ∨ P0_1_ k_ ∨ P0_2_ k_) → Kd.C Kd.string W_ A0_4 l0_4.length l0_4) (hc0_4 : l0_4.length ≤ c0_4) (h : switchboardref25_wrong.f k l0_0 l0_1 l0_2 a0_3 l0_4 a1 a2 = some (r1, r2, r3, r4, r5)) :
    Calls Tryd.prog 35 #[.agg #[u9000_, u9001_, u9002_, .int .i64 a0_3, .slice A0_4 l0_4.length c0_4], .string a1, .int .i64 a2] w fun e w' => ∃ v0_ v1_ v2_ v4_ : Value, e = .returned (.agg #[v0_, v1_, v2_, .int .i64 r4, v4_]) ∧ Kd.R k87 87 w' w0.heap.size (fun k_ => ((P0_0_ k_ ∨ P0_1_ k_ ∨ P0_2_ k_) ∨ w.heap.size ≤ k_) ∧ some k_ ≠ (v1_ : Value).ownBlock) v0_ r1 ∧ Kd.R k87 87 w' w0.heap.size (fun k_ => ((P0_0_ k_ ∨ P0_1_ k_ ∨ P0_2_ k_) ∨ w.heap.size ≤ k_) ∧ some k_ ≠ (v0_ : Value).ownBlock) v1_ r2 ∧ Kd.R (Kd.int .i64) 3 w' w0.heap.size (fun k_ => ((P0_0_ k_ ∨ P0_1_ k_ ∨ P0_2_ k_) ∨ w.heap.size ≤ k_)) v2_ r3 ∧ Kd.R Kd.string 9 w' w0.heap.size (fun k_ => ((P0_0_ k_ ∨ P0_1_ k_ ∨ P0_2_ k_) ∨ w.heap.size ≤ k_)) v4_ r5 ∧ Below w0.heap.size w0 w' ∧ Kept w w' (fun k_ => P0_0_ k_ ∨ P0_1_ k_ ∨ P0_2_ k_) := by
  obtain ⟨A0, c0, rfl⟩ := Kd.R_slice ho0_0
  obtain ⟨A1, c1, rfl⟩ := Kd.R_slice ho0_1
  obtain ⟨A2, c2, rfl⟩ := Kd.R_slice ho0_2
  unfold switchboardref25_wrong.f at h
  simp only [Option.bind_some, List.nil_append, List.length_nil, Nat.zero_add] at h
  split at h
  · rename_i g1
    split at h
    · rename_i g2
      obtain ⟨t, ht, h⟩ := Option.bind_eq_some_iff.mp h
      split at h
      · rename_i g3
        · simp only [Option.some.injEq, Prod.mk.injEq] at h
          obtain ⟨rfl, rfl, rfl, rfl, rfl⟩ := h
          refine (refWrong A0 A1 A2 A0_4 _ c0 _ c1 _ c2 c0_4 a0_3 l0_4 (fun w' hk => hr0_4 w' (Kept.of_below hk.below _)) (by omega) a1 g2 a2 t g3 (fun w' => switchboardref25_digits.calls k a2 t w' ht)).mono ?_
          rintro e w' ⟨v, rfl, hO, hK⟩
          have hb := hK.below
          exact ⟨_, _, _, v, rfl, Kd.R_mono (Kd.R_below ho0_0 hb) (fun k_ hk => ⟨.inl (.inl hk), fun e_ => hp0_0_0_1 k_ hk (ho0_1.1 k_ e_.symm)⟩), Kd.R_mono (Kd.R_below ho0_1 hb) (fun k_ hk => ⟨.inl (.inr (.inl hk)), fun e_ => hp0_1_0_0 k_ hk (ho0_0.1 k_ e_.symm)⟩), Kd.R_mono (Kd.R_below ho0_2 hb) (fun k_ hk => .inl (.inr (.inr hk))), Kd.R_mono (Kd.R_lower (Kd.R_bound hO) hB.size) (fun k_ hk => .inr hk.2.1), Keep.below_of hB hK (by simp), Kept.of_below hb _⟩
      · cases h
    · cases h
  · cases h
end Go.Proofs.YtjhhnidfmoejdaaDoor.PLedgerPlays
