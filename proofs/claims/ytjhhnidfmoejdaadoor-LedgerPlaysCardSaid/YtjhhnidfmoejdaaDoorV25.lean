import Derived.Test.YtjhhnidfmoejdaaDoorU25
namespace Go.Proofs.YtjhhnidfmoejdaaDoor
open Go.RowKit Go.Lib Go.Proofs.YtjhhnidfmoejdaaDoor.PLedgerPlays Go.Proofs.YtjhhnidfmoejdaaDoorW.PrintWords Go.Proofs.YtjhhnidfmoejdaaDoorW.PrintLast
set_option maxRecDepth 10000
set_option linter.unusedVariables false
set_option linter.unusedSimpArgs false
set_option maxHeartbeats 2000000
namespace R25
theorem Rmem.form {base : Nat} {w : World} {v : Vs} {x : Rx} (h : Rmem base w v x) : ∃ A0 n0 c0 A1 n1 c1 A2 n2 c2 A3 n3 c3, v = ⟨.slice A0 n0 c0, .slice A1 n1 c1, .slice A2 n2 c2, .slice A3 n3 c3⟩ := by
  obtain ⟨va, vb, vc, vd⟩ := v
  obtain ⟨A0, c0, e0⟩ := h.o.slice
  obtain ⟨A1, c1, e1⟩ := h.d.slice
  obtain ⟨A2, c2, e2⟩ := h.t.slice
  obtain ⟨A3, c3, e3⟩ := h.e.slice
  exact ⟨A0, _, c0, A1, _, c1, A2, _, c2, A3, _, c3, by simp only at e0 e1 e2 e3; rw [e0, e1, e2, e3]⟩
theorem ans_none {w0 w : World} {v : Vs} {x : Rx} (hB : Below w0.heap.size w0 w) (h : Rmem w0.heap.size w v x) (hl : x.O.length < 1000) (kind id code : Int) (h6 : kind ≠ 6) (hp : place id 0 x.O < 0) :
    Calls Tryd.prog 27 #[v.val x.n, .int .i64 kind, .int .i64 id, .int .i64 code] w (RPost w0 w v x) := by
  obtain ⟨A0, n0, c0, A1, n1, c1, A2, n2, c2, A3, n3, c3, hv⟩ := h.form
  have hbx := Bx.lay h
  have HF := hide (fun (w' : World) (hb : Bx w0 w w' v x) => mFind hb.h hl id)
  have HE := hide (fun (w' : World) (hb : Bx w0 w w' v x) => bx_end hb.r hb.h (fun k hk => Or.inl hk) (Kept.of_below hb.k.below _) (Keep.below_of hB hb.k (by simp)) hB.size)
  have b6 : (kind == 6) = false := by simpa using h6
  generalize place id 0 x.O = pl at hp HF
  have bp : decide (pl < 0) = true := by simpa using hp
  clear h hl h6 hB
  obtain ⟨nn, hnn⟩ : ∃ n, x.n = n := ⟨_, rfl⟩
  have HNN := hide hnn
  rw [hnn] at hbx ⊢
  subst hv
  simp only [Vs.val] at hbx HF ⊢
  obtain ⟨wz, hwz⟩ : ∃ wz, (w.alloc (.cells #[.slice A0 n0 c0, .slice A1 n1 c1, .slice A2 n2 c2, .int .i64 nn, .slice A3 n3 c3] SbT)).alloc (.cells #[.slice none 0 0, .slice none 0 0, .slice none 0 0, .int .i64 0, .slice none 0 0] SbT) = wz := ⟨_, rfl⟩
  rw [hwz] at hbx
  have hs := hbx.s
  dsimp only at hs
  rw [hnn] at hs
  obtain ⟨q0, q1, q2, q3, q4⟩ := hs.cells5
  have HBX := hide hbx
  have HW := hide hwz
  clear hbx hnn hs
  go_enter Tryd.func27, Tryd.ntmps27
  go_wp2_with fail
  refine (HF.out _ HBX.out).mono ?_
  rintro e wm ⟨rfl, hkm⟩
  have hbm := HBX.out.keep hkm
  have he := HE.out _ hbm
  have hs := hbm.s
  have hr := hbm.r
  dsimp only at hs
  rw [HNN.out] at hs
  obtain ⟨q0, q1, q2, q3, q4⟩ := hs.cells5
  obtain ⟨f0, f1, f2, f3, f4⟩ := hr.froz5
  obtain ⟨r0, r1, r2, r3, r4⟩ := hr.cells5
  have HE2 := hide he
  clear hbm he hs hr hkm HF hwz
  go_wp2_with fail
  obtain ⟨hR9, hM9, hK9, hB9⟩ := HE2.out
  simp only [HNN.out, set5] at hR9 hM9 hK9 hB9
  obtain ⟨w9, hw9⟩ : ∃ w9, (((((wm.setCell { block := w.heap.size + 1, off := 0 } (Value.slice A0 n0 c0)).setCell { block := w.heap.size + 1, off := 1 } (Value.slice A1 n1 c1)).setCell { block := w.heap.size + 1, off := 2 } (Value.slice A2 n2 c2)).setCell { block := w.heap.size + 1, off := 3 } (Value.int IntKind.i64 nn)).setCell { block := w.heap.size + 1, off := 4 } (Value.slice A3 n3 c3)) = w9 := ⟨_, rfl⟩
  rw [hw9] at hR9 hM9 hK9 hB9 ⊢
  obtain ⟨e0, e1, e2, e3, e4⟩ := hR9.cells5
  refine bodyPost_ret (v := .agg #[.slice A0 n0 c0, .slice A1 n1 c1, .slice A2 n2 c2, .int .i64 nn, .slice A3 n3 c3]) ?_ rfl ?_
  · simp [results, Tryd.results27, go_sem, e0, e1, e2, e3, e4]
  · exact ⟨⟨.slice A0 n0 c0, .slice A1 n1 c1, .slice A2 n2 c2, .slice A3 n3 c3⟩, by rw [HNN.out], hM9, fun k hk => Or.inl hk, hK9, hB9⟩
theorem rowR_at {base : Nat} {w : World} {v : Value} {l : List RX} (h : Own kRX RXT base w v l) {j : Nat} (hj : j < l.length) :
    ∃ g cap, v = .slice (some ⟨g, 0, none⟩) l.length cap ∧ g < w.heap.size ∧ base ≤ g ∧ w.cell? ⟨g, j * 6, none⟩ = some (.int .i64 (l[j]).f0) ∧ w.cell? ⟨g, j * 6 + 1, none⟩ = some (.string (l[j]).f1) ∧ w.cell? ⟨g, j * 6 + 2, none⟩ = some (.string (l[j]).f2) ∧ w.cell? ⟨g, j * 6 + 3, none⟩ = some (.int .i64 (l[j]).f3) ∧ w.cell? ⟨g, j * 6 + 4, none⟩ = some (.bool (l[j]).f4) ∧ w.cell? ⟨g, j * 6 + 5, none⟩ = some (.bool (l[j]).f5) := by
  obtain ⟨g, cap, hv, hb, hg⟩ := h.form (by omega)
  obtain ⟨A, c, hv', _, hC⟩ := h.reads
  rw [hv] at hv'
  cases hv'
  obtain ⟨ad, c1, e, hc1, hK, hcell⟩ := Kd.C_get hC z87 (j : Int) (by omega) (by omega)
  cases e
  obtain rfl := k87_open hK
  have hL : l.getD (j : Int).toNat z87 = l[j] := by simp [List.getD, hj]
  rw [hL] at hcell
  have hsz : kRX.sz = 6 := rfl
  rw [hsz] at hcell
  refine ⟨g, _, hv, hg, hb, ?_, ?_, ?_, ?_, ?_, ?_⟩
  · have := hcell 0 _ rfl; simpa [Lib.add_plain] using this
  · have := hcell 1 _ rfl; simpa [Lib.add_plain] using this
  · have := hcell 2 _ rfl; simpa [Lib.add_plain] using this
  · have := hcell 3 _ rfl; simpa [Lib.add_plain] using this
  · have := hcell 4 _ rfl; simpa [Lib.add_plain] using this
  · have := hcell 5 _ rfl; simpa [Lib.add_plain] using this
def Row6 (w : World) (g j : Nat) (y : RX) : Prop := w.cell? ⟨g, j * 6, none⟩ = some (.int .i64 y.f0) ∧ w.cell? ⟨g, j * 6 + 1, none⟩ = some (.string y.f1) ∧ w.cell? ⟨g, j * 6 + 2, none⟩ = some (.string y.f2) ∧ w.cell? ⟨g, j * 6 + 3, none⟩ = some (.int .i64 y.f3) ∧ w.cell? ⟨g, j * 6 + 4, none⟩ = some (.bool y.f4) ∧ w.cell? ⟨g, j * 6 + 5, none⟩ = some (.bool y.f5)
theorem rowR_of {base : Nat} {w : World} {g n c : Nat} {l : List RX} (h : Own kRX RXT base w (.slice (some ⟨g, 0, none⟩) n c) l) {j : Nat} (hj : j < l.length) : Row6 w g j l[j] := by
  obtain ⟨g', cap, hv, _, _, hc⟩ := rowR_at h hj
  simp only [Value.slice.injEq, Option.some.injEq, Addr.mk.injEq, and_true] at hv
  obtain ⟨rfl, _, _⟩ := hv
  exact hc
theorem Rmem.form1 {base : Nat} {w : World} {v : Vs} {x : Rx} (h : Rmem base w v x) (h0 : 0 < x.O.length) : ∃ g n0 c0 A1 n1 c1 A2 n2 c2 A3 n3 c3, v = ⟨.slice (some ⟨g, 0, none⟩) n0 c0, .slice A1 n1 c1, .slice A2 n2 c2, .slice A3 n3 c3⟩ ∧ n0 = x.O.length := by
  obtain ⟨g, cap, hv, _⟩ := h.o.form h0
  obtain ⟨A0, n0, c0, A1, n1, c1, A2, n2, c2, A3, n3, c3, rfl⟩ := h.form
  simp only [Value.slice.injEq] at hv
  obtain ⟨rfl, rfl, rfl⟩ := hv
  exact ⟨g, _, _, A1, n1, c1, A2, n2, c2, A3, n3, c3, rfl, rfl⟩
theorem _root_.Go.Proofs.YtjhhnidfmoejdaaDoor.Blk.cells6 {w : World} {B T : Nat} {a0 a1 a2 a3 a4 a5 : Value} (h : Blk w B #[a0, a1, a2, a3, a4, a5] T) : w.cell? ⟨B, 0, none⟩ = some a0 ∧ w.cell? ⟨B, 1, none⟩ = some a1 ∧ w.cell? ⟨B, 2, none⟩ = some a2 ∧ w.cell? ⟨B, 3, none⟩ = some a3 ∧ w.cell? ⟨B, 4, none⟩ = some a4 ∧ w.cell? ⟨B, 5, none⟩ = some a5 :=
  ⟨h.cell 0, h.cell 1, h.cell 2, h.cell 3, h.cell 4, h.cell 5⟩
theorem _root_.Go.Proofs.YtjhhnidfmoejdaaDoor.Blk.froz6 {w : World} {B T : Nat} {a0 a1 a2 a3 a4 a5 : Value} (h : Blk w B #[a0, a1, a2, a3, a4, a5] T) : w.frozen? ⟨B, 0, none⟩ = false ∧ w.frozen? ⟨B, 1, none⟩ = false ∧ w.frozen? ⟨B, 2, none⟩ = false ∧ w.frozen? ⟨B, 3, none⟩ = false ∧ w.frozen? ⟨B, 4, none⟩ = false ∧ w.frozen? ⟨B, 5, none⟩ = false :=
  ⟨h.frozen 0 (by simp), h.frozen 1 (by simp), h.frozen 2 (by simp), h.frozen 3 (by simp), h.frozen 4 (by simp), h.frozen 5 (by simp)⟩
theorem keep_below {w0 w w' : World} (h : Below w0.heap.size w0 w) (hk : Keep [] w w') : Below w0.heap.size w0 w' := Keep.below_of h hk (by simp)
theorem bx_call {w0 w w3 w4 : World} {v v1 v' : Vs} {x x1 x' : Rx} (h : Rmem w0.heap.size w v x) (hb : Bx w0 w w3 v1 x1) (hv : ∀ k, v1.in_ k → v.in_ k ∨ w.heap.size ≤ k) (hm : Rmem w0.heap.size w4 v' x') (hn : ∀ k, v'.in_ k → v1.in_ k ∨ w3.heap.size ≤ k) (hk : Kept w3 w4 v1.in_) :
    Blk w4 (w.heap.size + 1) #[.slice none 0 0, .slice none 0 0, .slice none 0 0, .int .i64 0, .slice none 0 0] SbT ∧ (∀ k, v'.in_ k → v.in_ k ∨ w.heap.size ≤ k) ∧ Kept w w4 v.in_ := by
  refine ⟨hb.r.kept hk fun hi => ?_, fun k hi => ?_, (Kept.of_below hb.k.below v.in_).then_ hk hv⟩
  · have hty : ∀ {α : Type} {d : Kd α} {e : Nat} {u : Value} {xs : List α}, Own d e w0.heap.size w3 u xs → u.ownBlock = some (w.heap.size + 1) → e = SbT := fun {α d e u xs} ho hu => by
      obtain ⟨_, _, ho, _⟩ := ho
      obtain ⟨c, hc⟩ := own_typed ho _ hu
      obtain ⟨lo, hi, h3, _⟩ := hb.r
      rw [hc] at h3
      cases h3; rfl
    rcases hi with hi | hi | hi | hi
    · exact absurd (hty hb.h.o hi) (by decide)
    · exact absurd (hty hb.h.d hi) (by decide)
    · exact absurd (hty hb.h.t hi) (by decide)
    · exact absurd (hty hb.h.e hi) (by decide)
  · rcases hn k hi with h1 | h1
    · exact hv k h1
    · exact Or.inr (Nat.le_trans hb.k.size h1)
theorem Rmem.dlen {base : Nat} {w : World} {v : Vs} {x : Rx} (h : Rmem base w v x) (hD : x.D.length < 1000) {a c d : Value} {A : Option Addr} {n cc : Nat} (hv : v = ⟨a, .slice A n cc, c, d⟩) : n < 1000 := by
  subst hv
  obtain ⟨_, _, e⟩ := h.d.slice
  simp only [Value.slice.injEq] at e
  omega
theorem rowC_of {base : Nat} {w : World} {A : Option Addr} {n c : Nat} {l : List RX} (h : Own kRX RXT base w (.slice A n c) l) : kRX.C w A n l := by
  obtain ⟨A', c', hv, _, hC⟩ := h.reads
  simp only [Value.slice.injEq] at hv
  obtain ⟨rfl, rfl, _⟩ := hv
  exact hC
theorem infoR : (Tryd.prog.info? RXT).map (fun i => (i.zero, i.size, i.bytes)) = some (some (.agg #[.int .i64 0, .string ByteArray.empty, .string ByteArray.empty, .int .i64 0, .bool false, .bool false]), 6, 56) := by kernel_rfl
theorem ans_drop {w0 w : World} {v : Vs} {x : Rx} (hB : Below w0.heap.size w0 w) (h : Rmem w0.heap.size w v x) (hl : x.O.length < 1000) (hD : x.D.length < 1000) (id code : Int) (j : Nat) (hj : j < x.O.length) (hp : place id 0 x.O = (j : Int)) (y : RX) (hy : x.O[j] = y) (hc : 128 ≤ code) (hy4 : y.f4 = false) :
    Calls Tryd.prog 27 #[v.val x.n, .int .i64 5, .int .i64 id, .int .i64 code] w (RPost w0 w v ({ x with O := x.O.filter fun y => decide (y.f0 ≠ id) })) := by
  obtain ⟨g, n0, c0, A1, n1, c1, A2, n2, c2, A3, n3, c3, hv, hn0⟩ := h.form1 (by omega)
  have hbx := Bx.lay h
  have HF := hide (fun (w' : World) (hb : Bx w0 w w' v x) => mFind hb.h hl id)
  have HROW := hide (fun (w' : World) (hb : Bx w0 w w' v x) => hy ▸ rowR_of (base := w0.heap.size) (g := g) (n := n0) (c := c0) (by have := hb.h.o; rw [hv] at this; exact this) hj)
  have HH := hide h
  have HD1 := hide (h.dlen hD hv)
  subst hv
  have hl0 : (j : Int) < (n0 : Int) := by omega
  have HN0 := hide hn0
  have bc : decide (128 ≤ code) = true := by simpa using hc
  simp only [hp] at HF
  have bp : decide ((j : Int) < 0) = false := by simp
  have HB := hide hB
  obtain ⟨nn, hnn⟩ : ∃ n, x.n = n := ⟨_, rfl⟩
  have HNN := hide hnn
  rw [hnn] at hbx ⊢
  simp only [Vs.val] at hbx HF ⊢
  obtain ⟨wz, hwz⟩ : ∃ wz, (w.alloc (.cells #[.slice (some ⟨g, 0, none⟩) n0 c0, .slice A1 n1 c1, .slice A2 n2 c2, .int .i64 nn, .slice A3 n3 c3] SbT)).alloc (.cells #[.slice none 0 0, .slice none 0 0, .slice none 0 0, .int .i64 0, .slice none 0 0] SbT) = wz := ⟨_, rfl⟩
  rw [hwz] at hbx
  have hs := hbx.s
  dsimp only at hs
  rw [hnn] at hs
  obtain ⟨q0, q1, q2, q3, q4⟩ := hs.cells5
  have HBX := hide hbx
  have HW := hide hwz
  clear h hB hbx hnn hs hp hn0 hy
  go_enter Tryd.func27, Tryd.ntmps27
  go_wp2_with fail
  refine (HF.out _ HBX.out).mono ?_
  rintro e wm ⟨rfl, hkm⟩
  have hbm := HBX.out.keep hkm
  obtain ⟨z0, z1, z2, z3, z4, z5⟩ := HROW.out _ hbm
  have hs := hbm.s
  dsimp only at hs
  rw [HNN.out] at hs
  obtain ⟨q0, q1, q2, q3, q4⟩ := hs.cells5
  rw [hy4] at z4
  have HBM := hide hbm
  have hX := Blk.new wm #[.int .i64 y.f0, .string y.f1, .string y.f2, .int .i64 y.f3, .bool y.f4, .bool y.f5] RXT
  have HX := hide hX
  clear hbm hs hkm HF hwz HROW HBX q0 q1 q2 q3 q4 hX
  have hs := HBM.out.s
  dsimp only at hs
  rw [HNN.out] at hs
  obtain ⟨q0, q1, q2, q3, q4⟩ := hs.cells5
  clear hs
  go_upto_region 15 with fail
  obtain ⟨w3, hw3⟩ : ∃ w3, wm.alloc (.cells #[.int .i64 y.f0, .string y.f1, .string y.f2, .int .i64 y.f3, .bool false, .bool y.f5] RXT) = w3 := ⟨_, rfl⟩
  have hX3 := HX.out
  have hb3 := HBM.out.keep ((Keep.refl [] wm).alloc (.cells #[.int .i64 y.f0, .string y.f1, .string y.f2, .int .i64 y.f3, .bool false, .bool y.f5] RXT))
  rw [hy4] at hX3; rw [hw3] at hX3 hb3 ⊢
  have hs := hb3.s
  dsimp only at hs
  rw [HNN.out] at hs
  obtain ⟨q0, q1, q2, q3, q4⟩ := hs.cells5
  obtain ⟨x0, x1, x2, x3, x4, x5⟩ := hX3.cells6
  obtain ⟨z0', z1', z2', z3', z4', z5'⟩ := hX3.froz6
  have HB3 := hide hb3
  have HX3 := hide hX3
  have HK3 := hide (show Keep [] wm w3 from hw3 ▸ (Keep.refl [] wm).alloc _)
  clear hw3 hs hX3 hb3 HX z0 z1 z2 z3 z4 z5
  have hcall := mDrop (keep_below HB.out HB3.out.k) HB3.out.h hl id
  simp only [HNN.out, Vs.val] at hcall
  have HC := hide hcall
  clear hcall
  go_wp2_with fail
  refine HC.out.mono ?_
  rintro e w4 ⟨v4, rfl, hm4, hn4, hk4, hBl4⟩
  obtain ⟨hr4, hn5, hk5⟩ := bx_call HH.out HB3.out (fun k hk => Or.inl hk) hm4 hn4 hk4
  obtain ⟨hR9, hM9, hK9, hB9⟩ := bx_end hr4 hm4 hn5 hk5 hBl4 HB.out.size
  obtain ⟨B0, m0, d0, B1, m1, d1, B2, m2, d2, B3, m3, d3, rfl⟩ := hm4.form
  obtain ⟨f0, f1, f2, f3, f4⟩ := hr4.froz5
  obtain ⟨r0, r1, r2, r3, r4⟩ := hr4.cells5
  simp only [HNN.out, set5] at hR9 hM9 hK9 hB9
  have H9 := hide (And.intro hR9 (And.intro hM9 (And.intro hK9 hB9)))
  have HN5 := hide hn5
  simp only [Vs.val, HNN.out]
  clear hr4 hn5 hk5 hR9 hM9 hK9 hB9 hBl4 hm4 hn4 hk4 HC x0 x1 x2 x3 x4 x5 z0' z1' z2' z3' z4' z5' q0 q1 q2 q3 q4
  go_wp2_with fail
  obtain ⟨hR9, hM9, hK9, hB9⟩ := H9.out
  obtain ⟨w9, hw9⟩ : ∃ w9, (((((w4.setCell { block := w.heap.size + 1, off := 0 } (Value.slice B0 m0 d0)).setCell { block := w.heap.size + 1, off := 1 } (Value.slice B1 m1 d1)).setCell { block := w.heap.size + 1, off := 2 } (Value.slice B2 m2 d2)).setCell { block := w.heap.size + 1, off := 3 } (Value.int IntKind.i64 nn)).setCell { block := w.heap.size + 1, off := 4 } (Value.slice B3 m3 d3)) = w9 := ⟨_, rfl⟩
  rw [hw9] at hR9 hM9 hK9 hB9 ⊢
  obtain ⟨e0, e1, e2, e3, e4⟩ := hR9.cells5
  refine bodyPost_ret (v := .agg #[.slice B0 m0 d0, .slice B1 m1 d1, .slice B2 m2 d2, .int .i64 nn, .slice B3 m3 d3]) ?_ rfl ?_
  · simp [results, Tryd.results27, go_sem, e0, e1, e2, e3, e4]
  · exact ⟨⟨.slice B0 m0 d0, .slice B1 m1 d1, .slice B2 m2 d2, .slice B3 m3 d3⟩, rfl, hM9, HN5.out, hK9, hB9⟩
theorem ans_good {w0 w : World} {v : Vs} {x : Rx} (hB : Below w0.heap.size w0 w) (h : Rmem w0.heap.size w v x) (hl : x.O.length < 1000) (hD : x.D.length < 1000) (id code : Int) (j : Nat) (hj : j < x.O.length) (hp : place id 0 x.O = (j : Int)) (y : RX) (hy : x.O[j] = y) (hc : code < 128) :
    Calls Tryd.prog 27 #[v.val x.n, .int .i64 5, .int .i64 id, .int .i64 code] w (RPost w0 w v ({ x with O := setL ⟨y.f0, y.f1, y.f2, y.f3, true, y.f5⟩ false x.O })) := by
  obtain ⟨g, n0, c0, A1, n1, c1, A2, n2, c2, A3, n3, c3, hv, hn0⟩ := h.form1 (by omega)
  have hbx := Bx.lay h
  have HF := hide (fun (w' : World) (hb : Bx w0 w w' v x) => mFind hb.h hl id)
  have HROW := hide (fun (w' : World) (hb : Bx w0 w w' v x) => hy ▸ rowR_of (base := w0.heap.size) (g := g) (n := n0) (c := c0) (by have := hb.h.o; rw [hv] at this; exact this) hj)
  have HH := hide h
  have HD1 := hide (h.dlen hD hv)
  subst hv
  have hl0 : (j : Int) < (n0 : Int) := by omega
  have HN0 := hide hn0
  have bc : decide (128 ≤ code) = false := by simpa using hc
  simp only [hp] at HF
  have bp : decide ((j : Int) < 0) = false := by simp
  have HB := hide hB
  obtain ⟨nn, hnn⟩ : ∃ n, x.n = n := ⟨_, rfl⟩
  have HNN := hide hnn
  rw [hnn] at hbx ⊢
  simp only [Vs.val] at hbx HF ⊢
  obtain ⟨wz, hwz⟩ : ∃ wz, (w.alloc (.cells #[.slice (some ⟨g, 0, none⟩) n0 c0, .slice A1 n1 c1, .slice A2 n2 c2, .int .i64 nn, .slice A3 n3 c3] SbT)).alloc (.cells #[.slice none 0 0, .slice none 0 0, .slice none 0 0, .int .i64 0, .slice none 0 0] SbT) = wz := ⟨_, rfl⟩
  rw [hwz] at hbx
  have hs := hbx.s
  dsimp only at hs
  rw [hnn] at hs
  obtain ⟨q0, q1, q2, q3, q4⟩ := hs.cells5
  have HBX := hide hbx
  have HW := hide hwz
  clear h hB hbx hnn hs hp hn0 hy
  go_enter Tryd.func27, Tryd.ntmps27
  go_wp2_with fail
  refine (HF.out _ HBX.out).mono ?_
  rintro e wm ⟨rfl, hkm⟩
  have hbm := HBX.out.keep hkm
  obtain ⟨z0, z1, z2, z3, z4, z5⟩ := HROW.out _ hbm
  have hs := hbm.s
  dsimp only at hs
  rw [HNN.out] at hs
  obtain ⟨q0, q1, q2, q3, q4⟩ := hs.cells5
  have HBM := hide hbm
  have hX := Blk.new wm #[.int .i64 y.f0, .string y.f1, .string y.f2, .int .i64 y.f3, .bool y.f4, .bool y.f5] RXT
  have HX := hide hX
  clear hbm hs hkm HF hwz HROW HBX q0 q1 q2 q3 q4 hX
  have hs := HBM.out.s
  dsimp only at hs
  rw [HNN.out] at hs
  obtain ⟨q0, q1, q2, q3, q4⟩ := hs.cells5
  clear hs
  go_upto_region 15 with fail
  obtain ⟨w3, hw3⟩ : ∃ w3, wm.alloc (.cells #[.int .i64 y.f0, .string y.f1, .string y.f2, .int .i64 y.f3, .bool y.f4, .bool y.f5] RXT) = w3 := ⟨_, rfl⟩
  have hX3 := HX.out
  have hb3 := HBM.out.keep ((Keep.refl [] wm).alloc (.cells #[.int .i64 y.f0, .string y.f1, .string y.f2, .int .i64 y.f3, .bool y.f4, .bool y.f5] RXT))
  rw [hw3] at hX3 hb3 ⊢
  have hs := hb3.s
  dsimp only at hs
  rw [HNN.out] at hs
  obtain ⟨q0, q1, q2, q3, q4⟩ := hs.cells5
  obtain ⟨x0, x1, x2, x3, x4, x5⟩ := hX3.cells6
  obtain ⟨z0', z1', z2', z3', z4', z5'⟩ := hX3.froz6
  have HB3 := hide hb3
  have HX3 := hide hX3
  have HK3 := hide (show Keep [] wm w3 from hw3 ▸ (Keep.refl [] wm).alloc _)
  clear hw3 hs hX3 hb3 HX z0 z1 z2 z3 z4 z5
  go_upto_region 19 with fail
  obtain ⟨w5, hw5⟩ : ∃ w5, w3.setCell ⟨wm.heap.size, 4, none⟩ (.bool true) = w5 := ⟨_, rfl⟩
  have hX5 := HX3.out.set 4 (.bool true)
  have hk5 := HK3.out.setCell (p := ⟨wm.heap.size, 4, none⟩) (fun h => absurd h (Nat.lt_irrefl _)) (.bool true)
  rw [hw5] at hX5 hk5 ⊢
  have hb5 := HBM.out.keep hk5
  have hs := hb5.s
  dsimp only at hs
  rw [HNN.out] at hs
  obtain ⟨q0, q1, q2, q3, q4⟩ := hs.cells5
  simp at hX5
  obtain ⟨x0, x1, x2, x3, x4, x5⟩ := hX5.cells6
  obtain ⟨z0', z1', z2', z3', z4', z5'⟩ := hX5.froz6
  have HB5 := hide hb5
  have HX5 := hide hX5
  have HK5 := hide hk5
  clear hw5 hs hX5 hb5 hk5
  have hcall := mSet (keep_below HB.out HB5.out.k) HB5.out.h hl ⟨y.f0, y.f1, y.f2, y.f3, true, y.f5⟩
  simp only [HNN.out, Vs.val] at hcall
  have HC := hide hcall
  clear hcall
  go_wp2_with fail
  refine HC.out.mono ?_
  rintro e w4 ⟨v4, rfl, hm4, hn4, hk4, hBl4⟩
  obtain ⟨hr4, hn5, hk5⟩ := bx_call HH.out HB5.out (fun k hk => Or.inl hk) hm4 hn4 hk4
  obtain ⟨hR9, hM9, hK9, hB9⟩ := bx_end hr4 hm4 hn5 hk5 hBl4 HB.out.size
  obtain ⟨B0, m0, d0, B1, m1, d1, B2, m2, d2, B3, m3, d3, rfl⟩ := hm4.form
  obtain ⟨f0, f1, f2, f3, f4⟩ := hr4.froz5
  obtain ⟨r0, r1, r2, r3, r4⟩ := hr4.cells5
  simp only [HNN.out, set5] at hR9 hM9 hK9 hB9
  have H9 := hide (And.intro hR9 (And.intro hM9 (And.intro hK9 hB9)))
  have HN5 := hide hn5
  simp only [Vs.val, HNN.out]
  clear hr4 hn5 hk5 hR9 hM9 hK9 hB9 hBl4 hm4 hn4 hk4 HC x0 x1 x2 x3 x4 x5 z0' z1' z2' z3' z4' z5' q0 q1 q2 q3 q4
  go_wp2_with fail
  obtain ⟨hR9, hM9, hK9, hB9⟩ := H9.out
  obtain ⟨w9, hw9⟩ : ∃ w9, (((((w4.setCell { block := w.heap.size + 1, off := 0 } (Value.slice B0 m0 d0)).setCell { block := w.heap.size + 1, off := 1 } (Value.slice B1 m1 d1)).setCell { block := w.heap.size + 1, off := 2 } (Value.slice B2 m2 d2)).setCell { block := w.heap.size + 1, off := 3 } (Value.int IntKind.i64 nn)).setCell { block := w.heap.size + 1, off := 4 } (Value.slice B3 m3 d3)) = w9 := ⟨_, rfl⟩
  rw [hw9] at hR9 hM9 hK9 hB9 ⊢
  obtain ⟨e0, e1, e2, e3, e4⟩ := hR9.cells5
  refine bodyPost_ret (v := .agg #[.slice B0 m0 d0, .slice B1 m1 d1, .slice B2 m2 d2, .int .i64 nn, .slice B3 m3 d3]) ?_ rfl ?_
  · simp [results, Tryd.results27, go_sem, e0, e1, e2, e3, e4]
  · exact ⟨⟨.slice B0 m0 d0, .slice B1 m1 d1, .slice B2 m2 d2, .slice B3 m3 d3⟩, rfl, hM9, HN5.out, hK9, hB9⟩
theorem ans_came {w0 w : World} {v : Vs} {x : Rx} (hB : Below w0.heap.size w0 w) (h : Rmem w0.heap.size w v x) (hl : x.O.length < 1000) (hD : x.D.length < 1000) (id code : Int) (j : Nat) (hj : j < x.O.length) (hp : place id 0 x.O = (j : Int)) (y : RX) (hy : x.O[j] = y) (hc : 128 ≤ code) (hy4 : y.f4 = true) :
    Calls Tryd.prog 27 #[v.val x.n, .int .i64 5, .int .i64 id, .int .i64 code] w (RPost w0 w v ({ x with O := setL ⟨y.f0, y.f1, y.f2, y.f3, true, y.f5⟩ false x.O })) := by
  obtain ⟨g, n0, c0, A1, n1, c1, A2, n2, c2, A3, n3, c3, hv, hn0⟩ := h.form1 (by omega)
  have hbx := Bx.lay h
  have HF := hide (fun (w' : World) (hb : Bx w0 w w' v x) => mFind hb.h hl id)
  have HROW := hide (fun (w' : World) (hb : Bx w0 w w' v x) => hy ▸ rowR_of (base := w0.heap.size) (g := g) (n := n0) (c := c0) (by have := hb.h.o; rw [hv] at this; exact this) hj)
  have HH := hide h
  have HD1 := hide (h.dlen hD hv)
  subst hv
  have hl0 : (j : Int) < (n0 : Int) := by omega
  have HN0 := hide hn0
  have bc : decide (128 ≤ code) = true := by simpa using hc
  simp only [hp] at HF
  have bp : decide ((j : Int) < 0) = false := by simp
  have HB := hide hB
  obtain ⟨nn, hnn⟩ : ∃ n, x.n = n := ⟨_, rfl⟩
  have HNN := hide hnn
  rw [hnn] at hbx ⊢
  simp only [Vs.val] at hbx HF ⊢
  obtain ⟨wz, hwz⟩ : ∃ wz, (w.alloc (.cells #[.slice (some ⟨g, 0, none⟩) n0 c0, .slice A1 n1 c1, .slice A2 n2 c2, .int .i64 nn, .slice A3 n3 c3] SbT)).alloc (.cells #[.slice none 0 0, .slice none 0 0, .slice none 0 0, .int .i64 0, .slice none 0 0] SbT) = wz := ⟨_, rfl⟩
  rw [hwz] at hbx
  have hs := hbx.s
  dsimp only at hs
  rw [hnn] at hs
  obtain ⟨q0, q1, q2, q3, q4⟩ := hs.cells5
  have HBX := hide hbx
  have HW := hide hwz
  clear h hB hbx hnn hs hp hn0 hy
  go_enter Tryd.func27, Tryd.ntmps27
  go_wp2_with fail
  refine (HF.out _ HBX.out).mono ?_
  rintro e wm ⟨rfl, hkm⟩
  have hbm := HBX.out.keep hkm
  obtain ⟨z0, z1, z2, z3, z4, z5⟩ := HROW.out _ hbm
  have hs := hbm.s
  dsimp only at hs
  rw [HNN.out] at hs
  obtain ⟨q0, q1, q2, q3, q4⟩ := hs.cells5
  rw [hy4] at z4
  have HBM := hide hbm
  have hX := Blk.new wm #[.int .i64 y.f0, .string y.f1, .string y.f2, .int .i64 y.f3, .bool y.f4, .bool y.f5] RXT
  have HX := hide hX
  clear hbm hs hkm HF hwz HROW HBX q0 q1 q2 q3 q4 hX
  have hs := HBM.out.s
  dsimp only at hs
  rw [HNN.out] at hs
  obtain ⟨q0, q1, q2, q3, q4⟩ := hs.cells5
  clear hs
  go_upto_region 15 with fail
  obtain ⟨w3, hw3⟩ : ∃ w3, wm.alloc (.cells #[.int .i64 y.f0, .string y.f1, .string y.f2, .int .i64 y.f3, .bool true, .bool y.f5] RXT) = w3 := ⟨_, rfl⟩
  have hX3 := HX.out
  have hb3 := HBM.out.keep ((Keep.refl [] wm).alloc (.cells #[.int .i64 y.f0, .string y.f1, .string y.f2, .int .i64 y.f3, .bool true, .bool y.f5] RXT))
  rw [hy4] at hX3; rw [hw3] at hX3 hb3 ⊢
  have hs := hb3.s
  dsimp only at hs
  rw [HNN.out] at hs
  obtain ⟨q0, q1, q2, q3, q4⟩ := hs.cells5
  obtain ⟨x0, x1, x2, x3, x4, x5⟩ := hX3.cells6
  obtain ⟨z0', z1', z2', z3', z4', z5'⟩ := hX3.froz6
  have HB3 := hide hb3
  have HX3 := hide hX3
  have HK3 := hide (show Keep [] wm w3 from hw3 ▸ (Keep.refl [] wm).alloc _)
  clear hw3 hs hX3 hb3 HX z0 z1 z2 z3 z4 z5
  go_upto_region 19 with fail
  obtain ⟨w5, hw5⟩ : ∃ w5, w3.setCell ⟨wm.heap.size, 4, none⟩ (.bool true) = w5 := ⟨_, rfl⟩
  have hX5 := HX3.out.set 4 (.bool true)
  have hk5 := HK3.out.setCell (p := ⟨wm.heap.size, 4, none⟩) (fun h => absurd h (Nat.lt_irrefl _)) (.bool true)
  rw [hw5] at hX5 hk5 ⊢
  have hb5 := HBM.out.keep hk5
  have hs := hb5.s
  dsimp only at hs
  rw [HNN.out] at hs
  obtain ⟨q0, q1, q2, q3, q4⟩ := hs.cells5
  simp at hX5
  obtain ⟨x0, x1, x2, x3, x4, x5⟩ := hX5.cells6
  obtain ⟨z0', z1', z2', z3', z4', z5'⟩ := hX5.froz6
  have HB5 := hide hb5
  have HX5 := hide hX5
  have HK5 := hide hk5
  clear hw5 hs hX5 hb5 hk5
  have hcall := mSet (keep_below HB.out HB5.out.k) HB5.out.h hl ⟨y.f0, y.f1, y.f2, y.f3, true, y.f5⟩
  simp only [HNN.out, Vs.val] at hcall
  have HC := hide hcall
  clear hcall
  go_wp2_with fail
  refine HC.out.mono ?_
  rintro e w4 ⟨v4, rfl, hm4, hn4, hk4, hBl4⟩
  obtain ⟨hr4, hn5, hk5⟩ := bx_call HH.out HB5.out (fun k hk => Or.inl hk) hm4 hn4 hk4
  obtain ⟨hR9, hM9, hK9, hB9⟩ := bx_end hr4 hm4 hn5 hk5 hBl4 HB.out.size
  obtain ⟨B0, m0, d0, B1, m1, d1, B2, m2, d2, B3, m3, d3, rfl⟩ := hm4.form
  obtain ⟨f0, f1, f2, f3, f4⟩ := hr4.froz5
  obtain ⟨r0, r1, r2, r3, r4⟩ := hr4.cells5
  simp only [HNN.out, set5] at hR9 hM9 hK9 hB9
  have H9 := hide (And.intro hR9 (And.intro hM9 (And.intro hK9 hB9)))
  have HN5 := hide hn5
  simp only [Vs.val, HNN.out]
  clear hr4 hn5 hk5 hR9 hM9 hK9 hB9 hBl4 hm4 hn4 hk4 HC x0 x1 x2 x3 x4 x5 z0' z1' z2' z3' z4' z5' q0 q1 q2 q3 q4
  go_wp2_with fail
  obtain ⟨hR9, hM9, hK9, hB9⟩ := H9.out
  obtain ⟨w9, hw9⟩ : ∃ w9, (((((w4.setCell { block := w.heap.size + 1, off := 0 } (Value.slice B0 m0 d0)).setCell { block := w.heap.size + 1, off := 1 } (Value.slice B1 m1 d1)).setCell { block := w.heap.size + 1, off := 2 } (Value.slice B2 m2 d2)).setCell { block := w.heap.size + 1, off := 3 } (Value.int IntKind.i64 nn)).setCell { block := w.heap.size + 1, off := 4 } (Value.slice B3 m3 d3)) = w9 := ⟨_, rfl⟩
  rw [hw9] at hR9 hM9 hK9 hB9 ⊢
  obtain ⟨e0, e1, e2, e3, e4⟩ := hR9.cells5
  refine bodyPost_ret (v := .agg #[.slice B0 m0 d0, .slice B1 m1 d1, .slice B2 m2 d2, .int .i64 nn, .slice B3 m3 d3]) ?_ rfl ?_
  · simp [results, Tryd.results27, go_sem, e0, e1, e2, e3, e4]
  · exact ⟨⟨.slice B0 m0 d0, .slice B1 m1 d1, .slice B2 m2 d2, .slice B3 m3 d3⟩, rfl, hM9, HN5.out, hK9, hB9⟩
theorem ans_four {w0 w : World} {v : Vs} {x : Rx} (hB : Below w0.heap.size w0 w) (h : Rmem w0.heap.size w v x) (hl : x.O.length < 1000) (hD : x.D.length < 1000) (id code : Int) (j : Nat) (hj : j < x.O.length) (hp : place id 0 x.O = (j : Int)) (y : RX) (hy : x.O[j] = y)  :
    Calls Tryd.prog 27 #[v.val x.n, .int .i64 4, .int .i64 id, .int .i64 code] w (RPost w0 w v (x)) := by
  obtain ⟨g, n0, c0, A1, n1, c1, A2, n2, c2, A3, n3, c3, hv, hn0⟩ := h.form1 (by omega)
  have hbx := Bx.lay h
  have HF := hide (fun (w' : World) (hb : Bx w0 w w' v x) => mFind hb.h hl id)
  have HROW := hide (fun (w' : World) (hb : Bx w0 w w' v x) => hy ▸ rowR_of (base := w0.heap.size) (g := g) (n := n0) (c := c0) (by have := hb.h.o; rw [hv] at this; exact this) hj)
  have HH := hide h
  have HD1 := hide (h.dlen hD hv)
  subst hv
  have hl0 : (j : Int) < (n0 : Int) := by omega
  have HN0 := hide hn0
  simp only [hp] at HF
  have bp : decide ((j : Int) < 0) = false := by simp
  have HB := hide hB
  obtain ⟨nn, hnn⟩ : ∃ n, x.n = n := ⟨_, rfl⟩
  have HNN := hide hnn
  rw [hnn] at hbx ⊢
  simp only [Vs.val] at hbx HF ⊢
  obtain ⟨wz, hwz⟩ : ∃ wz, (w.alloc (.cells #[.slice (some ⟨g, 0, none⟩) n0 c0, .slice A1 n1 c1, .slice A2 n2 c2, .int .i64 nn, .slice A3 n3 c3] SbT)).alloc (.cells #[.slice none 0 0, .slice none 0 0, .slice none 0 0, .int .i64 0, .slice none 0 0] SbT) = wz := ⟨_, rfl⟩
  rw [hwz] at hbx
  have hs := hbx.s
  dsimp only at hs
  rw [hnn] at hs
  obtain ⟨q0, q1, q2, q3, q4⟩ := hs.cells5
  have HBX := hide hbx
  have HW := hide hwz
  clear h hB hbx hnn hs hp hn0 hy
  go_enter Tryd.func27, Tryd.ntmps27
  go_wp2_with fail
  refine (HF.out _ HBX.out).mono ?_
  rintro e wm ⟨rfl, hkm⟩
  have hbm := HBX.out.keep hkm
  obtain ⟨z0, z1, z2, z3, z4, z5⟩ := HROW.out _ hbm
  have hs := hbm.s
  dsimp only at hs
  rw [HNN.out] at hs
  obtain ⟨q0, q1, q2, q3, q4⟩ := hs.cells5
  have HBM := hide hbm
  have hX := Blk.new wm #[.int .i64 y.f0, .string y.f1, .string y.f2, .int .i64 y.f3, .bool y.f4, .bool y.f5] RXT
  have HX := hide hX
  clear hbm hs hkm HF hwz HROW HBX q0 q1 q2 q3 q4 hX
  have hs := HBM.out.s
  dsimp only at hs
  rw [HNN.out] at hs
  obtain ⟨q0, q1, q2, q3, q4⟩ := hs.cells5
  clear hs
  go_upto_region 15 with fail
  obtain ⟨w3, hw3⟩ : ∃ w3, wm.alloc (.cells #[.int .i64 y.f0, .string y.f1, .string y.f2, .int .i64 y.f3, .bool y.f4, .bool y.f5] RXT) = w3 := ⟨_, rfl⟩
  have hX3 := HX.out
  have hb3 := HBM.out.keep ((Keep.refl [] wm).alloc (.cells #[.int .i64 y.f0, .string y.f1, .string y.f2, .int .i64 y.f3, .bool y.f4, .bool y.f5] RXT))
  rw [hw3] at hX3 hb3 ⊢
  have hs := hb3.s
  dsimp only at hs
  rw [HNN.out] at hs
  obtain ⟨q0, q1, q2, q3, q4⟩ := hs.cells5
  obtain ⟨x0, x1, x2, x3, x4, x5⟩ := hX3.cells6
  obtain ⟨z0', z1', z2', z3', z4', z5'⟩ := hX3.froz6
  have HB3 := hide hb3
  have HX3 := hide hX3
  have HK3 := hide (show Keep [] wm w3 from hw3 ▸ (Keep.refl [] wm).alloc _)
  clear hw3 hs hX3 hb3 HX z0 z1 z2 z3 z4 z5
  have hE := bx_end HB3.out.r HB3.out.h (fun k hk => Or.inl hk) (Kept.of_below HB3.out.k.below _) (Keep.below_of HB.out HB3.out.k (by simp)) HB.out.size
  have hr3 := HB3.out.r
  obtain ⟨f0, f1, f2, f3, f4⟩ := hr3.froz5
  obtain ⟨r0, r1, r2, r3, r4⟩ := hr3.cells5
  simp only [HNN.out, set5] at hE
  have H9 := hide hE
  clear hr3 hE
  go_wp2_with fail
  obtain ⟨hR9, hM9, hK9, hB9⟩ := H9.out
  obtain ⟨w9, hw9⟩ : ∃ w9, (((((w3.setCell { block := w.heap.size + 1, off := 0 } (Value.slice (some ⟨g, 0, none⟩) n0 c0)).setCell { block := w.heap.size + 1, off := 1 } (Value.slice A1 n1 c1)).setCell { block := w.heap.size + 1, off := 2 } (Value.slice A2 n2 c2)).setCell { block := w.heap.size + 1, off := 3 } (Value.int IntKind.i64 nn)).setCell { block := w.heap.size + 1, off := 4 } (Value.slice A3 n3 c3)) = w9 := ⟨_, rfl⟩
  rw [hw9] at hR9 hM9 hK9 hB9 ⊢
  obtain ⟨e0, e1, e2, e3, e4⟩ := hR9.cells5
  refine bodyPost_ret (v := .agg #[.slice (some ⟨g, 0, none⟩) n0 c0, .slice A1 n1 c1, .slice A2 n2 c2, .int .i64 nn, .slice A3 n3 c3]) ?_ rfl ?_
  · simp [results, Tryd.results27, go_sem, e0, e1, e2, e3, e4]
  · exact ⟨⟨.slice (some ⟨g, 0, none⟩) n0 c0, .slice A1 n1 c1, .slice A2 n2 c2, .slice A3 n3 c3⟩, by rw [HNN.out], hM9, fun k hk => Or.inl hk, hK9, hB9⟩
theorem ans_early {w0 w : World} {v : Vs} {x : Rx} (hB : Below w0.heap.size w0 w) (h : Rmem w0.heap.size w v x) (hl : x.O.length < 1000) (hD : x.D.length < 1000) (id code : Int) (j : Nat) (hj : j < x.O.length) (hp : place id 0 x.O = (j : Int)) (y : RX) (hy : x.O[j] = y) (hy4 : y.f4 = false) :
    Calls Tryd.prog 27 #[v.val x.n, .int .i64 7, .int .i64 id, .int .i64 code] w (RPost w0 w v (x)) := by
  obtain ⟨g, n0, c0, A1, n1, c1, A2, n2, c2, A3, n3, c3, hv, hn0⟩ := h.form1 (by omega)
  have hbx := Bx.lay h
  have HF := hide (fun (w' : World) (hb : Bx w0 w w' v x) => mFind hb.h hl id)
  have HROW := hide (fun (w' : World) (hb : Bx w0 w w' v x) => hy ▸ rowR_of (base := w0.heap.size) (g := g) (n := n0) (c := c0) (by have := hb.h.o; rw [hv] at this; exact this) hj)
  have HH := hide h
  have HD1 := hide (h.dlen hD hv)
  subst hv
  have hl0 : (j : Int) < (n0 : Int) := by omega
  have HN0 := hide hn0
  simp only [hp] at HF
  have bp : decide ((j : Int) < 0) = false := by simp
  have HB := hide hB
  obtain ⟨nn, hnn⟩ : ∃ n, x.n = n := ⟨_, rfl⟩
  have HNN := hide hnn
  rw [hnn] at hbx ⊢
  simp only [Vs.val] at hbx HF ⊢
  obtain ⟨wz, hwz⟩ : ∃ wz, (w.alloc (.cells #[.slice (some ⟨g, 0, none⟩) n0 c0, .slice A1 n1 c1, .slice A2 n2 c2, .int .i64 nn, .slice A3 n3 c3] SbT)).alloc (.cells #[.slice none 0 0, .slice none 0 0, .slice none 0 0, .int .i64 0, .slice none 0 0] SbT) = wz := ⟨_, rfl⟩
  rw [hwz] at hbx
  have hs := hbx.s
  dsimp only at hs
  rw [hnn] at hs
  obtain ⟨q0, q1, q2, q3, q4⟩ := hs.cells5
  have HBX := hide hbx
  have HW := hide hwz
  clear h hB hbx hnn hs hp hn0 hy
  go_enter Tryd.func27, Tryd.ntmps27
  go_wp2_with fail
  refine (HF.out _ HBX.out).mono ?_
  rintro e wm ⟨rfl, hkm⟩
  have hbm := HBX.out.keep hkm
  obtain ⟨z0, z1, z2, z3, z4, z5⟩ := HROW.out _ hbm
  have hs := hbm.s
  dsimp only at hs
  rw [HNN.out] at hs
  obtain ⟨q0, q1, q2, q3, q4⟩ := hs.cells5
  rw [hy4] at z4
  have HBM := hide hbm
  have hX := Blk.new wm #[.int .i64 y.f0, .string y.f1, .string y.f2, .int .i64 y.f3, .bool y.f4, .bool y.f5] RXT
  have HX := hide hX
  clear hbm hs hkm HF hwz HROW HBX q0 q1 q2 q3 q4 hX
  have hs := HBM.out.s
  dsimp only at hs
  rw [HNN.out] at hs
  obtain ⟨q0, q1, q2, q3, q4⟩ := hs.cells5
  clear hs
  go_upto_region 15 with fail
  obtain ⟨w3, hw3⟩ : ∃ w3, wm.alloc (.cells #[.int .i64 y.f0, .string y.f1, .string y.f2, .int .i64 y.f3, .bool false, .bool y.f5] RXT) = w3 := ⟨_, rfl⟩
  have hX3 := HX.out
  have hb3 := HBM.out.keep ((Keep.refl [] wm).alloc (.cells #[.int .i64 y.f0, .string y.f1, .string y.f2, .int .i64 y.f3, .bool false, .bool y.f5] RXT))
  rw [hy4] at hX3; rw [hw3] at hX3 hb3 ⊢
  have hs := hb3.s
  dsimp only at hs
  rw [HNN.out] at hs
  obtain ⟨q0, q1, q2, q3, q4⟩ := hs.cells5
  obtain ⟨x0, x1, x2, x3, x4, x5⟩ := hX3.cells6
  obtain ⟨z0', z1', z2', z3', z4', z5'⟩ := hX3.froz6
  have HB3 := hide hb3
  have HX3 := hide hX3
  have HK3 := hide (show Keep [] wm w3 from hw3 ▸ (Keep.refl [] wm).alloc _)
  clear hw3 hs hX3 hb3 HX z0 z1 z2 z3 z4 z5
  have hE := bx_end HB3.out.r HB3.out.h (fun k hk => Or.inl hk) (Kept.of_below HB3.out.k.below _) (Keep.below_of HB.out HB3.out.k (by simp)) HB.out.size
  have hr3 := HB3.out.r
  obtain ⟨f0, f1, f2, f3, f4⟩ := hr3.froz5
  obtain ⟨r0, r1, r2, r3, r4⟩ := hr3.cells5
  simp only [HNN.out, set5] at hE
  have H9 := hide hE
  clear hr3 hE
  go_wp2_with fail
  obtain ⟨hR9, hM9, hK9, hB9⟩ := H9.out
  obtain ⟨w9, hw9⟩ : ∃ w9, (((((w3.setCell { block := w.heap.size + 1, off := 0 } (Value.slice (some ⟨g, 0, none⟩) n0 c0)).setCell { block := w.heap.size + 1, off := 1 } (Value.slice A1 n1 c1)).setCell { block := w.heap.size + 1, off := 2 } (Value.slice A2 n2 c2)).setCell { block := w.heap.size + 1, off := 3 } (Value.int IntKind.i64 nn)).setCell { block := w.heap.size + 1, off := 4 } (Value.slice A3 n3 c3)) = w9 := ⟨_, rfl⟩
  rw [hw9] at hR9 hM9 hK9 hB9 ⊢
  obtain ⟨e0, e1, e2, e3, e4⟩ := hR9.cells5
  refine bodyPost_ret (v := .agg #[.slice (some ⟨g, 0, none⟩) n0 c0, .slice A1 n1 c1, .slice A2 n2 c2, .int .i64 nn, .slice A3 n3 c3]) ?_ rfl ?_
  · simp [results, Tryd.results27, go_sem, e0, e1, e2, e3, e4]
  · exact ⟨⟨.slice (some ⟨g, 0, none⟩) n0 c0, .slice A1 n1 c1, .slice A2 n2 c2, .slice A3 n3 c3⟩, by rw [HNN.out], hM9, fun k hk => Or.inl hk, hK9, hB9⟩
end R25
end Go.Proofs.YtjhhnidfmoejdaaDoor
