/- LedgerRefused. -/
import Derived.Test.YtjhhnidfmoejdaaDoorA25
namespace Go.Proofs.YtjhhnidfmoejdaaDoor
open Go.RowKit Go.Proofs.YtjhhnidfmoejdaaDoor.PLedgerPlays Go.Proofs.YtjhhnidfmoejdaaDoorW.PrintWords Go.Proofs.YtjhhnidfmoejdaaDoorW.PrintLast
set_option maxRecDepth 10000
set_option linter.unusedVariables false
set_option linter.unusedSimpArgs false
set_option maxHeartbeats 2000000

theorem or_high (c : Int) (h0 : 0 ≤ c) (h1 : c ≤ 255) : ¬ bits .or .u8 c 128 < 128 := by
  have h : ∀ n : Fin 256, ¬ bits .or .u8 ((n.val : Nat) : Int) 128 < 128 := by decide +kernel
  have := h ⟨c.toNat, by omega⟩
  simpa [Int.toNat_of_nonneg h0] using this

abbrev sT : BA := ⟨#[116]⟩

theorem tab_of_laid {W : World} {x y : String × DataW Unit} {rest : List (String × DataW Unit)} (h : laidMet Tryd.prog (x :: y :: ("internal/strconv.uint64pow10", Lib.tabData .u64 Lib.pow10Tab) :: rest) W) : Tab W :=
  Lib.tabBelow_of_tabIs (Lib.tabIs_of_head (g := 0) (t := 126) (e := 112) (n := 20) (by kernel_rfl) (by kernel_rfl) (by kernel_rfl) (by kernel_rfl) (by kernel_rfl) (by kernel_rfl) (laid_tail (laid_tail h)))

theorem tabd : (Rows.laid_internal_strconv_uint64pow10 : DataW Unit) = Lib.tabData .u64 Lib.pow10Tab := by kernel_rfl
theorem tab_row {W : World} (h : laidMet Tryd.prog Rows.ledgerRefusedRow.laid W) : Tab W := by
  have h' : laidMet Tryd.prog [("math/bits.deBruijn32tab", Rows.laid_math_bits_deBruijn32tab), ("math/bits.deBruijn64tab", Rows.laid_math_bits_deBruijn64tab), ("internal/strconv.uint64pow10", Rows.laid_internal_strconv_uint64pow10)] W := h
  rw [tabd] at h'
  exact tab_of_laid h'

theorem refused_walk (id : Int) (took : Bool) (code : Int) (w : World) (w0 : (Lit.int .u32 id).wf = true) (w2 : (Lit.int .u8 code).wf = true) (hT : Tab w) :
    Calls Tryd.prog 3 #[.int .u32 id, .bool took, .int .u8 code] w fun e w' => e = .returned (.bool true) ∧ Below w.heap.size w w' := by
  have hi : 0 ≤ id ∧ id ≤ 4294967295 := by
    have := w0
    simp [Lit.wf, IntKind.min, IntKind.max, IntKind.signed, IntKind.bits] at this
    omega
  have hc : 0 ≤ code ∧ code ≤ 255 := by
    have := w2
    simp [Lit.wf, IntKind.min, IntKind.max, IntKind.signed, IntKind.bits] at this
    omega
  have hor := hide (or_high code hc.1 hc.2)
  have HI := hide hi
  clear hi hc w0 w2
  cases took
  · go_enter Tryd.func3, Tryd.ntmps3
    go_wp2_with fail
    refine (awake25 w hT).mono ?_
    rintro e wa ⟨rfl, hka⟩
    go_wp2_with fail
    refine (rNew hka.below).mono ?_
    rintro e w1 ⟨n, rfl, h1, hk1⟩
    go_wp2_with fail
    have hX := Blk.new w1 (pubC false false 2 id none 0 0 sT ByteArray.empty) PkPb
    have h2 := h1.add ((Keep.refl [] w1).alloc (.cells (pubC false false 2 id none 0 0 sT ByteArray.empty) PkPb)) (b := w1.heap.size) (Nat.le_refl _) (by simp)
    refine (rSaidPub hT h2 new_ok (by omega) false false 2 id HI.out.1 HI.out.2 none 0 0 sT ByteArray.empty).mono ?_
    rintro e w3 ⟨rfl, h3, hb3⟩
    rw [one_new] at h3
    have hX3 := hX.of_block (hb3 _ (by simp))
    clear hb3 h2 h1 hX hk1 hka
    go_wp2_with fail
    refine (rHeardAck h3 (one_ok (by simp) (by simp) (fun y hy => by cases hy; simp)) (by omega) 5 id _ (by omega) none 0 0).mono ?_
    rintro e w4 ⟨rfl, h4, hb⟩
    rw [one_h5, if_neg (by have := hor.out; simp; simpa using this)] at h4
    have hX4 := hX3.of_block (hb _ (by simp))
    clear hb h3 hX3
    go_wp2_with fail
    refine (rOpen h4 one_sup (by simp)).mono ?_
    rintro e w5 ⟨⟨vw5, Lw5⟩, rfl, hp, hm, hO, hk⟩
    have hL := one_none hm
    subst hL
    have h5 := h4.keep hk
    obtain ⟨Aw5, cw5, hv⟩ := hO.slice
    simp only [List.map_nil, List.map_cons, List.length_nil, List.length_cons, Nat.zero_add] at hv
    subst hv
    have hX5 := hX4.keep hk (by simp)
    clear hX4
    clear hO hm hp hk h4
    obtain ⟨y0, y1, y2, y3, y4, y5, y6⟩ := hX5.cells7
    have HX := hide hX5
    clear hX5
    go_wp2_with fail
    refine (rSaidPub hT h5 (one_ok (by simp) (by simp) (fun y hy => by cases hy <;> simp)) (by omega) false false 2 id HI.out.1 HI.out.2 none 0 0 sT ByteArray.empty).mono ?_
    rintro e w6 ⟨rfl, h6, hb6⟩
    rw [one_again] at h6
    clear hb6 y0 y1 y2 y3 y4 y5 y6 h5
    go_wp2_with fail
    refine (rErrs h6 (by simp [one])).mono ?_
    rintro e w7 ⟨v7, rfl, hO7, hk7⟩
    have h7 := h6.keep hk7
    obtain ⟨A7, c7, rfl⟩ := hO7.slice
    clear hO7 h6 hk7
    go_wp2_with fail
    refine (rOpen h7 one_sup (by simp)).mono ?_
    rintro e w8 ⟨⟨vw8, Lw8⟩, rfl, hp, hm, hO, hk⟩
    have hL := one_some hp hm
    subst hL
    have h8 := h7.keep hk
    obtain ⟨Aw8, cw8, hv⟩ := hO.slice
    simp only [List.map_nil, List.map_cons, List.length_nil, List.length_cons, Nat.zero_add] at hv
    subst hv
    clear hO hm hp hk h7
    have HB := hide h8.below
    clear h8
    go_wp2_with fail
    go_ret
    exact ⟨rfl, HB.out⟩
  · go_enter Tryd.func3, Tryd.ntmps3
    go_wp2_with fail
    refine (awake25 w hT).mono ?_
    rintro e wa ⟨rfl, hka⟩
    go_wp2_with fail
    refine (rNew hka.below).mono ?_
    rintro e w1 ⟨n, rfl, h1, hk1⟩
    go_wp2_with fail
    have hX := Blk.new w1 (pubC false false 2 id none 0 0 sT ByteArray.empty) PkPb
    have h2 := h1.add ((Keep.refl [] w1).alloc (.cells (pubC false false 2 id none 0 0 sT ByteArray.empty) PkPb)) (b := w1.heap.size) (Nat.le_refl _) (by simp)
    refine (rSaidPub hT h2 new_ok (by omega) false false 2 id HI.out.1 HI.out.2 none 0 0 sT ByteArray.empty).mono ?_
    rintro e w3 ⟨rfl, h3, hb3⟩
    rw [one_new] at h3
    have hX3 := hX.of_block (hb3 _ (by simp))
    clear hb3 h2 h1 hX hk1 hka
    go_wp2_with fail
    refine (rHeardAck h3 (one_ok (by simp) (by simp) (fun y hy => by cases hy; simp)) (by omega) 5 id _ (by omega) none 0 0).mono ?_
    rintro e w4 ⟨rfl, h4, hb⟩
    rw [one_h5, if_pos (by simp)] at h4
    have hX4 := hX3.of_block (hb _ (by simp))
    clear hb h3 hX3
    go_wp2_with fail
    refine (rHeardAck h4 (one_ok (by simp) (by simp) (fun y hy => by cases hy; simp)) (by omega) 5 id _ (by omega) none 0 0).mono ?_
    rintro e w9 ⟨rfl, h9, hb⟩
    rw [one_h5, if_pos (by simp)] at h9
    have hX9 := hX4.of_block (hb _ (by simp))
    clear hb h4 hX4
    go_wp2_with fail
    refine (rOpen h9 one_sup (by simp)).mono ?_
    rintro e w5 ⟨⟨vw5, Lw5⟩, rfl, hp, hm, hO, hk⟩
    have hL := one_some hp hm
    subst hL
    have h5 := h9.keep hk
    obtain ⟨Aw5, cw5, hv⟩ := hO.slice
    simp only [List.map_nil, List.map_cons, List.length_nil, List.length_cons, Nat.zero_add] at hv
    subst hv
    have hX5 := hX9.keep hk (by simp)
    clear hX9
    clear hO hm hp hk h9
    obtain ⟨y0, y1, y2, y3, y4, y5, y6⟩ := hX5.cells7
    have HX := hide hX5
    clear hX5
    go_wp2_with fail
    refine (rSaidPub hT h5 (one_ok (by simp) (by simp) (fun y hy => by cases hy <;> simp)) (by omega) false false 2 id HI.out.1 HI.out.2 none 0 0 sT ByteArray.empty).mono ?_
    rintro e w6 ⟨rfl, h6, hb6⟩
    rw [one_twice] at h6
    clear hb6 y0 y1 y2 y3 y4 y5 y6 h5
    go_wp2_with fail
    refine (rErrs h6 (by simp [one])).mono ?_
    rintro e w7 ⟨v7, rfl, hO7, hk7⟩
    have h7 := h6.keep hk7
    obtain ⟨A7, c7, rfl⟩ := hO7.slice
    clear hO7 h6 hk7
    go_wp2_with fail
    refine (rDone h7 (by simp [one])).mono ?_
    rintro e w8 ⟨v8, rfl, hO8, hk8⟩
    have h8 := h7.keep hk8
    obtain ⟨A8, c8, rfl⟩ := hO8.slice
    clear hO8 h7 hk8
    have HB := hide h8.below
    clear h8
    go_wp2_with fail
    go_ret
    exact ⟨rfl, HB.out⟩
end Go.Proofs.YtjhhnidfmoejdaaDoor
