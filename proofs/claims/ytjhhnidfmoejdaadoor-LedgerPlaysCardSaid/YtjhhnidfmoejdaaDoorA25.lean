import Derived.Test.YtjhhnidfmoejdaaDoorLf
import Derived.Test.YtjhhnidfmoejdaaDoorBox
namespace Go.Proofs.YtjhhnidfmoejdaaDoor
open Go.RowKit Go.Proofs.YtjhhnidfmoejdaaDoor.PLedgerPlays Go.Proofs.YtjhhnidfmoejdaaDoorW.PrintWords Go.Proofs.YtjhhnidfmoejdaaDoorW.PrintLast
set_option maxRecDepth 10000
set_option linter.unusedVariables false
set_option maxHeartbeats 2000000
def one (id : Int) (x : Option SX) (dn : List SX) (er : List BA) : Lg := ⟨upM (fun _ => none) id x, dn, [], 0, er⟩
theorem one_ok {id : Int} {x : Option SX} {dn : List SX} {er : List BA} (h1 : dn.length ≤ 10) (h2 : er.length ≤ 10) (h3 : ∀ y, x = some y → 0 ≤ y.f3 ∧ y.f3 ≤ 10) : (one id x dn er).Ok 10 :=
  ⟨h2, h1, fun k y hy => by
    simp only [one, upM] at hy
    split at hy
    · exact h3 y hy
    · cases hy⟩
theorem one_sup {id : Int} {x : Option SX} {dn : List SX} {er : List BA} : ∀ k, (one id x dn er).M k ≠ none → k ∈ [id] := fun k hk => by
  simp only [one, upM] at hk
  split at hk
  · rename_i e; simp [e]
  · exact absurd rfl hk
theorem new_ok : Lg.new.Ok 10 := ⟨by simp [Lg.new], by simp [Lg.new], fun k x h => by simp [Lg.new] at h⟩
theorem one_at {id : Int} {x : Option SX} {dn : List SX} {er : List BA} : (one id x dn er).M id = x := by simp [one, upM]
theorem one_new {id : Int} {tp pl : BA} : Lg.new.sent false 2 id tp pl = one id (some ⟨id, tp, pl, 1, false, false⟩) [] [] := by simp [Lg.sent, Lg.new, one]
theorem one_up {id : Int} {x y : Option SX} {dn : List SX} {er : List BA} : upM (one id x dn er).M id y = (one id y dn er).M := upM_upM _ _ _ _
theorem one_none {L : List Int} {id : Int} {dn : List SX} {er : List BA} (h : ∀ k, k ∈ L ↔ (one id none dn er).M k ≠ none) : L = [] := by
  cases L with
  | nil => rfl
  | cons a t => exact absurd (show (one id none dn er).M a = none by simp [one, upM]) ((h a).1 (by simp))
theorem own_str_at {base : Nat} {w : World} {v : Value} {l : List BA} (h : Own Kd.string StrT base w v l) {j : Nat} (hj : j < l.length) :
    ∃ g cap, v = .slice (some ⟨g, 0, none⟩) l.length cap ∧ g < w.heap.size ∧ w.cell? ⟨g, j, none⟩ = some (.string l[j]) := by
  obtain ⟨g, cap, hv, _, hg⟩ := h.form (by omega)
  obtain ⟨A, c, hv', _, hC⟩ := h.reads
  rw [hv] at hv'
  cases hv'
  obtain ⟨ad, c1, e, hc1, hK, hcell⟩ := Kd.C_get hC ByteArray.empty (j : Int) (by omega) (by omega)
  cases e
  have hK' : c1 = [.string (l.getD (j : Int).toNat ByteArray.empty)] := hK
  subst hK'
  have := hcell 0 _ rfl
  rw [show (j : Int).toNat = j by omega, add_plain, show (Kd.string).sz = 1 from rfl] at this
  refine ⟨g, _, hv, hg, ?_⟩
  simpa [List.getD, hj] using this
section
variable {id : Int} {x : SX} {dn : List SX} {er : List BA}
theorem one_h5 (code : Int) : (one id (some x) dn er).heard 5 id code = if code < 128 ∨ x.f4 = true then one id (some { x with f4 := true }) dn er else one id none dn er := by
  unfold Lg.heard
  rw [if_neg (by decide), one_at]
  simp only [if_true, one_up]
  split <;> rfl
theorem one_h7 (code : Int) (hx : x.f4 = true) : (one id (some x) dn er).heard 7 id code = one id none (dn ++ [{ x with f5 := true }]) er := by
  unfold Lg.heard
  rw [if_neg (by decide), one_at]
  simp only [show ¬ (7 : Int) = 5 by decide, if_false, hx, and_self, if_true, one_up]
  rfl
theorem one_when (tp pl : BA) (hx : x.f4 = true) : (one id (some x) dn er).sent true 2 id tp pl = one id (some x) dn (er ++ [msg sWhen id]) := by
  unfold Lg.sent
  rw [if_neg (by simp), one_at]
  simp only [Bool.true_eq_false, if_false, hx, if_true]
  rfl
theorem one_rel (code : Int) (hx : x.f4 = true) : (one id (some x) dn er).rel id code = one id (some x) dn er := by
  unfold Lg.rel
  rw [one_at]
  simp [hx]
end
abbrev sA : BA := ⟨#[97]⟩
theorem dig_one : dig 1 = ⟨#[49]⟩ := by
  unfold dig Lib.itoa
  rw [if_neg (by omega), Lib.decDigits_one (by decide)]
  rfl
theorem msg_one : msg sWhen 1 = ⟨#[115, 101, 110, 116, 32, 119, 104, 101, 110, 32, 114, 101, 99, 101, 105, 118, 101, 100, 32, 49]⟩ := by
  unfold msg
  rw [dig_one]
  rfl
theorem awake25 (w : World) (hT : Tab w) : Calls Tryd.prog 5 #[] w fun e w' => e = .returned (.bool true) ∧ Keep [] w w' := by
  go_enter Tryd.func5, Tryd.ntmps5
  go_wp2_with fail
  refine (rNew (Below.refl _ _)).mono ?_
  rintro e w1 ⟨n, rfl, h1, hk1⟩
  go_wp2_with fail
  have hX := Blk.new w1 (pubC false false 2 1 none 0 0 sA ByteArray.empty) PkPb
  have h2 := h1.add ((Keep.refl [] w1).alloc (.cells (pubC false false 2 1 none 0 0 sA ByteArray.empty) PkPb)) (b := w1.heap.size) (Nat.le_refl _) (by simp)
  have hsz := h1.below.size
  refine (rSaidPub hT h2 new_ok (by omega) false false 2 1 (by omega) (by omega) none 0 0 sA ByteArray.empty).mono ?_
  rintro e w3 ⟨rfl, h3, hb3⟩
  rw [one_new] at h3
  have hX3 := hX.of_block (hb3 _ (by simp))
  clear hb3 h2 h1 hX
  go_wp2_with fail
  refine (rHeardAck h3 (one_ok (by simp) (by simp) (fun y hy => by cases hy; simp)) (by omega) 5 1 0 (by omega) none 0 0).mono ?_
  rintro e w4 ⟨rfl, h4, hb4⟩
  rw [one_h5, if_pos (by simp)] at h4
  have hX4 := hX3.of_block (hb4 _ (by simp))
  clear hb4 h3 hX3
  have f0 := hX4.frozen 0 (by simp)
  have g0 : w4.cell? ⟨w1.heap.size, 0, none⟩ = some (.bool false) := hX4.cell 0
  have hX5 : Blk (w4.setCell ⟨w1.heap.size, 0, none⟩ (.bool true)) w1.heap.size (pubC true false 2 1 none 0 0 sA ByteArray.empty) PkPb := by
    have := hX4.set 0 (.bool true)
    simpa using this
  have h5 := h4.other ((Keep.refl [w1.heap.size] w4).setCell (p := ⟨w1.heap.size, 0, none⟩) (fun _ => by simp) (.bool true)) (by simp) (by simpa using hsz)
  obtain ⟨y0, y1, y2, y3, y4, y5, y6⟩ := hX5.cells7
  have HX5 := hide hX5
  have H5 := hide h5
  clear hX5 h5 h4
  go_wp2_with fail
  refine (rSaidPub hT H5.out (one_ok (by simp) (by simp) (fun y hy => by cases hy; simp)) (by omega) true false 2 1 (by omega) (by omega) none 0 0 sA ByteArray.empty).mono ?_
  rintro e w6 ⟨rfl, h6, hb6⟩
  rw [one_when _ _ rfl] at h6
  clear hb6 y0 y1 y2 y3 y4 y5 y6 f0 g0 hX4
  go_wp2_with fail
  refine (rSaidRel hT h6 (one_ok (by simp) (by simp) (fun y hy => by cases hy; simp)) (by omega) 1 0 (by omega) (by omega) none 0 0).mono ?_
  rintro e w7 ⟨rfl, h7, hb7⟩
  rw [one_rel _ rfl] at h7
  clear hb7 h6
  go_wp2_with fail
  refine (rHeardAck h7 (one_ok (by simp) (by simp) (fun y hy => by cases hy; simp)) (by omega) 7 1 0 (by omega) none 0 0).mono ?_
  rintro e w8 ⟨rfl, h8, hb8⟩
  rw [one_h7 _ rfl] at h8
  clear hb8 h7
  go_wp2_with fail
  refine (rErrs h8 (by simp [one])).mono ?_
  rintro e w9 ⟨v9, rfl, hO9, hk9⟩
  have h9 := h8.keep hk9
  clear h8
  obtain ⟨g, cap, rfl, hg, hc9⟩ := own_str_at hO9 (j := 0) (by simp [one])
  have hc9' : w9.cell? ⟨g, 0, none⟩ = some (.string (msg sWhen 1)) := hc9
  rw [msg_one] at hc9'
  clear hc9 hO9
  go_wp2_with fail
  refine (rDone h9 (by simp [one])).mono ?_
  rintro e w10 ⟨v10, rfl, hO10, hk10⟩
  have h10 := h9.keep hk10
  clear h9
  have hc10 := ((hk10.cell (p := ⟨g, 0, none⟩) hg (by simp)).trans hc9')
  have hg10 := Nat.lt_of_lt_of_le hg hk10.size
  obtain ⟨A10, c10, rfl⟩ := hO10.slice
  clear hO10 hc9'
  go_wp2_with fail
  refine (rOpen h10 one_sup (by simp)).mono ?_
  rintro e w11 ⟨⟨v11, L⟩, rfl, hp11, hm11, hO11, hk11⟩
  have hL := one_none hm11
  subst hL
  have hc11 := ((hk11.cell (p := ⟨g, 0, none⟩) hg10 (by simp)).trans hc10)
  have hB := (h10.keep hk11).below
  obtain ⟨A11, c11, hv⟩ := hO11.slice
  simp only [List.map_nil, List.length_nil] at hv
  subst hv
  have HB := hide hB
  clear hO11 h10 hm11 hp11 hc10 hB
  go_wp2_with fail
  go_ret
  exact ⟨rfl, Keep.of_below HB.out⟩
end Go.Proofs.YtjhhnidfmoejdaaDoor
