import Derived.Test.YtbgondiibnjcgaaDoorLayR
import Derived.Test.YtbgondiibnjcgaaDoorPh
import Derived.Test.YtbgondiibnjcgaaDoorKd
import Derived.Shelf.Strings.SplitShaped
namespace Go.Proofs.YtbgondiibnjcgaaDoor
open Go.RowKit Go.Proofs.YtbgondiibnjcgaaDoorW.PrintWords Go.Proofs.YtbgondiibnjcgaaDoorW.PrintLast
set_option maxRecDepth 10000
set_option linter.unusedVariables false
set_option maxHeartbeats 1000000
abbrev BAT : Type := ByteArray
def slashB : ByteArray := ⟨#[47]⟩
def levels (s : ByteArray) : List ByteArray := Lib.splitB slashB 0 (Lib.countB s slashB) s
theorem levels_length (s : ByteArray) : (levels s).length = Lib.countB s slashB + 1 := Lib.splitB_all slashB (by decide) 0 _ s rfl
theorem levels_le (s : ByteArray) : (levels s).length ≤ s.size + 1 := by rw [levels_length]; have := Lib.countB_le slashB (by decide) s.size s (Nat.le_refl _); omega
def MaxLenAt (w : World) : Prop := ∃ m, w.cell? ⟨0, 0, none⟩ = some (.int .i64 m)
theorem MaxLenAt.keep {S : List Nat} {w w' : World} (h : MaxLenAt w) (hk : Keep S w w') (h0 : 0 ∉ S) : MaxLenAt w' := by
  obtain ⟨m, hm⟩ := h
  refine ⟨m, ?_⟩
  have hlt : 0 < w.heap.size := by
    rcases Nat.eq_zero_or_pos w.heap.size with e | e
    · exfalso
      have : w.heap[0]? = none := by simp [e]
      simp [World.cell?, this] at hm
    · exact e
  rw [← hm]
  exact hk.cell (p := ⟨0, 0, none⟩) hlt h0
theorem levels_any {w : World} (s : ByteArray) (hs : s.size < 4294967281) (hM : MaxLenAt w) :
    Calls Tryd.prog 51 #[.string s] w (Px fun (_ : Unit) e w' => e = .returned (.slice (some ⟨w.heap.size, 0, none⟩) (levels s).length (levels s).length) ∧ w' = w.alloc (.cells ((levels s).map Value.string).toArray 9)) := by
  obtain ⟨m, hm⟩ := hM
  have c := Any.strings_Split { Tryd.split with } Tryd.split.i9 s slashB m w hs hm (by decide)
  rw [show Lib.countB s slashB + 1 = (levels s).length from (levels_length s).symm] at c
  obtain ⟨ls, hls⟩ : ∃ ls, levels s = ls := ⟨_, rfl⟩
  rw [show Lib.splitB slashB 0 (Lib.countB s slashB) s = ls from hls, hls] at c
  rw [hls]
  have C := hide c
  clear c hls
  go_enter Tryd.func51, Tryd.ntmps51
  go_wp2_with fail
  refine C.out.mono ?_
  rintro e w' ⟨rfl, hw⟩
  have HW := hide hw
  clear hw
  go_wp2_with fail
  go_ret
  exact ⟨(), rfl, HW.out⟩
def oneB : ByteArray := ⟨#[43]⟩
def restB : ByteArray := ⟨#[35]⟩
def meetsL : List ByteArray → List ByteArray → Bool
  | [], n => n.isEmpty
  | x :: f, n => if x = restB ∧ f = [] then true else match n with
    | [] => false
    | y :: n => if x ≠ oneB ∧ x ≠ y then false else meetsL f n
def hid (name : ByteArray) : Bool := decide (1 ≤ name.size) && ((name.extract 0 1).toList == (⟨#[36]⟩ : ByteArray).toList)
def topM (filter name : ByteArray) : Bool := if hid name = true ∧ ((levels filter).getD 0 oneB = oneB ∨ (levels filter).getD 0 oneB = restB) then false else meetsL (levels filter) (levels name)
open Go.Proofs.YtbgondiibnjcgaaDoor.PRetainPlays in
theorem hid_f (name : ByteArray) : topic_Hidden.f name = some (hid name) := by
  unfold topic_Hidden.f strings_HasPrefix.f stringslite_HasPrefix.f hid
  have h1 : ((⟨#[36]⟩ : ByteArray).size : Int) = 1 := rfl
  rw [h1]
  by_cases h : 1 ≤ name.size
  · rw [if_pos (by omega), if_pos (by omega), if_pos (by omega), decide_eq_true h]; simp
  · rw [if_neg (by omega), decide_eq_false h]; rfl
theorem tl_eq {a b : ByteArray} : a.toList = b.toList ↔ a = b := by
  rw [ByteArray.toList_eq, ByteArray.toList_eq]
  refine ⟨fun h => ?_, fun h => by rw [h]⟩
  cases a; cases b; congr; exact Array.toList_inj.1 h
theorem tl_rest : restB.toList = [35] := by rw [ByteArray.toList_eq]; rfl
theorem tl_one : oneB.toList = [43] := by rw [ByteArray.toList_eq]; rfl
theorem is_rest {x : ByteArray} (h : x = restB) : x.toList = [35] := by rw [h, tl_rest]
theorem not_rest {x : ByteArray} (h : x ≠ restB) : ¬ x.toList = [35] := by rw [← tl_rest, tl_eq]; exact h
theorem is_one {x : ByteArray} (h : x = oneB) : x.toList = [43] := by rw [h, tl_one]
theorem not_one {x : ByteArray} (h : x ≠ oneB) : ¬ x.toList = [43] := by rw [← tl_one, tl_eq]; exact h
def matRel (w0 w2 : World) (F M : List ByteArray) (r : Bool) (i : Value) (wr : World) : Prop := ∃ k : Nat, i = .int .i64 k ∧ k ≤ F.length ∧ k ≤ M.length ∧ Keep [] w0 wr ∧ Keep [] w2 wr ∧ meetsL (F.drop k) (M.drop k) = r
open Go.Proofs.YtbgondiibnjcgaaDoor.PRetainPlays in
theorem match_any {w : World} (filter name : ByteArray) (hf : filter.size < 1000000) (hn : name.size < 1000000) (hM : MaxLenAt w) :
    Calls Tryd.prog 41 #[.string filter, .string name] w (Px fun (_ : Unit) e w' => e = .returned (.bool (topM filter name)) ∧ Keep [] w w') := by
  have HT : ∃ r, topM filter name = r := ⟨_, rfl⟩
  obtain ⟨r, hr⟩ := HT
  rw [hr]
  unfold topM at hr
  have c1 := levels_any filter (by omega) hM
  obtain ⟨F, hF⟩ : ∃ F, levels filter = F := ⟨_, rfl⟩
  have hFl : F.length ≤ filter.size + 1 := by rw [← hF]; exact levels_le _
  have hF0 : 0 < F.length := by rw [← hF, levels_length]; omega
  rw [hF] at c1 hr
  obtain ⟨w1, hw1⟩ : ∃ w1, w.alloc (.cells (F.map Value.string).toArray 9) = w1 := ⟨_, rfl⟩
  have hB1 : Blk w1 w.heap.size (F.map Value.string).toArray 9 := by rw [← hw1]; exact Blk.new w _ _
  have hk1 : Keep [] w w1 := by rw [← hw1]; exact (Keep.refl [] w).alloc _
  rw [hw1] at c1
  have c2 := levels_any name (by omega) (hM.keep hk1 (by simp))
  obtain ⟨M, hMm⟩ : ∃ M, levels name = M := ⟨_, rfl⟩
  have hMl : M.length ≤ name.size + 1 := by rw [← hMm]; exact levels_le _
  rw [hMm] at c2 hr
  obtain ⟨w2, hw2⟩ : ∃ w2, w1.alloc (.cells (M.map Value.string).toArray 9) = w2 := ⟨_, rfl⟩
  have hB2 : Blk w2 w1.heap.size (M.map Value.string).toArray 9 := by rw [← hw2]; exact Blk.new w1 _ _
  have hk2 : Keep [] w1 w2 := by rw [← hw2]; exact (Keep.refl [] w1).alloc _
  rw [hw2] at c2
  have c3 := topic_Hidden.calls name _ w2 (hid_f name)
  obtain ⟨hd, hhd⟩ : ∃ hd, hid name = hd := ⟨_, rfl⟩
  rw [hhd] at c3 hr
  have hB1' := hB1.keep hk2 (by simp)
  clear hw1 hw2 hF hMm hhd hM
  obtain ⟨b1, hb1⟩ : ∃ b, w.heap.size = b := ⟨_, rfl⟩
  obtain ⟨b2, hb2⟩ : ∃ b, w1.heap.size = b := ⟨_, rfl⟩
  rw [hb1] at c1 hB1 hB1'
  rw [hb2] at c2 hB2
  have HK := hide (hk1.then hk2)
  have C1 := hide c1
  have C2 := hide c2
  have C3 := hide c3
  have HR := hide hr
  have B1 := hide hB1'
  have B2 := hide hB2
  have HW := hide hb1
  have HW2 := hide hb2
  clear c1 c2 c3 hr hB1 hB1' hB2 hk1 hk2 hb1 hb2
  have f00 : w2.cell? ⟨b1, 0, none⟩ = some (.string F[0]) := by rw [B1.out.cell 0]; simp [hF0]
  go_enter Tryd.func41, Tryd.ntmps41
  go_wp2_with fail
  refine C1.out.mono ?_
  rintro e w' ⟨_, rfl, rfl⟩
  go_wp2_with fail
  refine C2.out.mono ?_
  rintro e w' ⟨_, rfl, rfl⟩
  go_wp2_with fail
  cases hd with
  | false =>
    have hr2 : meetsL F M = r := by have := HR.out; rwa [if_neg (by simp)] at this
    have HR := hide hr2
    clear hr2
    refine C3.out.mono ?_
    rintro e w9 ⟨rfl, hd9⟩
    have HK9 := hide (HK.out.then (Keep.of_below hd9.below))
    have hK29 := hide (Keep.of_below hd9.below)
    go_wp2_with fail
    go_loopw [29] (fun i wr => matRel w w' F M r i wr) (fun i _ => F.length - (intOf i).toNat)
    case atStart => exact ⟨0, rfl, by omega, by omega, HK9.out, hK29.out, by rw [List.drop_zero, List.drop_zero]; exact HR.out⟩
    case round =>
      obtain ⟨k, rfl, hk, hkM, hK0, hK, hm⟩ := hrel
      have HM := hide hm
      have HK0 := hide hK0
      have HKk := hide hK
      clear hm
      by_cases hlt : k < F.length
      · have hlt4 : ((k : Int) < (F.length : Int)) := by omega
        obtain ⟨x, hx⟩ : ∃ x, F[k] = x := ⟨_, rfl⟩
        have cF : wr.cell? ⟨b1, k, none⟩ = some (.string x) := by rw [hK.cell (p := ⟨b1, k, none⟩) B1.out.lt (by simp), B1.out.cell k]; simp [hlt, hx]
        have hdF : F.drop k = x :: F.drop (k + 1) := by rw [List.drop_eq_getElem_cons hlt, hx]
        have HDF := hide hdF
        have HLT := hide hlt
        clear hdF hK hK0 hx
        by_cases hR : x = restB ∧ k + 1 = F.length
        · have e1 := is_rest hR.1
          have e2 : ((k : Int) == (F.length : Int) - 1) = true := by have := hR.2; simp; omega
          have hrt : r = true := by
            rw [← HM.out, HDF.out, show F.drop (k + 1) = [] from List.drop_eq_nil_of_le (by omega)]
            unfold meetsL
            rw [if_pos ⟨hR.1, rfl⟩]
          subst hrt
          clear hR hlt
          go_wp2_with fail
          go_ret
          exact ⟨(), rfl, HK0.out⟩
        · have hne : ¬ (x = restB ∧ F.drop (k + 1) = []) := fun e => hR ⟨e.1, by have := List.drop_eq_nil_iff.1 e.2; omega⟩
          have HNE := hide hne
          by_cases hkl : k < M.length
          · obtain ⟨y, hy⟩ : ∃ y, M[k] = y := ⟨_, rfl⟩
            have cM : wr.cell? ⟨b2, k, none⟩ = some (.string y) := by rw [HKk.out.cell (p := ⟨b2, k, none⟩) B2.out.lt (by simp), B2.out.cell k]; simp [hkl, hy]
            have hdM : M.drop k = y :: M.drop (k + 1) := by rw [List.drop_eq_getElem_cons hkl, hy]
            have g1 : ¬ ((M.length : Int) ≤ (k : Int)) := by omega
            have g1b : decide ((M.length : Int) ≤ (k : Int)) = false := decide_eq_false g1
            have hstep : meetsL (F.drop k) (M.drop k) = if x ≠ oneB ∧ x ≠ y then false else meetsL (F.drop (k + 1)) (M.drop (k + 1)) := by
              rw [HDF.out, hdM]
              conv => lhs; unfold meetsL
              rw [if_neg hne]
            rw [HM.out] at hstep
            have HST := hide hstep
            have HKL := hide hkl
            clear hstep hdM hy hne hkl
            by_cases hxr : x = restB
            · have e1 := is_rest hxr
              have e2 : ((k : Int) == (F.length : Int) - 1) = false := by
                have : k + 1 ≠ F.length := fun e => hR ⟨hxr, e⟩
                simp; omega
              have hxx : x.toList = [35] := e1
              have HXX := hide hxx
              have HXO := hide (show x ≠ oneB from fun e => by rw [e, tl_one] at e1; exact absurd e1 (by decide))
              have e3 : ([35] == ([43] : List UInt8)) = false := by decide
              by_cases hxy : [35] = y.toList
              · have e4b : ([35] == y.toList) = true := beq_iff_eq.2 hxy
                have HXY := hide (show x = y from tl_eq.1 (hxx.trans hxy))
                clear hR hlt hxr hxy hxx
                go_wp2_with fail
                exact ⟨⟨k + 1, rfl, by have := HLT.out; omega, by have := HKL.out; omega, HK0.out, HKk.out, by rw [HST.out, if_neg (fun e => e.2 HXY.out)]⟩, by have := HLT.out; simp [intOf] <;> omega⟩
              · have e4b : ([35] == y.toList) = false := by rw [beq_eq_false_iff_ne]; exact hxy
                have hrt : r = false := by rw [HST.out, if_pos ⟨HXO.out, fun e => hxy (by rw [← e]; exact HXX.out.symm)⟩]
                subst hrt
                clear hR hlt hxr hxy hxx
                go_wp2_with fail
                go_ret
                exact ⟨(), rfl, HK0.out⟩
            · have e1 := not_rest hxr
              by_cases ho : x = oneB
              · have e3 := is_one ho
                have HO := hide ho
                clear ho
                clear hR hlt hxr
                go_wp2_with fail
                exact ⟨⟨k + 1, rfl, by have := HLT.out; omega, by have := HKL.out; omega, HK0.out, HKk.out, by rw [HST.out, if_neg (fun e => e.1 HO.out)]⟩, by have := HLT.out; simp [intOf] <;> omega⟩
              · have e3 := not_one ho
                have e3b := beq_eq_false_iff_ne.2 e3
                have HO := hide ho
                clear ho
                by_cases hxy : x = y
                · have e4 : x.toList = y.toList := tl_eq.2 hxy
                  have e4b : (x.toList == y.toList) = true := beq_iff_eq.2 e4
                  clear e4
                  have HXY := hide hxy
                  clear hxy
                  clear hR hlt hxr
                  go_wp2_with fail
                  exact ⟨⟨k + 1, rfl, by have := HLT.out; omega, by have := HKL.out; omega, HK0.out, HKk.out, by rw [HST.out, if_neg (fun e => e.2 HXY.out)]⟩, by have := HLT.out; simp [intOf] <;> omega⟩
                · have e4 : ¬ x.toList = y.toList := fun e => hxy (tl_eq.1 e)
                  have e4b : (x.toList == y.toList) = false := by rw [beq_eq_false_iff_ne]; exact e4
                  clear e4
                  have HXY := hide hxy
                  clear hxy
                  have hrt : r = false := by rw [HST.out, if_pos ⟨HO.out, HXY.out⟩]
                  subst hrt
                  clear hR hlt hxr
                  go_wp2_with fail
                  go_ret
                  exact ⟨(), rfl, HK0.out⟩
          · have g1 : ((M.length : Int) ≤ (k : Int)) := by omega
            have g1b : decide ((M.length : Int) ≤ (k : Int)) = true := decide_eq_true g1
            have hrt : r = false := by
              rw [← HM.out, HDF.out, show M.drop k = [] from List.drop_eq_nil_of_le (by omega)]
              unfold meetsL
              rw [if_neg hne]
            subst hrt
            clear hne hkl
            by_cases hxr : x = restB
            · have e1 := is_rest hxr
              have e2 : ((k : Int) == (F.length : Int) - 1) = false := by
                have : k + 1 ≠ F.length := fun e => hR ⟨hxr, e⟩
                simp; omega
              clear hR hlt hxr
              go_wp2_with fail
              go_ret
              exact ⟨(), rfl, HK0.out⟩
            · have e1 := not_rest hxr
              clear hR hlt hxr
              go_wp2_with fail
              go_ret
              exact ⟨(), rfl, HK0.out⟩
      · obtain rfl : k = F.length := by omega
        have hlt4 : ¬ ((F.length : Int) < (F.length : Int)) := by omega
        have hlt5 : decide ((F.length : Int) < (F.length : Int)) = false := decide_eq_false hlt4
        have hq : ((F.length : Int) == (M.length : Int)) = r := by
          rw [← HM.out, List.drop_length]
          unfold meetsL
          by_cases e : F.length = M.length
          · rw [e, List.drop_length]; simp
          · have h1 : ((F.length : Int) == (M.length : Int)) = false := by simp; omega
            rw [h1]
            cases h : M.drop F.length with
            | nil => have := List.drop_eq_nil_iff.1 h; omega
            | cons a l => rfl
        clear hlt hK hK0
        go_wp2_with fail
        go_ret
        exact ⟨(), rfl, HK0.out⟩
  | true =>
    have f0 : F.getD 0 oneB = F[0] := by simp [List.getD, hF0]
    obtain ⟨x0, hx0⟩ : ∃ x, F[0] = x := ⟨_, rfl⟩
    rw [hx0] at f00 f0
    have hr := HR.out
    rw [f0] at hr
    clear HR f0 hx0
    refine C3.out.mono ?_
    rintro e w9 ⟨rfl, hd9⟩
    have HK9 := hide (HK.out.then (Keep.of_below hd9.below))
    have hK29 := hide (Keep.of_below hd9.below)
    have f09 : w9.cell? ⟨b1, 0, none⟩ = some (.string x0) := by rw [hK29.out.cell (p := ⟨b1, 0, none⟩) B1.out.lt (by simp)]; exact f00
    clear f00
    by_cases ho : x0 = oneB
    · obtain rfl : false = r := by rw [if_pos ⟨rfl, .inl ho⟩] at hr; exact hr
      have e3 := is_one ho
      clear ho hr
      go_wp2_with fail
      go_ret
      exact ⟨(), rfl, HK9.out⟩
    · have e3 := not_one ho
      have e3b := beq_eq_false_iff_ne.2 e3
      by_cases hxr : x0 = restB
      · obtain rfl : false = r := by rw [if_pos ⟨rfl, .inr hxr⟩] at hr; exact hr
        have e1 := is_rest hxr
        have e4 : ([35] == ([43] : List UInt8)) = false := by decide
        clear ho hr hxr e3 e3b
        go_wp2_with fail
        go_ret
        exact ⟨(), rfl, HK9.out⟩
      · have e1 := not_rest hxr
        have e1b := beq_eq_false_iff_ne.2 e1
        have hr2 : meetsL F M = r := by rwa [if_neg (fun e => e.2.elim ho hxr)] at hr
        have HR := hide hr2
        clear hr2 hr ho hxr
        go_wp2_with fail
        clear e1 e3 e1b e3b
        go_loopw [29] (fun i wr => matRel w w' F M r i wr) (fun i _ => F.length - (intOf i).toNat)
        case atStart => exact ⟨0, rfl, by omega, by omega, HK9.out, hK29.out, by rw [List.drop_zero, List.drop_zero]; exact HR.out⟩
        case round =>
          obtain ⟨k, rfl, hk, hkM, hK0, hK, hm⟩ := hrel
          have HM := hide hm
          have HK0 := hide hK0
          have HKk := hide hK
          clear hm
          by_cases hlt : k < F.length
          · have hlt4 : ((k : Int) < (F.length : Int)) := by omega
            obtain ⟨x, hx⟩ : ∃ x, F[k] = x := ⟨_, rfl⟩
            have cF : wr.cell? ⟨b1, k, none⟩ = some (.string x) := by rw [hK.cell (p := ⟨b1, k, none⟩) B1.out.lt (by simp), B1.out.cell k]; simp [hlt, hx]
            have hdF : F.drop k = x :: F.drop (k + 1) := by rw [List.drop_eq_getElem_cons hlt, hx]
            have HDF := hide hdF
            have HLT := hide hlt
            clear hdF hK hK0 hx
            by_cases hR : x = restB ∧ k + 1 = F.length
            · have e1 := is_rest hR.1
              have e2 : ((k : Int) == (F.length : Int) - 1) = true := by have := hR.2; simp; omega
              have hrt : r = true := by
                rw [← HM.out, HDF.out, show F.drop (k + 1) = [] from List.drop_eq_nil_of_le (by omega)]
                unfold meetsL
                rw [if_pos ⟨hR.1, rfl⟩]
              subst hrt
              clear hR hlt
              go_wp2_with fail
              go_ret
              exact ⟨(), rfl, HK0.out⟩
            · have hne : ¬ (x = restB ∧ F.drop (k + 1) = []) := fun e => hR ⟨e.1, by have := List.drop_eq_nil_iff.1 e.2; omega⟩
              have HNE := hide hne
              by_cases hkl : k < M.length
              · obtain ⟨y, hy⟩ : ∃ y, M[k] = y := ⟨_, rfl⟩
                have cM : wr.cell? ⟨b2, k, none⟩ = some (.string y) := by rw [HKk.out.cell (p := ⟨b2, k, none⟩) B2.out.lt (by simp), B2.out.cell k]; simp [hkl, hy]
                have hdM : M.drop k = y :: M.drop (k + 1) := by rw [List.drop_eq_getElem_cons hkl, hy]
                have g1 : ¬ ((M.length : Int) ≤ (k : Int)) := by omega
                have g1b : decide ((M.length : Int) ≤ (k : Int)) = false := decide_eq_false g1
                have hstep : meetsL (F.drop k) (M.drop k) = if x ≠ oneB ∧ x ≠ y then false else meetsL (F.drop (k + 1)) (M.drop (k + 1)) := by
                  rw [HDF.out, hdM]
                  conv => lhs; unfold meetsL
                  rw [if_neg hne]
                rw [HM.out] at hstep
                have HST := hide hstep
                have HKL := hide hkl
                clear hstep hdM hy hne hkl
                by_cases hxr : x = restB
                · have e1 := is_rest hxr
                  have e2 : ((k : Int) == (F.length : Int) - 1) = false := by
                    have : k + 1 ≠ F.length := fun e => hR ⟨hxr, e⟩
                    simp; omega
                  have hxx : x.toList = [35] := e1
                  have HXX := hide hxx
                  have HXO := hide (show x ≠ oneB from fun e => by rw [e, tl_one] at e1; exact absurd e1 (by decide))
                  have e3 : ([35] == ([43] : List UInt8)) = false := by decide
                  by_cases hxy : [35] = y.toList
                  · have e4b : ([35] == y.toList) = true := beq_iff_eq.2 hxy
                    have HXY := hide (show x = y from tl_eq.1 (hxx.trans hxy))
                    clear hR hlt hxr hxy hxx
                    go_wp2_with fail
                    exact ⟨⟨k + 1, rfl, by have := HLT.out; omega, by have := HKL.out; omega, HK0.out, HKk.out, by rw [HST.out, if_neg (fun e => e.2 HXY.out)]⟩, by have := HLT.out; simp [intOf] <;> omega⟩
                  · have e4b : ([35] == y.toList) = false := by rw [beq_eq_false_iff_ne]; exact hxy
                    have hrt : r = false := by rw [HST.out, if_pos ⟨HXO.out, fun e => hxy (by rw [← e]; exact HXX.out.symm)⟩]
                    subst hrt
                    clear hR hlt hxr hxy hxx
                    go_wp2_with fail
                    go_ret
                    exact ⟨(), rfl, HK0.out⟩
                · have e1 := not_rest hxr
                  by_cases ho : x = oneB
                  · have e3 := is_one ho
                    have HO := hide ho
                    clear ho
                    clear hR hlt hxr
                    go_wp2_with fail
                    exact ⟨⟨k + 1, rfl, by have := HLT.out; omega, by have := HKL.out; omega, HK0.out, HKk.out, by rw [HST.out, if_neg (fun e => e.1 HO.out)]⟩, by have := HLT.out; simp [intOf] <;> omega⟩
                  · have e3 := not_one ho
                    have e3b := beq_eq_false_iff_ne.2 e3
                    have HO := hide ho
                    clear ho
                    by_cases hxy : x = y
                    · have e4 : x.toList = y.toList := tl_eq.2 hxy
                      have e4b : (x.toList == y.toList) = true := beq_iff_eq.2 e4
                      clear e4
                      have HXY := hide hxy
                      clear hxy
                      clear hR hlt hxr
                      go_wp2_with fail
                      exact ⟨⟨k + 1, rfl, by have := HLT.out; omega, by have := HKL.out; omega, HK0.out, HKk.out, by rw [HST.out, if_neg (fun e => e.2 HXY.out)]⟩, by have := HLT.out; simp [intOf] <;> omega⟩
                    · have e4 : ¬ x.toList = y.toList := fun e => hxy (tl_eq.1 e)
                      have e4b : (x.toList == y.toList) = false := by rw [beq_eq_false_iff_ne]; exact e4
                      clear e4
                      have HXY := hide hxy
                      clear hxy
                      have hrt : r = false := by rw [HST.out, if_pos ⟨HO.out, HXY.out⟩]
                      subst hrt
                      clear hR hlt hxr
                      go_wp2_with fail
                      go_ret
                      exact ⟨(), rfl, HK0.out⟩
              · have g1 : ((M.length : Int) ≤ (k : Int)) := by omega
                have g1b : decide ((M.length : Int) ≤ (k : Int)) = true := decide_eq_true g1
                have hrt : r = false := by
                  rw [← HM.out, HDF.out, show M.drop k = [] from List.drop_eq_nil_of_le (by omega)]
                  unfold meetsL
                  rw [if_neg hne]
                subst hrt
                clear hne hkl
                by_cases hxr : x = restB
                · have e1 := is_rest hxr
                  have e2 : ((k : Int) == (F.length : Int) - 1) = false := by
                    have : k + 1 ≠ F.length := fun e => hR ⟨hxr, e⟩
                    simp; omega
                  clear hR hlt hxr
                  go_wp2_with fail
                  go_ret
                  exact ⟨(), rfl, HK0.out⟩
                · have e1 := not_rest hxr
                  clear hR hlt hxr
                  go_wp2_with fail
                  go_ret
                  exact ⟨(), rfl, HK0.out⟩
          · obtain rfl : k = F.length := by omega
            have hlt4 : ¬ ((F.length : Int) < (F.length : Int)) := by omega
            have hlt5 : decide ((F.length : Int) < (F.length : Int)) = false := decide_eq_false hlt4
            have hq : ((F.length : Int) == (M.length : Int)) = r := by
              rw [← HM.out, List.drop_length]
              unfold meetsL
              by_cases e : F.length = M.length
              · rw [e, List.drop_length]; simp
              · have h1 : ((F.length : Int) == (M.length : Int)) = false := by simp; omega
                rw [h1]
                cases h : M.drop F.length with
                | nil => have := List.drop_eq_nil_iff.1 h; omega
                | cons a l => rfl
            clear hlt hK hK0
            go_wp2_with fail
            go_ret
            exact ⟨(), rfl, HK0.out⟩
end Go.Proofs.YtbgondiibnjcgaaDoor
