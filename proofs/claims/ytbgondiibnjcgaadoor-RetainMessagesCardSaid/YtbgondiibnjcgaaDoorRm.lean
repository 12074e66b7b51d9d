import Derived.Test.YtbgondiibnjcgaaDoorNest
import Derived.Test.YtbgondiibnjcgaaDoorTop
import Derived.Test.YtbgondiibnjcgaaDoorDf
namespace Go.Proofs.YtbgondiibnjcgaaDoor
open Go.RowKit Go.Shelf Go.Proofs.YtbgondiibnjcgaaDoor.PRetainPlays Go.Proofs.YtbgondiibnjcgaaDoorW.PrintWords Go.Proofs.YtbgondiibnjcgaaDoorW.PrintLast
set_option maxRecDepth 100000
set_option linter.unusedVariables false
set_option maxHeartbeats 1000000
def toM (m : Rm) : SM := ⟨m.fr, m.at_, m.q, m.rt, m.ps, m.tp, m.pl⟩
def isTold (hs : List (BA × Rm)) (f : BA) (now : Int) (k : BA) : Bool := topM f k && !goneM now ((AL.get hs k).getD Rm.zero)
def matchR (hs : List (BA × Rm)) (f : BA) (now : Int) (L : List BA) : List SM := (L.filter (isTold hs f now)).map fun k => toM ((AL.get hs k).getD Rm.zero)
theorem matchR_snoc (hs : List (BA × Rm)) (f : BA) (now : Int) (L : List BA) (k : BA) : matchR hs f now (L ++ [k]) = matchR hs f now L ++ if isTold hs f now k then [toM ((AL.get hs k).getD Rm.zero)] else [] := by
  unfold matchR
  rw [List.filter_append, List.map_append]
  cases h : isTold hs f now k <;> simp [h]
theorem matchR_len (hs : List (BA × Rm)) (f : BA) (now : Int) (L : List BA) : (matchR hs f now L).length ≤ L.length := by
  unfold matchR; rw [List.length_map]; exact List.length_filter_le _ _
def rmRel (wS : World) (hs : List (BA × Rm)) (f : BA) (now : Int) (L : List BA) (o i : Value) (wr : World) : Prop :=
  ∃ j : Nat, i = .int .i64 j ∧ j ≤ L.length ∧ Own kMs MsT wS.heap.size wr o (matchR hs f now (L.take j)) ∧ Keep [] wS wr
theorem rMatch {W w : World} {n b : Nat} {most : Int} {hs : List (BA × Rm)} (h : Rs W w n b most hs) (f : BA) (now : Int) (hf : f.size < 1000000) (hks : ∀ p ∈ hs, p.1.size < 1000000) (hl : hs.length < 1000000) (hmx : MaxLenAt w) :
    Calls Tryd.prog 16 #[.pointer (some ⟨n, 0, none⟩), .string f, .int .i64 now] w (Px fun (x : Value × List BA) e w' => e = .returned x.1 ∧ Own kMs MsT w.heap.size w' x.1 (matchR hs f now x.2) ∧ KeysOfS x.2 hs ∧ Keep [] w w') := by
  have c0 : w.cell? ⟨n, 0, none⟩ = some (.map (some b)) := h.box.cell 0
  have hml : maxLen ≥ 1000000 := by decide
  have HSO := hide (sortedS_any w b hs h.map (fun p hp => by have := hks p hp; omega) hl)
  have HKE := hide (keysS_any b w)
  have HH := hide h
  have HKS := hide hks
  have HM := hide hmx
  have HWl := hide (show 0 < w.heap.size from by obtain ⟨m, hm⟩ := hmx; exact World.block_lt_of_cell? _ _ hm)
  have HL := hide hl
  clear h hks hmx hml hl
  go_enter Tryd.func16, Tryd.ntmps16
  go_wp2_with fail
  refine HKE.out.mono ?_
  rintro e w1 ⟨rfl, rfl⟩
  go_wp2_with fail
  refine HSO.out.mono ?_
  rintro e wS ⟨⟨vk, L⟩, rfl, hrow, hko, hKS⟩
  simp only at hrow hko hKS
  have hk1 : Keep [] w (w.alloc (.cells #[.map (some b)] 81)) := (Keep.refl [] w).alloc _
  have hKw := hk1.then hKS
  have hOk := own_strs hrow
  obtain ⟨Ak, capk, rfl⟩ := hOk.slice
  have hLl : L.length < 1000000 := by have := hko.1.length_eq; have := HL.out; simp at *; omega
  have hS := HH.out.keep hKw
  have hMxS := HM.out.keep hKw (by simp)
  have HKO := hide hko
  have HKW := hide hKw
  have HSS := hide hS
  have HMX := hide hMxS
  have HOK := hide hOk
  have hszS := hKw.size
  clear hrow hko hKS hk1 hKw hOk hS hMxS c0
  go_wp2_with fail
  go_loopw [7, 18] (fun o i wr => rmRel wS hs f now L o i wr) (fun _ i _ => L.length - (intOf i).toNat)
  case atStart => exact ⟨0, rfl, by omega, Own.nil _ _ _ _, Keep.refl _ _⟩
  case round =>
    obtain ⟨j, rfl, hj, hO, hK⟩ := hrel
    have hsz := hK.size
    by_cases hlt2 : j < L.length
    · obtain ⟨g, cap, hv, hg, ck⟩ := own_str_at (HOK.out.keep hK (by simp)) hlt2
      have hA : Ak = some ⟨g, 0, none⟩ := by injection hv
      subst hA
      clear hv
      have ht : L.take (j + 1) = L.take j ++ [L[j]] := by rw [List.take_succ_eq_append_getElem hlt2]
      have hkm : L[j] ∈ hs.map (·.1) := HKO.out.1.mem_iff.1 (List.getElem_mem hlt2)
      obtain ⟨k, hk⟩ : ∃ k, L[j] = k := ⟨_, rfl⟩
      rw [hk] at ck ht hkm
      obtain ⟨p, hp, hpk⟩ := List.mem_map.1 hkm
      have hkz := HKS.out p hp
      rw [hpk] at hkz
      have hin : (AL.get hs k).isSome = true := AL.get_isSome.2 hkm
      have hr := HSS.out.keep hK
      have hcn : wr.cell? ⟨n, 0, none⟩ = some (.map (some b)) := hr.box.cell 0
      have look := lookR hr k false
      have hit : isTold hs f now k = (topM f k && !goneM now ((AL.get hs k).getD Rm.zero)) := rfl
      have hms := matchR_snoc hs f now (L.take j) k
      rw [← ht] at hms
      obtain ⟨x, hx⟩ : ∃ x, (AL.get hs k).getD Rm.zero = x := ⟨_, rfl⟩
      have hxm : (k, x) ∈ hs := by
        cases hg2 : AL.get hs k with
        | none => rw [hg2] at hin; cases hin
        | some y => rw [hg2] at hx; cases hx; exact get_mem2 hg2
      rw [hx] at look hit hms
      have hOx := hr.own _ hxm
      have hplx := hr.plen _ hxm
      obtain ⟨m0, m1, m2, m3, m4, mv, m5, m6⟩ := x
      simp only at hOx hplx
      obtain ⟨xA, xc, rfl⟩ := hOx.slice
      simp only [rmV, Bool.false_eq_true, if_false] at look
      have hka := (Keep.refl [] wr).alloc (.cells #[.string m0, .int .i64 m1, .int .u8 m2, .bool m3, .slice xA m4.length xc, .string m5, .string m6] MsT)
      have hX := Blk.new wr #[.string m0, .int .i64 m1, .int .u8 m2, .bool m3, .slice xA m4.length xc, .string m5, .string m6] MsT
      have hmt := hide (match_any f k hf hkz ((HMX.out.keep hK (by simp)).keep hka (by simp)))
      have hgo := hide (fun (w' : World) (hk : Keep [] wr w') => mgone (hOx.keep hk (by simp)) (by omega) m0 m5 m6 m1 m2 m3 now)
      have hcl := hide (fun (w' : World) (hk : Keep [] wr w') => clonePr (hOx.keep hk (by simp)) (by omega))
      obtain ⟨nl, hnl⟩ : ∃ nl, m4.length = nl := ⟨_, rfl⟩
      rw [hnl] at look hka hX hmt hgo hcl
      obtain ⟨tp, htp⟩ : ∃ r, topM f k = r := ⟨_, rfl⟩
      obtain ⟨go, hgo2⟩ : ∃ r, goneV m1 m4 now = r := ⟨_, rfl⟩
      have hgm : ∀ v, goneM now ⟨m0, m1, m2, m3, m4, v, m5, m6⟩ = go := fun v => hgo2
      rw [htp] at hmt hit
      rw [hgm] at hit
      rw [hgo2] at hgo
      have HIT := hide hit
      have HMS := hide hms
      have HO := hide hO
      have HK := hide hK
      have HX := hide hX
      have HKA := hide hka
      have HNL := hide hnl
      have HPL := hide hplx
      have hlt3 : (j : Int) < (L.length : Int) := by omega
      have HLT := hide hlt2
      clear hx hxm hin hit hms hOx hplx hnl hgm hgo2 htp hO hK hX hka hpk hkm hk ht hr hlt2
      go_wp2_with fail
      refine hmt.out.mono ?_
      rintro e w2 ⟨_, rfl, hk2⟩
      have hX2 := HX.out.keep hk2 (by simp)
      have q0 := hX2.cell 0
      have q1 := hX2.cell 1
      have q2 := hX2.cell 2
      have q3 := hX2.cell 3
      have q4 := hX2.cell 4
      have q5 := hX2.cell 5
      have q6 := hX2.cell 6
      simp at q0 q1 q2 q3 q4 q5 q6
      have HX2 := hide hX2
      have HK2 := hide hk2
      clear hX2 hk2
      cases tp
      ·
        go_wp2_with fail
        have h5 := HIT.out
        simp at h5
        have h6 := HMS.out
        rw [h5] at h6
        simp at h6
        go_roundw
        case rel =>
          refine ⟨j + 1, by simp, by have := HLT.out; omega, ?_, (HK.out.then HKA.out).then HK2.out⟩
          rw [h6]
          exact HO.out.keep (HKA.out.then HK2.out) (by simp)
        case measure => have := HLT.out; simp [intOf]; omega
      · go_wp2_with fail
        refine (hgo.out _ (HKA.out.then HK2.out)).mono ?_
        rintro e w3 ⟨rfl, hk3⟩
        have hX3 := HX2.out.keep hk3 (by simp)
        have q4' := hX3.cell 4
        simp at q4'
        have HX3 := hide hX3
        have HK3 := hide hk3
        clear hX3 hk3 q0 q1 q2 q3 q4 q5 q6
        cases go
        ·
          have h5 := HIT.out
          simp at h5
          have h6 := HMS.out
          rw [h5] at h6
          simp only [if_true] at h6
          have HMS2 := hide h6
          clear h5 h6
          go_wp2_with fail
          refine (hcl.out _ ((HKA.out.then HK2.out).then HK3.out)).mono ?_
          rintro e w4 ⟨v2, rfl, hOv, hk4⟩
          obtain ⟨A2, c2, rfl⟩ := hOv.slice
          have hX4 := HX3.out.keep hk4 (by simp)
          have f4 := hX4.frozen 4 (by simp)
          have q0 := hX4.cell 0
          have q1 := hX4.cell 1
          have q2 := hX4.cell 2
          have q3 := hX4.cell 3
          have q4 := hX4.cell 4
          have q5 := hX4.cell 5
          have q6 := hX4.cell 6
          simp at q0 q1 q2 q3 q4 q5 q6
          obtain ⟨w5, hw5⟩ : ∃ w5, w4.setCell ⟨wr.heap.size, 4, none⟩ (.slice A2 m4.length c2) = w5 := ⟨_, rfl⟩
          have hX5 := hX4.set 4 (.slice A2 m4.length c2)
          have hk45 : Keep [wr.heap.size] w4 (w4.setCell ⟨wr.heap.size, 4, none⟩ (.slice A2 m4.length c2)) := (Keep.refl _ w4).setCell (by simp) _
          rw [hw5] at hX5 hk45
          have hkr4 : Keep [] wr w4 := (((HKA.out.then HK2.out).then HK3.out).then hk4)
          have hkr5 : Keep [] wr w5 := hkr4.trans hk45 (by simp) (fun x hx hlt => by simp at hx; omega)
          have hO5 := HO.out.keep hkr5 (by simp)
          have hOv5 := (hOv.keep hk45 (by simp; exact not_of_blk hX4 (by decide))).lower (base' := wS.heap.size) (by have := HKA.out.size; have := HK2.out.size; have := HK3.out.size; omega)
          have hR5 := Own.apart hOv5 hO5 (by decide) _ (fun k h => h) rfl
          have g0 := hX5.cell 0
          have g1 := hX5.cell 1
          have g2 := hX5.cell 2
          have g3 := hX5.cell 3
          have g4 := hX5.cell 4
          have g5 := hX5.cell 5
          have g6 := hX5.cell 6
          simp at g0 g1 g2 g3 g4 g5 g6
          have hmll := matchR_len hs f now (L.take j)
          have htl : (L.take j).length ≤ L.length := by simp; omega
          have hbd : ((matchR hs f now (L.take j)).length + 1) * 88 ≤ 140737488355328 := by omega
          have hb5 : wS.heap.size ≤ w5.heap.size := by have := hkr5.size; omega
          have HR5 := hide hR5
          have HO5 := hide hO5
          have HK5 := hide hkr5
          have HBD := hide hbd
          have HB5 := hide hb5
          clear hX4 hX5 hk45 hkr4 hkr5 hO5 hOv5 hR5 hOv hk4 hmll htl hbd hb5
          go_wp2_with (at_builtin; refine Own.append_nest kMs (W := w5) wS.heap.size rfl (.tmp 41) (.tmp 43) 36 MsT _ _ rfl Tryd.underlying36 infoMs rfl (by decide) (by decide) _ (matchR hs f now (L.take j)) ⟨m0, m1, m2, m3, m4, m5, m6⟩ _ rfl _ (by simp) rfl (k25_mkM _ _ _ _ HR5.out) HO5.out HB5.out HBD.out ?_; intro v1 w7 hO7 hg7 hr7)
          refine ⟨⟨j + 1, by simp, by have := HLT.out; omega, ?_, (HK.out.then HK5.out).grown_at hg7 hr7⟩, by have := HLT.out; simp [intOf]; omega⟩
          rw [HMS2.out]
          exact hO7
        · have h5 := HIT.out
          simp at h5
          have h6 := HMS.out
          rw [h5] at h6
          simp at h6
          have HMS2 := hide h6
          clear h5 h6
          go_wp2_with fail
          go_roundw
          case rel =>
            refine ⟨j + 1, by simp, by have := HLT.out; omega, ?_, ((HK.out.then HKA.out).then HK2.out).then HK3.out⟩
            rw [HMS2.out]
            exact HO.out.keep ((HKA.out.then HK2.out).then HK3.out) (by simp)
          case measure => have := HLT.out; simp [intOf]; omega
    · obtain rfl : j = L.length := by omega
      rw [List.take_length] at hO
      have HO := hide hO
      clear hO
      go_wp2_with fail
      go_ret
      exact ⟨⟨_, L⟩, rfl, HO.out.lower hszS, HKO.out, HKW.out.then hK⟩
end Go.Proofs.YtbgondiibnjcgaaDoor
