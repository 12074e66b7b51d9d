import Derived.Test.YtbgondiibnjcgaaDoorU12
import Derived.Test.YtbgondiibnjcgaaDoorA12
namespace Go.Proofs.YtbgondiibnjcgaaDoor
open Go.RowKit Go.Shelf Go.Proofs.YtbgondiibnjcgaaDoor.PRetainPlays Go.Proofs.YtbgondiibnjcgaaDoorW.PrintWords Go.Proofs.YtbgondiibnjcgaaDoorW.PrintLast
set_option maxRecDepth 10000
set_option linter.unusedVariables false
set_option maxHeartbeats 1000000
attribute [local go_sem] Go.Proofs.YtbgondiibnjcgaaDoorW.PrintMore.max2_int
namespace R12
theorem empty_of {v : BA} (h : v.size = 0) : v = ⟨#[]⟩ := by
  cases v with | mk d => cases d with | mk l => cases l with
  | nil => rfl
  | cons a t => exact absurd h (by simp [ByteArray.size])
def errOf (r : Bool) : Int := if r then 0 else 6
structure PS (W w : World) (n b j : Nat) (most : Int) (hs : List (BA × Rm)) (l : List RM) : Prop where
  rs : Rs W w n b most hs
  rel : Rel hs l
  ks : ∀ p ∈ hs, p.1.size ≤ 30
  hl : hs.length ≤ j
theorem Pl.set {W w : World} {n b j : Nat} {most : Int} {hs : List (BA × Rm)} {l : List RM} {v : Value} (h : Pl W w n b j most hs l v) (fr tp pl : BA) (at_ q : Int) (rt : Bool) {base : Nat} {A : Option Addr} {c : Nat} {ps : List SP} (ho : Own kPr PrT base w (.slice A ps.length c) ps) (hl : ps.length ≤ 100) (ht : tp.size ≤ 30) :
    Calls Tryd.prog 15 #[.pointer (some ⟨n, 0, none⟩), .agg #[.string fr, .int .i64 at_, .int .u8 q, .bool rt, .slice A ps.length c, .string tp, .string pl]] w (Px fun (hs' : List (BA × Rm)) e w' => e = .returned (.int .i64 (errOf (setR l ⟨fr, at_, q, rt, ps.map toP, tp, pl⟩ most).2)) ∧ PS W w' n b (j + 1) most hs' (setR l ⟨fr, at_, q, rt, ps.map toP, tp, pl⟩ most).1 ∧ Keep [b] w w') := by
  have hlen := h.len
  have hhl := h.hl
  by_cases hp : pl.size = 0
  · obtain rfl := empty_of hp
    have hs1 : setR l ⟨fr, at_, q, rt, ps.map toP, tp, ⟨#[]⟩⟩ most = (woR l tp, true) := if_pos rfl
    rw [hs1]
    refine (rSetNone h.rs fr tp at_ q rt A ps.length c).mono ?_
    rintro e w' ⟨rfl, h2, hk⟩
    exact ⟨_, rfl, ⟨h2, h.rel.del h.nd tp, fun p hp => h.ks p (mem_del hp), by have := AL.length_del hs tp; split at * <;> omega⟩, hk⟩
  · have hhas := h.rel.has tp
    by_cases hfull : (AL.get hs tp).isSome = false ∧ most ≤ hs.length
    · obtain ⟨hno, hmo⟩ := hfull
      have hn : AL.get hs tp = none := by cases hg : AL.get hs tp with | none => rfl | some x => rw [hg] at hno; cases hno
      rw [hno] at hhas
      have hw : (woR l tp).length = l.length := by
        have := hhas.symm
        simpa using this
      have hs1 : setR l ⟨fr, at_, q, rt, ps.map toP, tp, pl⟩ most = (l, false) := by
        unfold setR; rw [if_neg hp, if_pos ⟨hw, by omega⟩]
      rw [hs1]
      refine (rSetFull h.rs fr tp at_ q rt A ps.length c pl hp hn hmo).mono ?_
      rintro e w' ⟨rfl, h2, hk⟩
      exact ⟨_, rfl, ⟨h2, h.rel, h.ks, by omega⟩, hk.mono (by simp)⟩
    · have hroom : (AL.get hs tp).isSome = true ∨ (hs.length : Int) < most := by
        cases hg : (AL.get hs tp).isSome with
        | true => exact Or.inl rfl
        | false => exact Or.inr (by by_cases h5 : most ≤ hs.length; exact absurd ⟨hg, h5⟩ hfull; omega)
      have hs1 : setR l ⟨fr, at_, q, rt, ps.map toP, tp, pl⟩ most = (insR ⟨fr, at_, q, rt, ps.map toP, tp, pl⟩ (woR l tp), true) := by
        unfold setR
        rw [if_neg hp, if_neg]
        rintro ⟨h1, h2⟩
        rcases hroom with h3 | h3
        · rw [hhas] at h3
          simp at h3
          exact h3 h1
        · omega
      rw [hs1]
      refine (rSetStore h.rs fr tp at_ q rt A ps c pl hp ho hl hroom).mono ?_
      rintro e w' ⟨v2, rfl, h2, hk⟩
      refine ⟨_, rfl, ⟨h2, h.rel.put tp ⟨fr, at_, q, rt, ps, v2, tp, pl⟩ rfl, fun p hp => ?_, ?_⟩, hk⟩
      · rcases mem_set hp with rfl | hp
        · exact ht
        · exact h.ks p hp
      · have := AL.length_set hs tp (⟨fr, at_, q, rt, ps, v2, tp, pl⟩ : Rm)
        split at * <;> omega
theorem Pl.expire {W w : World} {n b j : Nat} {most : Int} {hs : List (BA × Rm)} {l : List RM} {v : Value} (h : Pl W w n b j most hs l v) (now : Int) (hj : j < 1000000) :
    Calls Tryd.prog 31 #[.pointer (some ⟨n, 0, none⟩), .int .i64 now] w (Px fun (hs' : List (BA × Rm)) e w' => e = .returned (.int .i64 ((l.length : Int) - ((l.filter fun m => !goneR now m).length : Int))) ∧ PS W w' n b j most hs' (l.filter fun m => !goneR now m) ∧ Keep [b] w w') := by
  have hhl := h.hl
  have hrel := h.rel.expire h.nd now
  have hn2 : ((hs.filter fun p => !goneM now p.2).map (·.1)).Nodup := h.nd.sublist (List.filter_sublist.map _)
  have hl2 := hrel.len hn2
  refine (rExpire h.rs now (by omega)).mono ?_
  rintro e w' ⟨rfl, h2, hk⟩
  refine ⟨_, by rw [h.len, hl2], ⟨h2, hrel, fun p hp => h.ks p (List.mem_filter.1 hp).1, ?_⟩, hk⟩
  exact Nat.le_trans (List.length_filter_le _ _) hhl
theorem Pl.match {W w : World} {n b j : Nat} {most : Int} {hs : List (BA × Rm)} {l : List RM} {v : Value} (h : Pl W w n b j most hs l v) (f : BA) (now : Int) (hf : f.size ≤ 100) (hj : j < 1000000) (hmx : MaxLenAt w) :
    Calls Tryd.prog 16 #[.pointer (some ⟨n, 0, none⟩), .string f, .int .i64 now] w (Px fun (x : Value × List SM) e w' => e = .returned x.1 ∧ Own kMs MsT w.heap.size w' x.1 x.2 ∧ (l.filter fun m => topM f m.f5 && !goneR now m) = x.2.map toR ∧ (∀ m ∈ x.2, m.f4.length ≤ 100) ∧ x.2.length ≤ l.length ∧ Keep [] w w') := by
  have hhl := h.hl
  refine (rMatch h.rs f now (by omega) (fun p hp => by have := h.ks p hp; omega) (by omega) hmx).mono ?_
  rintro e w' ⟨⟨v2, L⟩, rfl, hO, hL, hk⟩
  simp only at hO hL
  have ht := h.rel.told h.nd hL f now
  refine ⟨⟨v2, matchR hs f now L⟩, rfl, hO, ht, fun m hm => ?_, ?_, hk⟩
  · unfold matchR at hm
    obtain ⟨k, _, rfl⟩ := List.mem_map.1 hm
    show ((AL.get hs k).getD Rm.zero).ps.length ≤ 100
    cases hg : AL.get hs k with
    | none => exact Nat.zero_le _
    | some x => exact h.rs.plen _ (get_mem2 hg)
  · have := congrArg List.length ht
    rw [List.length_map] at this
    exact Nat.le_trans (Nat.le_of_eq this.symm) (List.length_filter_le _ l)
theorem PS.pl {W w : World} {n b j : Nat} {most : Int} {hs : List (BA × Rm)} {l : List RM} {v : Value} (h : PS W w n b j most hs l) (hv : LV w b v l) (hk : Keep [] W w) : Pl W w n b j most hs l v := ⟨h.rs, h.rel, hv, h.ks, h.hl, hk⟩
def playRel (W : World) (n b : Nat) (most : Int) (v i : Value) (wr : World) : Prop := ∃ (j : Nat) (hs : List (BA × Rm)) (l : List RM), i = .int .i64 j ∧ j ≤ 30 ∧ Pl W wr n b j most hs l v
end R12
open R12 in
theorem plays12_walk (a0 : Int) (a1 : Option Addr) (len1 cap1 : Nat) (z1 : Sh.T (.slice ShAct12)) (w : World) (w0 : (Lit.int .i64 a0).wf = true) (r1 : Sh.Rd w (.slice ShAct12) z1 [.slice a1 len1 cap1]) (hmx : MaxLenAt w) :
    Calls Tryd.prog 8 #[.int .i64 a0, .slice a1 len1 cap1] w fun e w' => e = .returned (.bool true) ∧ Below w.heap.size w w' := by
  have hl1 : len1 ≤ maxLen := by obtain ⟨_, h1, h2⟩ := Sh.slice_len r1; omega
  unfold maxLen at hl1
  have HA := hide (awake12 w hmx)
  have HMX := hide hmx
  have HR1 := hide r1
  have hw0 := hide (show 0 < w.heap.size from by obtain ⟨m, hm⟩ := hmx; exact World.block_lt_of_cell? _ _ hm)
  clear r1 w0 hmx
  go_enter Tryd.func8, Tryd.ntmps8
  go_wp2_with fail
  refine HA.out.mono ?_
  rintro e w1 ⟨rfl, hk1⟩
  go_wp2_with fail
  refine (rNew (W := w) hk1.size a0).mono ?_
  rintro e w2 ⟨⟨n, b⟩, rfl, h2, hk2⟩
  simp only at h2
  have hPl0 := fun (v : Value) (w' : World) (hv : LV w' b v []) (hk : Keep [] w2 w') => (show Pl w w' n b 0 (max a0 0) [] [] v from ⟨h2.keep hk, Rel.nil, hv, by simp, by simp, (hk1.then hk2).then hk⟩)
  have hfr : Own kRM RMT w2.heap.size (w2.alloc (.cells #[] RMT)) (.slice (some ⟨w2.heap.size, 0, none⟩) 0 0) [] := Own.fresh (Nat.le_refl _)
  have hbl := h2.map.lt
  have hP1 := hPl0 (.slice (some ⟨w2.heap.size, 0, none⟩) 0 0) (w2.alloc (.cells #[] RMT)) (Kd.R_V (Kd.R_mono (Kd.R_bound hfr) fun k hk => by have := hk.2.1; omega)) ((Keep.refl [] w2).alloc _)
  have HP1 := hide hP1
  clear h2 hk1 hk2 hPl0 hfr hbl hP1
  go_wp2_with fail
  go_loopw [6, 7] (fun v i wr => playRel w n b (max a0 0) v i wr) (fun _ i _ => 30 - (intOf i).toNat)
  case atStart => exact ⟨0, [], [], rfl, by omega, HP1.out⟩
  case round =>
    obtain ⟨j, hs, l, rfl, hj, hPl⟩ := hrel
    by_cases hlt : j < len1 ∧ j < 30
    · obtain ⟨hlt, hlt2⟩ := hlt
      obtain ⟨b0, off, rfl, hb0, hc⟩ := slice_act12 HR1.out (by omega)
      obtain ⟨kd, fr, at_, q, rt, A, c, ps, tp, pl, ff, nw, ⟨c0, c1, c2, c3, c4, c5, c6, c7, c8, c9⟩, hcc, hC⟩ := hc j hlt
      have hK := hPl.below
      have old := fun o => hK.cell (p := ⟨b0, o, none⟩) hb0 (by simp)
      have d0 := (old (off + j * 10)).trans c0
      have d1 := (old (off + j * 10 + 1)).trans c1
      have d2 := (old (off + j * 10 + 2)).trans c2
      have d3 := (old (off + j * 10 + 3)).trans c3
      have d4 := (old (off + j * 10 + 4)).trans c4
      have d5 := (old (off + j * 10 + 5)).trans c5
      have d6 := (old (off + j * 10 + 6)).trans c6
      have d7 := (old (off + j * 10 + 7)).trans c7
      have d8 := (old (off + j * 10 + 8)).trans c8
      have d9 := (old (off + j * 10 + 9)).trans c9
      have HF := hide (fun (w' : World) (hk : Keep [] w w') => mfew hcc (Kd.C_below hC hk.below) fr tp pl at_ q rt)
      obtain ⟨nl, hnl⟩ : ∃ n, ps.length = n := ⟨_, rfl⟩
      rw [hnl] at HF d5
      have hg1 : (j : Int) < (len1 : Int) := by omega
      have hg2 : (j : Int) < 30 := by omega
      have HPl := hide hPl
      have HJ := hide hlt2
      obtain ⟨A0, cp0, rfl⟩ := Kd.V_slice hPl.lv
      have hX := Blk.new wr #[.int .i64 kd, .string fr, .int .i64 at_, .int .u8 q, .bool rt, .slice A nl c, .string tp, .string pl, .string ff, .int .i64 nw] 70
      have hkX := (Keep.refl [] wr).alloc (.cells #[.int .i64 kd, .string fr, .int .i64 at_, .int .u8 q, .bool rt, .slice A nl c, .string tp, .string pl, .string ff, .int .i64 nw] 70)
      have HX := hide hX
      have HKX := hide hkX
      clear c0 c1 c2 c3 c4 c5 c6 c7 c8 c9 hC hcc hc hnl old hK hPl hlt hlt2 hX hkX
      go_upto_region 9 with fail
      obtain ⟨w3, hw3⟩ : ∃ w3, wr.alloc (.cells #[.int .i64 kd, .string fr, .int .i64 at_, .int .u8 q, .bool rt, .slice A nl c, .string tp, .string pl, .string ff, .int .i64 nw] 70) = w3 := ⟨_, rfl⟩
      have hX3 := HX.out
      have hk3 := HKX.out
      rw [hw3] at hX3 hk3 ⊢
      have e0 := hX3.cell 0
      have e1 := hX3.cell 1
      have e2 := hX3.cell 2
      have e3 := hX3.cell 3
      have e4 := hX3.cell 4
      have e5 := hX3.cell 5
      have e6 := hX3.cell 6
      have e7 := hX3.cell 7
      have e8 := hX3.cell 8
      have e9 := hX3.cell 9
      simp at e0 e1 e2 e3 e4 e5 e6 e7 e8 e9
      have HX3 := hide hX3
      have HK3 := hide hk3
      have HT := hide (mtick nw w3)
      have htb := tickV_bd nw
      obtain ⟨now, hnow⟩ : ∃ x, tickV nw = x := ⟨_, rfl⟩
      rw [hnow] at HT htb
      obtain ⟨hn0, hn1⟩ := htb
      clear hw3 HX HKX hX3 hk3 d0 d1 d2 d3 d4 d5 d6 d7 d8 d9 hnow
      have hkd : kd = 1 ∨ (kd ≠ 1 ∧ kd = 2) ∨ (kd ≠ 1 ∧ kd ≠ 2 ∧ kd = 3) ∨ (kd ≠ 1 ∧ kd ≠ 2 ∧ kd ≠ 3) := by omega
      go_wp2_with fail
      refine HT.out.mono ?_
      rintro e w4 ⟨rfl, hk4⟩
      have hX4 := HX3.out.keep hk4 (by simp)
      have e0 := hX4.cell 0
      have e1 := hX4.cell 1
      have e2 := hX4.cell 2
      have e3 := hX4.cell 3
      have e4 := hX4.cell 4
      have e5 := hX4.cell 5
      have e6 := hX4.cell 6
      have e7 := hX4.cell 7
      have e8 := hX4.cell 8
      have e9 := hX4.cell 9
      simp at e0 e1 e2 e3 e4 e5 e6 e7 e8 e9
      have hP4 := HPl.out.keep (HK3.out.then hk4)
      have hkw4 := hP4.below
      have HX4 := hide hX4
      have HP4 := hide hP4
      have HKW4 := hide hkw4
      clear hX4 hP4 hkw4 hk4 HPl HX3 HK3 HT
      rcases hkd with rfl | ⟨hk1, rfl⟩ | ⟨hk1, hk2, rfl⟩ | ⟨hk1, hk2, hk3⟩
      ·
        have HF4 := hide (HF.out _ HKW4.out)
        clear HF
        go_wp2_with fail
        refine HF4.out.mono ?_
        rintro e w5 ⟨v, rfl, hO, hk5⟩
        obtain ⟨A1, c1, rfl⟩ := hO.slice
        have hfl := fewP_len ps
        obtain ⟨fp, hfp⟩ : ∃ x, fewP ps = x := ⟨_, rfl⟩
        obtain ⟨fr', hfr⟩ : ∃ x, cutS fr 10 = x := ⟨_, rfl⟩
        obtain ⟨tp', htp⟩ : ∃ x, cutS tp 30 = x := ⟨_, rfl⟩
        obtain ⟨pl', hpl⟩ : ∃ x, cutS pl 30 = x := ⟨_, rfl⟩
        obtain ⟨ta, hta⟩ : ∃ x, tickV at_ = x := ⟨_, rfl⟩
        have ht30 := cutS_size tp 30
        rw [htp] at ht30
        rw [hfp] at hO hfl
        simp only [hfp, hfr, htp, hpl, hta]
        have hX := Blk.new w5 #[.string fr', .int .i64 ta, .int .u8 q, .bool rt, .slice A1 fp.length c1, .string tp', .string pl'] MsT
        have hkX := (Keep.refl [] w5).alloc (.cells #[.string fr', .int .i64 ta, .int .u8 q, .bool rt, .slice A1 fp.length c1, .string tp', .string pl'] MsT)
        have HX := hide hX
        have HKX := hide (hk5.then hkX)
        have HO := hide (hO.keep hkX (by simp))
        have HT30 := hide ht30
        have HFL := hide hfl
        clear hX hkX hO hk5 hfp hfr htp hpl hta ht30 hfl
        go_upto_region 13 with fail
        obtain ⟨w6, hw6⟩ : ∃ w6, w5.alloc (.cells #[.string fr', .int .i64 ta, .int .u8 q, .bool rt, .slice A1 fp.length c1, .string tp', .string pl'] MsT) = w6 := ⟨_, rfl⟩
        have hX6 := HX.out
        have hk6 := HKX.out
        have hO6 := HO.out
        rw [hw6] at hX6 hk6 hO6 ⊢
        have hP6 := HP4.out.keep hk6
        have hst := hide (hP6.set fr' tp' pl' ta q rt hO6 (by have := HFL.out; omega) HT30.out)
        obtain ⟨q0, q1, q2, q3, q4, q5, q6⟩ := hX6.cells7
        have HX6 := hide hX6
        have HO6 := hide hO6
        have HP6 := hide hP6
        obtain ⟨R, hR⟩ : ∃ R, setR l ⟨fr', ta, q, rt, fp.map toP, tp', pl'⟩ (max a0 0) = R := ⟨_, rfl⟩
        rw [hR] at hst
        have HR := hide hR
        obtain ⟨l', r⟩ := R
        simp only at hst
        have hre : (r = true ∧ errOf r = 0) ∨ (r = false ∧ errOf r = 6) := by cases r <;> simp [errOf]
        clear hw6 HX HKX HO hX6 hk6 hO6 hP6 hR HF4 HP4
        rcases hre with ⟨rfl, he⟩ | ⟨rfl, he⟩
        all_goals
          rw [he] at hst
          clear he
          go_wp2_with fail
          refine hst.out.mono ?_
          rintro e w7 ⟨hs7, rfl, hS7, hk7⟩
          have hblt := HP6.out.blt
          have hX7 := HX6.out.keep hk7 (by have := HP6.out.rs.map.ne_blk HX6.out; simpa using this)
          have hO7 := HO6.out.keep hk7 (by simp; exact not_of_map HP6.out.rs.map _)
          obtain ⟨q0, q1, q2, q3, q4, q5, q6⟩ := hX7.cells7
          have hkw7 : Keep [] w w7 := HP6.out.below.trans hk7 (by simp) (fun x hx hlt => by simp at hx; have := HP6.out.rs.bb; omega)
          have hto := hide (mTold fr' tp' pl' ta q rt hO7 (by have := HFL.out; omega) (b := b) (by have := hk7.size; omega))
          have hlv7 := HP6.out.lv.keep hk7
          have HLV7 := hide hlv7
          have HS7 := hide hS7
          have HKW7 := hide hkw7
          have HBL := hide (show b < w7.heap.size from by have := hk7.size; omega)
          have hl30 : l.length < 1000000 := by have := HP6.out.hl; have := HP6.out.len; have := HJ.out; omega
          have HL30 := hide hl30
          clear hblt hX7 hO7 hkw7 hlv7 hS7 hk7 hl30
          go_wp2_with fail
          refine hto.out.mono ?_
          rintro e w8 ⟨⟨A8, c8⟩, rfl, hPV, hk8⟩
          have hsr := rSetR (HLV7.out.keep0 hk8) (by have := HBL.out; have := hk8.size; omega) HL30.out ⟨fr', ta, q, rt, fp.map toP, tp', pl'⟩ hPV (max a0 0)
          rw [HR.out] at hsr
          simp only [List.length_map] at hsr
          have HSR := hide hsr
          have HK8 := hide hk8
          clear hPV hk8 hsr
          go_wp2_with fail
          refine HSR.out.mono ?_
          rintro e w9 ⟨v9, rfl, hlv9, hk9⟩
          obtain ⟨A9, c9, rfl⟩ := Kd.V_slice hlv9
          have hkk := HK8.out.then hk9
          have hP9 : Pl w w9 n b (j + 1) (max a0 0) hs7 l' (.slice A9 l'.length c9) := PS.pl ⟨HS7.out.rs.keep hkk, HS7.out.rel, HS7.out.ks, HS7.out.hl⟩ hlv9 (HKW7.out.then hkk)
          have hle := hide (hP9.len ▸ rLen hP9.rs)
          have HP9 := hide hP9
          clear hlv9 hk9 hkk hP9
          go_wp2_with fail
          refine hle.out.mono ?_
          rintro e w10 ⟨rfl, rfl⟩
          go_wp2_with fail
          have hj5 := HJ.out
          exact ⟨⟨j + 1, hs7, l', by simp, by omega, HP9.out⟩, by simp [intOf]; omega⟩
      ·
        have hxp := hide (HP4.out.expire now (by have := HJ.out; omega))
        have hlm := HP4.out.hl
        have hll := HP4.out.len
        have hj5 := HJ.out
        have hxl := List.length_filter_le (fun m : RM => !goneR now m) l
        have HPm := hide HP4.out.pl
        obtain ⟨x, hx⟩ : ∃ x, (l.filter fun m => !goneR now m) = x := ⟨_, rfl⟩
        have HXE := hide hx
        rw [hx] at hxp hxl
        have hl30 : l.length ≤ 30 := by omega
        clear hlm hll hj5 hx hk1
        go_wp2_with fail
        refine hxp.out.mono ?_
        rintro e w5 ⟨hs5, rfl, hS5, hk5⟩
        have hlv5 := HP4.out.lv.keep hk5
        have hblt := HP4.out.blt
        have hke := hide (HXE.out ▸ rExpR hlv5 (by have := hk5.size; omega) (by omega) HPm.out now)
        have HS5 := hide hS5
        have HK5 := hide (show Keep [] w w5 from HKW4.out.trans hk5 (by simp) (fun x hx hlt => by simp at hx; have := HP4.out.rs.bb; omega))
        clear hS5 hk5 hlv5 hblt
        go_wp2_with fail
        refine hke.out.mono ?_
        rintro e w6 ⟨v6, rfl, hlv6, hk6⟩
        obtain ⟨A6, c6, rfl⟩ := Kd.V_slice hlv6
        have hP6 : Pl w w6 n b (j + 1) (max a0 0) hs5 x (.slice A6 x.length c6) := (PS.pl ⟨HS5.out.rs.keep hk6, HS5.out.rel, HS5.out.ks, by have := HS5.out.hl; omega⟩ hlv6 (HK5.out.then hk6))
        have hle := hide (hP6.len ▸ rLen hP6.rs)
        have HP6 := hide hP6
        clear hP6 hlv6 hk6
        go_wp2_with fail
        refine hle.out.mono ?_
        rintro e w7 ⟨rfl, rfl⟩
        go_wp2_with fail
        have hj5 := HJ.out
        exact ⟨⟨j + 1, hs5, x, by simp, by omega, HP6.out⟩, by simp [intOf]; omega⟩
      ·
        have hcut : Calls Tryd.prog 18 #[.string ff, .int .i64 30] w4 fun e w' => e = .returned (.string (cutS ff 30)) ∧ w' = w4 := cut01_any ff 30 w4
        have hf30 := cutS_size ff 30
        obtain ⟨f, hf⟩ : ∃ x, cutS ff 30 = x := ⟨_, rfl⟩
        rw [hf] at hcut hf30
        have HC := hide hcut
        have hj5 := HJ.out
        have hma := hide (HP4.out.match f now (by omega) (by omega) (HMX.out.keep HKW4.out (by simp)))
        have hll := HP4.out.len
        have hlm := HP4.out.hl
        have hl30 : l.length ≤ 30 := by omega
        clear hcut hf hj5 hll hlm hk1 hk2
        go_wp2_with fail
        refine HC.out.mono ?_
        rintro e w4' ⟨rfl, rfl⟩
        go_wp2_with fail
        refine hma.out.mono ?_
        rintro e w5 ⟨⟨v5, x5⟩, rfl, hO5, hm5, hp5, hl5, hk5⟩
        simp only at hO5 hm5 hp5 hl5
        have hP5 := HP4.out.keep hk5
        have hrm := hide (rMatR hP5.lv (by omega) hP5.pl f now (by omega) (fun m hm => by have := hP5.tl m hm; omega))
        have HO5 := hide hO5
        have HM5 := hide hm5
        have HQ5 := hide hp5
        have HP5 := hide hP5
        clear hO5 hm5 hp5 hk5 hP5
        go_wp2_with fail
        refine hrm.out.mono ?_
        rintro e w6 ⟨⟨A6, c6⟩, rfl, hC6, hc6, hk6⟩
        have hlf := List.length_filter_le (fun m : RM => topM f m.f5 && !goneR now m) l
        have his := hide (mIs (HO5.out.keep hk6 (by simp)) (by omega) HQ5.out hC6 hc6 rfl HM5.out)
        have HP6 := hide (HP5.out.keep hk6)
        clear hC6 hc6 hk6 hlf
        go_wp2_with fail
        refine his.out.mono ?_
        rintro e w7 ⟨rfl, hk7⟩
        have hP7 := HP6.out.keep hk7
        have hle := hide (hP7.len ▸ rLen hP7.rs)
        have HP7 := hide hP7
        clear hP7 hk7
        go_wp2_with fail
        refine hle.out.mono ?_
        rintro e w8 ⟨rfl, rfl⟩
        go_wp2_with fail
        have hj5 := HJ.out
        exact ⟨⟨j + 1, hs, l, by simp, by omega, HP7.out.mono (by omega)⟩, by simp [intOf]; omega⟩
      · have b1 : (kd == 1) = false := by simpa using hk1
        have b2 : (kd == 2) = false := by simpa using hk2
        have b3 : (kd == 3) = false := by simpa using hk3
        clear hk1 hk2 hk3
        have hle := hide (HP4.out.len ▸ rLen HP4.out.rs)
        have hll : ((l.length : Int) == (l.length : Int)) = true := by simp
        go_wp2_with fail
        refine hle.out.mono ?_
        rintro e w5 ⟨rfl, rfl⟩
        go_wp2_with fail
        have hj5 := HJ.out
        exact ⟨⟨j + 1, hs, l, by simp, by omega, HP4.out.mono (by omega)⟩, by simp [intOf]; omega⟩
    · have hlast : (¬ (j : Int) < (len1 : Int) ∧ decide (j < len1) = false) ∨ ((j : Int) < (len1 : Int) ∧ decide (j < len1) = true ∧ ¬ (j : Int) < 30 ∧ decide (j < 30) = false) := by
        by_cases h : j < len1
        · exact Or.inr ⟨by omega, by simpa using h, by omega, by simp; omega⟩
        · exact Or.inl ⟨by omega, by simpa using h⟩
      have hma := hide (hPl.match restB 0 (by decide) (by omega) (HMX.out.keep hPl.below (by simp)))
      have hll := hPl.len
      have hlm := hPl.hl
      have hl30 : l.length ≤ 30 := by omega
      obtain ⟨A0, cp0, rfl⟩ := Kd.V_slice hPl.lv
      have HPl := hide hPl
      clear hlt hPl hj hll hlm
      rcases hlast with ⟨g1, g2⟩ | ⟨g1, g2, g3, g4⟩
      all_goals
        go_wp2_with fail
        refine hma.out.mono ?_
        rintro e w5 ⟨⟨v5, x5⟩, rfl, hO5, hm5, hp5, hl5, hk5⟩
        simp only at hO5 hm5 hp5 hl5
        have hP5 := HPl.out.keep hk5
        have hrm := hide (rMatR hP5.lv (by omega) hP5.pl restB 0 (by decide) (fun m hm => by have := hP5.tl m hm; omega))
        have HO5 := hide hO5
        have HM5 := hide hm5
        have HQ5 := hide hp5
        have HP5 := hide hP5
        clear hO5 hm5 hp5 hk5 hP5
        go_wp2_with fail
        refine hrm.out.mono ?_
        rintro e w6 ⟨⟨A6, c6⟩, rfl, hC6, hc6, hk6⟩
        have his := hide (mIs (HO5.out.keep hk6 (by simp)) (by omega) HQ5.out hC6 hc6 rfl HM5.out)
        have HP6 := hide (HP5.out.keep hk6)
        clear hC6 hc6 hk6
        go_wp2_with fail
        refine his.out.mono ?_
        rintro e w7 ⟨rfl, hk7⟩
        go_wp2_with fail
        go_ret
        exact ⟨rfl, (HP6.out.keep hk7).below.below⟩
end Go.Proofs.YtbgondiibnjcgaaDoor
