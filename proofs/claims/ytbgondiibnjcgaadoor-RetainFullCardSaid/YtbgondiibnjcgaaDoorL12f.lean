/- RetainFull: the walk. -/
import Derived.Test.YtbgondiibnjcgaaDoorMsg
import Derived.Test.YtbgondiibnjcgaaDoorA12
import Derived.Test.YtbgondiibnjcgaaDoorChrR
namespace Go.Proofs.YtbgondiibnjcgaaDoor
open Go.RowKit Go.Shelf Go.Proofs.YtbgondiibnjcgaaDoor.PRetainPlays Go.Proofs.YtbgondiibnjcgaaDoorW.PrintWords Go.Proofs.YtbgondiibnjcgaaDoorW.PrintLast
set_option maxRecDepth 10000
set_option linter.unusedVariables false
set_option maxHeartbeats 1000000

theorem set_fresh {ν : Type} {l : List (ByteArray × ν)} {k : ByteArray} {v : ν} (h : k ∉ l.map (·.1)) : AL.set l k v = l ++ [(k, v)] := by
  have h1 : AL.get l k = none := AL.get_none.2 h
  rw [AL.get_idx] at h1
  cases hi : AL.idx l k with
  | none => exact set_of_none v hi
  | some p => rw [hi] at h1; cases h1

theorem set_keys {ν : Type} {l : List (ByteArray × ν)} {k : ByteArray} {v : ν} (h : k ∈ l.map (·.1)) : (AL.set l k v).map (·.1) = l.map (·.1) := by
  induction l with
  | nil => simp at h
  | cons a t ih =>
    obtain ⟨a, x⟩ := a
    simp only [AL.set]
    by_cases hk : k = a
    · rw [if_pos hk]; rfl
    · rw [if_neg hk]
      simp only [List.map_cons, List.mem_cons] at h ⊢
      rw [ih (by rcases h with h | h; exact absurd h hk; exact h)]

theorem Rs.keepX {W w w' : World} {n b x T : Nat} {cs : Array Value} {most : Int} {hs : List (ByteArray × Rm)} (h : Rs W w n b most hs) (hk : Keep [x] w w') (hx : x < W.heap.size) (hb : Blk w x cs T) (hT : T ∉ PrT :: kPr.E) : Rs W w' n b most hs :=
  ⟨h.box.keep hk (by have := h.bn; simp; omega), h.map.keep hk (by have := h.bb; simp; omega), h.bn, h.bb, fun p hp => (h.own p hp).keep hk (by intro k hk; simp at hk; subst hk; exact not_of_blk hb hT), h.plen⟩

def FullSt (W : World) (S : List Nat) (n b N j : Nat) (wr : World) : Prop := ∃ hs, Rs W wr n b N hs ∧ hs.map (·.1) = keysN j ∧ (∀ p ∈ hs, p.2.ps = []) ∧ Keep S W wr

theorem FullSt.keepX {W w w' : World} {n b x T N j : Nat} {cs : Array Value} (h : FullSt W [] n b N j w) (hk : Keep [x] w w') (hw : Keep [x] W w') (hx : x < W.heap.size) (hb : Blk w x cs T) (hT : T ∉ PrT :: kPr.E) : FullSt W [x] n b N j w' := by
  obtain ⟨hs, h1, h2, h3, h4⟩ := h
  exact ⟨hs, h1.keepX hk hx hb hT, h2, h3, hw⟩

def fullRel (W : World) (S : List Nat) (n b N : Nat) (i : Value) (wr : World) : Prop := ∃ j : Nat, i = .int .i64 j ∧ j ≤ N ∧ FullSt W S n b N j wr
def fullRel2 (W : World) (S : List Nat) (n b N : Nat) (i : Value) (wr : World) : Prop := ∃ j : Nat, i = .int .i64 j ∧ j ≤ N ∧ FullSt W S n b N N wr

abbrev tS : ByteArray := ⟨#[116]⟩

abbrev oS : ByteArray := ⟨#[111, 116, 104, 101, 114]⟩
abbrev yS : ByteArray := ⟨#[121]⟩

/-- Set of a message of no properties, where there is room. -/
theorem FullSt.put {W wr : World} {S : List Nat} {n b N j : Nat} (h : FullSt W S n b N j wr) (hj : j < N) (hN : N ≤ 30) (pl : ByteArray) (hp : pl.size ≠ 0) :
    Calls Tryd.prog 15 #[.pointer (some ⟨n, 0, none⟩), .agg #[.string ⟨#[]⟩, .int .i64 0, .int .u8 0, .bool false, .slice none 0 0, .string (tS ++ ch j), .string pl]] wr fun e w' => e = .returned (.int .i64 0) ∧ FullSt W S n b N (j + 1) w' := by
  obtain ⟨hs, hR, hk, hps, hK⟩ := h
  have hnew : keyT j ∉ hs.map (·.1) := by rw [hk]; exact keysN_new (by omega)
  have hl : hs.length = j := by have := congrArg List.length hk; rw [keysN_len] at this; simpa using this
  refine (rSetStore hR ⟨#[]⟩ (tS ++ ch j) 0 0 false none [] 0 pl hp (Own.nil kPr PrT 0 wr) (by simp) (Or.inr (by omega))).mono ?_
  rintro e w' ⟨v, rfl, h2, hk2⟩
  rw [keyT_eq] at h2
  rw [set_fresh hnew] at h2
  refine ⟨rfl, _, h2, ?_, ?_, ?_⟩
  · rw [List.map_append, hk, keysN_succ]; rfl
  · intro p hp
    rcases List.mem_append.1 hp with hp | hp
    · exact hps p hp
    · simp at hp; subst hp; rfl
  · exact hK.trans hk2 (fun _ h _ => h) (fun x hx hlt => by simp at hx; have := hR.bb; omega)

theorem FullSt.again {W wr : World} {S : List Nat} {n b N j : Nat} (h : FullSt W S n b N N wr) (hj : j < N) (hN : N ≤ 30) (pl : ByteArray) (hp : pl.size ≠ 0) :
    Calls Tryd.prog 15 #[.pointer (some ⟨n, 0, none⟩), .agg #[.string ⟨#[]⟩, .int .i64 0, .int .u8 0, .bool false, .slice none 0 0, .string (tS ++ ch j), .string pl]] wr fun e w' => e = .returned (.int .i64 0) ∧ FullSt W S n b N N w' := by
  obtain ⟨hs, hR, hk, hps, hK⟩ := h
  have hold : keyT j ∈ hs.map (·.1) := by rw [hk]; exact keysN_mem.2 ⟨j, hj, rfl⟩
  refine (rSetStore hR ⟨#[]⟩ (tS ++ ch j) 0 0 false none [] 0 pl hp (Own.nil kPr PrT 0 wr) (by simp) (Or.inl (by rw [keyT_eq]; exact AL.get_isSome.2 hold))).mono ?_
  rintro e w' ⟨v, rfl, h2, hk2⟩
  rw [keyT_eq] at h2
  refine ⟨rfl, _, h2, ?_, ?_, ?_⟩
  · rw [set_keys hold, hk]
  · intro p hp
    rcases mem_set hp with rfl | hp
    · rfl
    · exact hps p hp
  · exact hK.trans hk2 (fun _ h _ => h) (fun x hx hlt => by simp at hx; have := hR.bb; omega)

theorem FullSt.full {W wr : World} {S : List Nat} {n b N : Nat} (h : FullSt W S n b N N wr) (hN : N ≤ 30) (fr : ByteArray) (at_ q : Int) (rt : Bool) (A : Option Addr) (l c : Nat) :
    Calls Tryd.prog 15 #[.pointer (some ⟨n, 0, none⟩), .agg #[.string fr, .int .i64 at_, .int .u8 q, .bool rt, .slice A l c, .string oS, .string yS]] wr fun e w' => e = .returned (.int .i64 6) ∧ FullSt W S n b N N w' ∧ Keep [] wr w' := by
  obtain ⟨hs, hR, hk, hps, hK⟩ := h
  have hl : hs.length = N := by have := congrArg List.length hk; rw [keysN_len] at this; simpa using this
  have hno : AL.get hs oS = none := by
    refine AL.get_none.2 ?_
    show oS ∉ hs.map (·.1)
    rw [hk, keysN_mem]
    rintro ⟨i, _, e⟩
    have := congrArg ByteArray.size e
    rw [key_size] at this
    exact absurd this (by decide)
  refine (rSetFull hR fr oS at_ q rt A l c yS (by decide) hno (by omega)).mono ?_
  rintro e w' ⟨rfl, h2, hk2⟩
  exact ⟨rfl, ⟨hs, h2, hk, hps, hK.then (hk2.mono (by simp))⟩, hk2⟩

theorem FullSt.len {W wr : World} {S : List Nat} {n b N j : Nat} (h : FullSt W S n b N j wr) : Calls Tryd.prog 17 #[.pointer (some ⟨n, 0, none⟩)] wr fun e w' => e = .returned (.int .i64 j) ∧ wr = w' := by
  obtain ⟨hs, hR, hk, hps, hK⟩ := h
  have hl : hs.length = j := by have := congrArg List.length hk; rw [keysN_len] at this; simpa using this
  have := rLen hR
  rw [hl] at this
  exact this

theorem goneM_nil {now : Int} {m : Rm} (h : m.ps = []) : goneM now m = false := by unfold goneM; rw [h]; rfl

theorem FullSt.match {W wr : World} {S : List Nat} {n b N : Nat} (h : FullSt W S n b N N wr) (hN : N ≤ 30) (hmx : MaxLenAt wr) :
    Calls Tryd.prog 16 #[.pointer (some ⟨n, 0, none⟩), .string oneB, .int .i64 0] wr (Px fun (x : Option Addr × Nat) e w' => e = .returned (.slice x.1 N x.2) ∧ Keep [] wr w') := by
  obtain ⟨hs, hR, hk, hps, hK⟩ := h
  have hl : hs.length = N := by have := congrArg List.length hk; rw [keysN_len] at this; simpa using this
  refine (rMatch hR oneB 0 (by decide) (fun p hp => ?_) (by omega) hmx).mono ?_
  · have : p.1 ∈ keysN N := by rw [← hk]; exact List.mem_map_of_mem hp
    obtain ⟨i, _, e⟩ := keysN_mem.1 this
    rw [← e, key_size]; decide
  · rintro e w' ⟨⟨v, L⟩, rfl, hO, hL, hk2⟩
    simp only at hO hL
    have hlen : (matchR hs oneB 0 L).length = N := by
      unfold matchR
      rw [List.length_map, List.filter_eq_self.2]
      · rw [hL.1.length_eq, List.length_map, hl]
      · intro k hkL
        have hkm : k ∈ keysN N := by rw [← hk]; exact hL.1.mem_iff.1 hkL
        obtain ⟨i, hi, e⟩ := keysN_mem.1 hkm
        unfold isTold
        rw [← e, key_met i (by omega)]
        have : goneM 0 ((AL.get hs (keyT i)).getD Rm.zero) = false := by
          refine goneM_nil ?_
          cases hg : AL.get hs (keyT i) with
          | none => rfl
          | some x => exact hps _ (get_mem2 hg)
        rw [this]; rfl
    obtain ⟨A, c, rfl⟩ := hO.slice
    rw [hlen]
    exact ⟨⟨A, c⟩, rfl, hk2⟩

theorem full_walk (a0 : Int) (c1 : Array Value) (z1 : Sh.T ShMsg) (w : World) (w0 : (Lit.int .i64 a0).wf = true) (r1 : Sh.Rd w ShMsg z1 c1.toList) (hmx : MaxLenAt w) :
    Calls Tryd.prog 5 #[.int .i64 a0, .agg c1] w fun e w' => e = .returned (.bool true) ∧ Below w.heap.size w w' := by
  obtain ⟨fr, at_, q, rt, A, c, ps, tp, pl, hc0, hc, hC, _, _⟩ := msg_in r1
  obtain rfl : c1 = #[.string fr, .int .i64 at_, .int .u8 q, .bool rt, .slice A ps.length c, .string tp, .string pl] := Array.toList_inj.1 hc0
  have hX := Blk.new w #[.string fr, .int .i64 at_, .int .u8 q, .bool rt, .slice A ps.length c, .string tp, .string pl] MsT
  have hkX := (Keep.refl [] w).alloc (.cells #[.string fr, .int .i64 at_, .int .u8 q, .bool rt, .slice A ps.length c, .string tp, .string pl] MsT)
  obtain ⟨nl, hnl⟩ : ∃ n, ps.length = n := ⟨_, rfl⟩
  have HF := hide (fun (w' : World) (hk : Keep [] w w') => hnl ▸ mfew hc (Kd.C_below hC hk.below) fr tp pl at_ q rt)
  rw [hnl] at hX hkX ⊢
  obtain ⟨wX, hwX⟩ : ∃ wX, w.alloc (.cells #[.string fr, .int .i64 at_, .int .u8 q, .bool rt, .slice A nl c, .string tp, .string pl] MsT) = wX := ⟨_, rfl⟩
  rw [hwX] at hX hkX
  have HA := hide (awake12 _ (hmx.keep hkX (by simp)))
  have HX := hide hX
  have HKX := hide hkX
  have HMX := hide (hmx.keep hkX (by simp))
  have HM0 := hide hmx
  have hw0 := hide (show 0 < wX.heap.size from by have := hX.lt; omega)
  clear r1 hc0 hc hC hX hkX w0 hnl hmx
  by_cases hbad : a0 < 0 ∨ 30 < a0
  · have hb : a0 < 0 ∨ (¬ a0 < 0 ∧ 30 < a0) := by omega
    clear hbad
    rcases hb with hb | ⟨hb, hb2⟩
    all_goals
      go_enter Tryd.func5, Tryd.ntmps5
      go_wp2_with fail
      refine HA.out.mono ?_
      rintro e w1 ⟨rfl, hk1⟩
      have HK1 := hide hk1
      clear hk1
      go_wp2_with fail
      refine (awake12 _ (HMX.out.keep HK1.out (by simp))).mono ?_
      rintro e w2 ⟨rfl, hk2⟩
      go_wp2_with fail
      go_ret
      exact ⟨rfl, (HKX.out.then (HK1.out.then hk2)).below⟩
  · obtain ⟨N, rfl⟩ : ∃ N : Nat, a0 = (N : Int) := ⟨a0.toNat, by omega⟩
    have hN : N ≤ 30 := by omega
    have hb1 : ¬ (N : Int) < 0 := by omega
    have hb2 : ¬ (30 : Int) < (N : Int) := by omega
    clear hbad
    go_enter Tryd.func5, Tryd.ntmps5
    go_wp2_with fail
    refine HA.out.mono ?_
    rintro e w1 ⟨rfl, hk1⟩
    have HK1 := hide hk1
    clear hk1 hwX
    go_wp2_with fail
    refine (rNew (W := wX) HK1.out.size (N : Int)).mono ?_
    rintro e w2 ⟨⟨n, b⟩, rfl, h2, hk2⟩
    simp only at h2
    rw [Int.max_eq_left (show (0 : Int) ≤ (N : Int) by omega)] at h2
    have hSt : FullSt wX [] n b N 0 w2 := ⟨[], h2, rfl, by simp, HK1.out.then hk2⟩
    clear h2 hk2
    go_wp2_with fail
    go_loopw [6] (fun i wr => fullRel wX [] n b N i wr) (fun i _ => N - (intOf i).toNat)
    case atStart => exact ⟨0, rfl, by omega, hSt⟩
    case round =>
      clear hSt
      obtain ⟨j, rfl, hj, hSt⟩ := hrel
      by_cases hlt : j < N
      · have hch := chr_run j (by omega)
        have hwr : IntKind.i32.wrap (97 + (j : Int)) = 97 + (j : Int) := by
          unfold IntKind.wrap; simp [IntKind.signed, IntKind.bits]; omega
        have hcat : ¬ 9223372036854775807 < tS.size + (ch j).size := by show ¬ (9223372036854775807 : Nat) < 1 + 1; omega
        have hlt' : (j : Int) < (N : Int) := by omega
        have hc := hide (hSt.put hlt hN ⟨#[120]⟩ (by decide))
        have HLT := hide hlt
        clear hlt
        go_wp2_with fail
        refine hc.out.mono ?_
        rintro e w3 ⟨rfl, h3⟩
        go_wp2_with fail
        have hlt5 := HLT.out
        exact ⟨⟨j + 1, by simp, by omega, h3⟩, by simp [intOf] <;> omega⟩
      · obtain rfl : j = N := by omega
        have hnj : ¬ (j : Int) < (j : Int) := by omega
        have hK : Keep [] wX wr := by obtain ⟨hs, hR, hk, hps, hK⟩ := hSt; exact hK
        have hXr := HX.out.keep hK (by simp)
        obtain ⟨q0, q1, q2, q3, q4, q5, q6⟩ := hXr.cells7
        have HSt := hide hSt
        have HXr := hide hXr
        have HK := hide hK
        clear hSt hK hXr hlt
        go_wp2_with fail
        refine (HF.out _ (HKX.out.then HK.out)).mono ?_
        rintro e w3 ⟨v, rfl, hO, hk3⟩
        obtain ⟨A1, c1, rfl⟩ := hO.slice
        have hfl := fewP_len ps
        obtain ⟨nf, hnf⟩ : ∃ n, (fewP ps).length = n := ⟨_, rfl⟩
        have hX3 := HXr.out.keep hk3 (by simp)
        obtain ⟨q0, q1, q2, q3, q4, q5, q6⟩ := hX3.cells7
        obtain ⟨f0, f1, f2, f3, f4, f5, f6⟩ := hX3.froz7
        obtain ⟨hX4, hk4⟩ := hX3.set7 (.string (cutS fr 10)) (.int .i64 (tickV at_)) (.int .u8 q) (.bool rt) (.slice A1 nf c1) (.string (cutS tp 30)) (.string (cutS pl 30))
        have HX4 := hide hX4
        have HK4 := hide ((hk3.mono (by simp)).then hk4)
        rw [hnf]
        clear hX3 hk3 hO hfl hnf hX4 hk4
        go_upto_region 10 with fail
        obtain ⟨w4, hw4⟩ : ∃ w4, set7 w3 w.heap.size (.string (cutS fr 10)) (.int .i64 (tickV at_)) (.int .u8 q) (.bool rt) (.slice A1 nf c1) (.string (cutS tp 30)) (.string (cutS pl 30)) = w4 := ⟨_, rfl⟩
        have hX4 := HX4.out
        have hk4 := HK4.out
        rw [hw4] at hX4 hk4
        unfold set7 at hw4
        rw [hw4]
        clear hw4 HX4 HK4 q0 q1 q2 q3 q4 q5 q6 f0 f1 f2 f3 f4 f5 f6
        obtain ⟨q0, q1, q2, q3, q4, q5, q6⟩ := hX4.cells7
        obtain ⟨f0, f1, f2, f3, f4, f5, f6⟩ := hX4.froz7
        have hX5 := (hX4.set 5 (.string oS)).set 6 (.string yS)
        have hk5 := (hk4.setCell (p := ⟨w.heap.size, 5, none⟩) (fun _ => by simp) (.string oS)).setCell (p := ⟨w.heap.size, 6, none⟩) (fun _ => by simp) (.string yS)
        have HX5 := hide hX5
        have HK5 := hide hk5
        clear hX4 hk4 hX5 hk5
        go_upto_region 11 with fail
        obtain ⟨w5, hw5⟩ : ∃ w5, (w4.setCell ⟨w.heap.size, 5, none⟩ (.string oS)).setCell ⟨w.heap.size, 6, none⟩ (.string yS) = w5 := ⟨_, rfl⟩
        have hX5 := HX5.out
        have hk5 := HK5.out
        rw [hw5] at hX5 hk5 ⊢
        clear hw5 HX5 HK5 q0 q1 q2 q3 q4 q5 q6 f0 f1 f2 f3 f4 f5 f6
        have hltX := HX.out.lt
        have hS5 : FullSt wX [w.heap.size] n b j j w5 := HSt.out.keepX hk5 ((HK.out.mono (by simp)).then hk5) hltX HXr.out (by decide)
        have hX5 : Blk w5 w.heap.size #[.string (cutS fr 10), .int .i64 (tickV at_), .int .u8 q, .bool rt, .slice A1 nf c1, .string oS, .string yS] MsT := by simpa using hX5
        obtain ⟨q0, q1, q2, q3, q4, q5, q6⟩ := hX5.cells7
        have hfu := hide (hS5.full hN (cutS fr 10) (tickV at_) q rt A1 nf c1)
        clear hX5 hk5 hS5 HSt
        go_wp2_with fail
        refine hfu.out.mono ?_
        rintro e w6 ⟨rfl, h6, hk6⟩
        have hle := hide h6.len
        have HS6 := hide h6
        clear h6 hk6 q0 q1 q2 q3 q4 q5 q6
        go_wp2_with fail
        refine hle.out.mono ?_
        rintro e w6' ⟨rfl, rfl⟩
        go_wp2_with fail
        go_loopw [7] (fun i wr => fullRel2 wX [w.heap.size] n b j i wr) (fun i _ => j - (intOf i).toNat)
        case atStart => exact ⟨0, rfl, by omega, HS6.out⟩
        case round =>
          obtain ⟨m, rfl, hm, hSm⟩ := hrel
          by_cases hlt : m < j
          · have hch := chr_run m (by omega)
            have hwr : IntKind.i32.wrap (97 + (m : Int)) = 97 + (m : Int) := by
              unfold IntKind.wrap; simp [IntKind.signed, IntKind.bits]; omega
            have hcat : ¬ 9223372036854775807 < tS.size + (ch m).size := by show ¬ (9223372036854775807 : Nat) < 1 + 1; omega
            have hlt' : (m : Int) < (j : Int) := by omega
            have hc := hide (hSm.again hlt hN ⟨#[122]⟩ (by decide))
            have HLT := hide hlt
            clear hlt hSm
            go_wp2_with fail
            refine hc.out.mono ?_
            rintro e w3 ⟨rfl, h3⟩
            go_wp2_with fail
            have hlt5 := HLT.out
            exact ⟨⟨m + 1, by simp, by omega, h3⟩, by simp [intOf] <;> omega⟩
          · obtain rfl : m = j := by omega
            have hKm : Keep [w.heap.size] wX wr := by obtain ⟨hs, hR, hk, hps, hK⟩ := hSm; exact hK
            have hle := hide hSm.len
            have hma := hide (hSm.match hN (HMX.out.keep hKm (by have := HX.out.lt; obtain ⟨m, hm⟩ := HM0.out; have := World.block_lt_of_cell? _ _ hm; simp; omega)))
            have HKm := hide hKm
            clear hSm hKm hlt
            go_wp2_with fail
            refine hle.out.mono ?_
            rintro e wr' ⟨rfl, rfl⟩
            go_wp2_with fail
            refine hma.out.mono ?_
            rintro e w8 ⟨⟨A8, c8⟩, rfl, hk8⟩
            go_wp2_with fail
            go_ret
            exact ⟨rfl, ((HKX.out.trans HKm.out (S := []) (by simp) (fun x hx hlt => by simp at hx; omega)).then hk8).below⟩
end Go.Proofs.YtbgondiibnjcgaaDoor
