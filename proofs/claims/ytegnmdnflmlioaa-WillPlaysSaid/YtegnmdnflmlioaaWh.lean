import Derived.Test.YtegnmdnflmlioaaWl
import Derived.StillTailTactics
import Derived.IntWalk
namespace Go.Proofs.Ytegnmdnflmlioaa
open Go.RowKit Go.Shelf Go.Proofs.Ytegnmdnflmlioaa.PWillPlays Go.Proofs.YtegnmdnflmlioaaW.PrintWords Go.Proofs.YtegnmdnflmlioaaW.PrintLast
set_option maxRecDepth 100000
set_option linter.unusedVariables false
set_option maxHeartbeats 1000000
attribute [local go_sem] Go.Proofs.YtegnmdnflmlioaaW.PrintMore.min2_int
def willV (pv : Value) (tp pl : BA) (q : Int) (rt : Bool) : Value := .agg #[pv, .string tp, .string pl, .int .u8 q, .bool rt]
theorem wMsg {w : World} {base : Nat} {pv : Value} {l : List SP} (tp pl cl : BA) (q : Int) (rt : Bool) (h : Own kPr PrT base w pv l) (hl : l.length < 1000000) :
    Calls Try.prog 24 #[willV pv tp pl q rt, .string cl] w (Px fun (v : Value) e w' => e = .returned (.agg #[.string cl, .int .i64 0, .int .u8 q, .bool rt, v, .string tp, .string pl]) ∧ Own kPr PrT w.heap.size w' v (noWD l) ∧ Keep [] w w') := by
  obtain ⟨A, c, rfl, hc, hC⟩ := h.reads
  refine (will_Message.calls (l.length + 1) A c l tp pl q rt cl cl 0 q rt (noWD l) tp pl w hC hc (msg_f l cl tp pl q rt hl _ (by omega))).mono ?_
  rintro e w' ⟨v, rfl, hR, hB⟩
  exact ⟨v, rfl, hR, Keep.of_below hB⟩
theorem wNum {w : World} {base : Nat} {pv : Value} {l : List SP} (id other : Int) (h : Own kPr PrT base w pv l) (hl : l.length < 1000000) :
    Calls Try.prog 25 #[pv, .int .i64 id, .int .u32 other] w fun e w' => e = .returned (.int .u32 (numPr l id other)) ∧ Keep [] w w' := by
  obtain ⟨A, c, rfl, hc, hC⟩ := h.reads
  refine (prop_List_Num.calls (l.length + 1) A c l id other _ w hC hc (num_f l id other hl _ (by omega))).mono ?_
  rintro e w' ⟨rfl, hB⟩
  exact ⟨rfl, Keep.of_below hB⟩
theorem set_isSome {ν : Type} {hs : List (BA × ν)} {c k : BA} {y : ν} (h : (AL.get hs k).isSome = true) : (AL.get (AL.set hs c y) k).isSome = true := by
  rw [AL.get_set]; split
  · rfl
  · exact h
theorem wHoldK {W w : World} {n b tn tb : Nat} {hs : List (BA × Hd)} {r : List En} {K : Nat} (h : Ws W w n b tn tb hs r K) (c : BA) {base : Nat} {pv : Value} {l : List SP} (tp pl : BA) (q : Int) (rt : Bool) (ho : Own kPr PrT base w pv l) (hl : l.length ≤ 100) (hnum : 0 ≤ numPr l 24 0 ∧ numPr l 24 0 ≤ 4294967295) :
    Calls Try.prog 8 #[ptrTo n, .string c, willV pv tp pl q rt] w (Px fun (v : Value) e w' => e = .returned (.tuple #[]) ∧ Ws W w' n b tn tb (AL.set hs c ⟨⟨c, 0, q, rt, noWD l, tp, pl⟩, v, numPr l 24 0⟩) (rmE r c) (K + 1) ∧ Keep [b, tb] w w') := by
  obtain ⟨A, cc, rfl⟩ := ho.slice
  obtain ⟨nu, hnu⟩ : ∃ nu, numPr l 24 0 = nu := ⟨_, rfl⟩
  rw [hnu] at hnum ⊢
  have hk0 := (Keep.refl [] w).alloc (.cells #[.slice A l.length cc, .string tp, .string pl, .int .u8 q, .bool rt] 33)
  have hX := Blk.new w #[.slice A l.length cc, .string tp, .string pl, .int .u8 q, .bool rt] 33
  obtain ⟨w0, hw0⟩ : ∃ w0, w.alloc (.cells #[.slice A l.length cc, .string tp, .string pl, .int .u8 q, .bool rt] 33) = w0 := ⟨_, rfl⟩
  rw [hw0] at hk0 hX
  have h0 := h.keep hk0
  have ho0 := ho.keep hk0 (by simp)
  have hne := h.map.ne_blk h.box
  have hblt := h.map.lt
  have HS := hide (fun (w' : World) (hk : Keep [b] w0 w') => show w'.cell? ⟨n, 0, none⟩ = some (.map (some b)) ∧ w'.cell? ⟨w.heap.size, 0, none⟩ = some (.slice A l.length cc) ∧ w'.cell? ⟨w.heap.size, 1, none⟩ = some (.string tp) ∧ w'.cell? ⟨w.heap.size, 2, none⟩ = some (.string pl) ∧ w'.cell? ⟨w.heap.size, 3, none⟩ = some (.int .u8 q) ∧ w'.cell? ⟨w.heap.size, 4, none⟩ = some (.bool rt) from by
    have hx := hX.keep hk (by simp; omega)
    exact ⟨(h0.box.keep hk (by simpa using hne)).cell 0, hx.cell 0, hx.cell 1, hx.cell 2, hx.cell 3, hx.cell 4⟩)
  have HM := hide (fun (w' : World) (hk : Keep [] w0 w') => wMsg tp pl c q rt (ho0.keep hk (by simp)) (by omega))
  have HN := hide (fun (w' : World) (hk : Keep [] w0 w') => hnu ▸ wNum 24 0 (ho0.keep hk (by simp)) (by omega))
  have HO := hide ho0
  have H0 := hide h0
  have HH := hide h
  have HK0 := hide hk0
  have HL := hide hl
  clear ho ho0 h0 h hX hk0 hnu hl
  unfold willV
  go_enter Try.func8, Try.ntmps8
  go_wp2_with fail
  clear hw0
  go_region_held3 (fun w' => w'.cell? ⟨n, 0, none⟩ = some (.map (some b)) ∧ w'.cell? ⟨w.heap.size, 0, none⟩ = some (.slice A l.length cc) ∧ w'.cell? ⟨w.heap.size, 1, none⟩ = some (.string tp) ∧ w'.cell? ⟨w.heap.size, 2, none⟩ = some (.string pl) ∧ w'.cell? ⟨w.heap.size, 3, none⟩ = some (.int .u8 q) ∧ w'.cell? ⟨w.heap.size, 4, none⟩ = some (.bool rt))
    (first | exact HS.out _ (Keep.refl _ _) | exact HS.out _ (Keep.refl _ _).drew | exact HS.out _ (hkm.mono (by simp)) | exact HS.out _ (hkn.mono (by simp)) | exact HS.out _ ((hKU.out.1.mono (by simp)).then hKU.out.2))
    (first
      | (go_at_call 24; refine (HM.out _ (by first | exact hkn | exact (Keep.refl [] w0).drew)).mono ?_; rintro e wm ⟨v, rfl, hom, hkm0⟩; have hkm : Keep [] w0 wm := (by first | exact hkn.then hkm0 | exact (Keep.refl [] w0).drew.then hkm0); (first | (have _hkn := hkn; obtain ⟨wu, hru, hMu, hKu, hzu⟩ := run_mapUpdate_map (P := Try.prog) lawStr Try.underlying65 (H0.out.keep hkm).map c (⟨⟨c, 0, q, rt, noWD l, tp, pl⟩, v, nu⟩ : Hd); simp only [heldV] at hru; have hU := hide hMu; have hKU := hide (And.intro hkm hKu); have hOv := hide (hom); have hcu : wu.cell? ⟨n, 1, none⟩ = some (ptrTo tn) := ((H0.out.keep hkm).box.keep hKu (by simpa using hne)).cell 1; clear hMu hKu hzu; clear _hkn) | skip))
      | (go_at_call 25; refine (HN.out _ (by first | exact hkm | exact (Keep.refl [] w0).drew)).mono ?_; rintro e wn ⟨rfl, hkn0⟩; have hkn : Keep [] w0 wn := (by first | exact hkm.then hkn0 | exact (Keep.refl [] w0).drew.then hkn0); (first | (have _hkm := hkm; obtain ⟨wu, hru, hMu, hKu, hzu⟩ := run_mapUpdate_map (P := Try.prog) lawStr Try.underlying65 (H0.out.keep hkn).map c (⟨⟨c, 0, q, rt, noWD l, tp, pl⟩, v, nu⟩ : Hd); simp only [heldV] at hru; have hU := hide hMu; have hKU := hide (And.intro hkn hKu); have hOv := hide (hom.keep hkn0 (by simp)); have hcu : wu.cell? ⟨n, 1, none⟩ = some (ptrTo tn) := ((H0.out.keep hkn).box.keep hKu (by simpa using hne)).cell 1; clear hMu hKu hzu; clear _hkm) | skip)))
  all_goals
    have hkw := hKU.out.1
    have hMk : Ws W _ n b tn tb hs r K := H0.out.keep hkw
    have hKu := hKU.out.2
    go_wp2_with fail
    refine (tStop (hMk.tim.off hKu (by intro x hx _; simp at hx; rw [hx]; exact ⟨hMk.ntn, hMk.ne⟩)) c).mono ?_
    rintro e w2 ⟨rfl, hT, hK2⟩
    go_wp2_with fail
    go_end0
    have hown : ∀ p ∈ AL.set hs c (⟨⟨c, 0, q, rt, noWD l, tp, pl⟩, v, nu⟩ : Hd), Own kPr PrT W.heap.size _ p.2.pv p.2.m.f4 := fun p hp => by
      rcases mem_set hp with hp | hp
      · rw [hp]; exact hOv.out.lower (by have := HH.out.box.lt; have := HH.out.bn; have := HK0.out.size; have := hkn.size; have h5 : w0.drew.heap.size = w0.heap.size := rfl; omega)
      · exact hMk.own p hp
    have hlen : (AL.set hs c (⟨⟨c, 0, q, rt, noWD l, tp, pl⟩, v, nu⟩ : Hd)).length ≤ K + 1 := by
      have := AL.length_set hs c (⟨⟨c, 0, q, rt, noWD l, tp, pl⟩, v, nu⟩ : Hd)
      have := hMk.len
      split at * <;> omega
    have h1 := hMk.offb (K' := K + 1) hKu hU.out (by omega) hown (fun p hp => by
      rcases mem_set hp with hp | hp
      · rw [hp]; exact hnum
      · exact hMk.dl p hp) (fun p hp => set_isSome (hMk.inn p hp)) hlen (fun p hp => by
      rcases mem_set hp with hp | hp
      · rw [hp]; exact Nat.le_trans (List.length_filter_le _ _) HL.out
      · exact hMk.plen p hp)
    have h2 := h1.offt hK2 (hT.mono (Nat.le_succ K)) (Nat.le_refl _) (fun p hp => set_isSome (hMk.inn p (List.mem_filter.1 hp).1))
    exact ⟨v, rfl, h2, (((HK0.out.then hkw).trans hKu (S := [b, tb]) (by simp) (by simp)).trans hK2 (fun _ h _ => h) (by simp))⟩
theorem wHold {W w : World} {n b tn tb : Nat} {hs : List (BA × Hd)} {r : List En} {K : Nat} (h : Ws W w n b tn tb hs r K) (c : BA) {base : Nat} {pv : Value} {l : List SP} (tp pl : BA) (q : Int) (rt : Bool) (ho : Own kPr PrT base w pv l) (hl : l.length ≤ 100) (hnum : 0 ≤ numPr l 24 0 ∧ numPr l 24 0 ≤ 4294967295) :
    Calls Try.prog 8 #[ptrTo n, .string c, willV pv tp pl q rt] w (Px fun (v : Value) e w' => e = .returned (.tuple #[]) ∧ Ws W w' n b tn tb (AL.set hs c ⟨⟨c, 0, q, rt, noWD l, tp, pl⟩, v, numPr l 24 0⟩) (rmE r c) (K + 1) ∧ KM W w w') :=
  (wHoldK h c tp pl q rt ho hl hnum).mono fun e w' ⟨v, h1, h2, h3⟩ => ⟨v, h1, h2, h.km h3 (by simp)⟩
def endW (hs : List (BA × Hd)) (r : List En) (c : BA) (now ex : Int) : List En := match AL.get hs c with | some x => insE (rmE r c) (c, now + min x.d ex) | none => r
theorem wEndK {W w : World} {n b tn tb : Nat} {hs : List (BA × Hd)} {r : List En} {K : Nat} (h : Ws W w n b tn tb hs r K) (c : BA) (now ex : Int) (hc : c.size ≤ 100) (h0 : 0 ≤ now) (h1 : now ≤ 1000000000000) (h2 : 0 ≤ ex) (h3 : ex ≤ 4294967295) :
    Calls Try.prog 9 #[ptrTo n, .string c, .int .i64 now, .int .u32 ex] w fun e w' => e = .returned (.tuple #[]) ∧ Ws W w' n b tn tb hs (endW hs r c now ex) (K + 1) ∧ Keep [b, tb] w w' := by
  have c0 : w.cell? ⟨n, 0, none⟩ = some (.map (some b)) := h.box.cell 0
  have look := lookH h c true
  obtain ⟨xA, xc, hpv⟩ := h.pvf c
  have hdl : (AL.get hs c).isSome = true → 0 ≤ ((AL.get hs c).getD Hd.zero).d ∧ ((AL.get hs c).getD Hd.zero).d ≤ 4294967295 := fun hq => by
    cases hg : AL.get hs c with
    | none => rw [hg] at hq; cases hq
    | some x => exact h.dl _ (get_mem2 hg)
  have hen : endW hs r c now ex = if (AL.get hs c).isSome then insE (rmE r c) (c, now + min ((AL.get hs c).getD Hd.zero).d ex) else r := by
    unfold endW; cases AL.get hs c <;> rfl
  rw [hen]
  have HH := hide h
  obtain ⟨x, hx⟩ : ∃ x, (AL.get hs c).getD Hd.zero = x := ⟨_, rfl⟩
  rw [hx] at look hpv hdl ⊢
  obtain ⟨⟨x0, x1, x2, x3, x4, x5, x6⟩, xp, xd⟩ := x
  simp only at hpv hdl
  subst hpv
  simp only [heldV, if_true] at look
  obtain ⟨xl, hxl⟩ : ∃ xl, x4.length = xl := ⟨_, rfl⟩
  rw [hxl] at look
  obtain ⟨q3, hq3⟩ : ∃ q3, (AL.get hs c).isSome = q3 := ⟨_, rfl⟩
  rw [hq3] at look hdl ⊢
  have HQ := hide hq3
  have hka := (Keep.refl [] w).alloc (.cells #[.string x0, .int .i64 x1, .int .u8 x2, .bool x3, .slice xA xl xc, .string x5, .string x6, .int .u32 xd] 73)
  clear hx h hen hq3 hxl
  cases q3
  · clear hdl
    go_enter Try.func9, Try.ntmps9
    go_wp2_with fail
    go_end0
    exact ⟨rfl, (HH.out.keep hka).mono (by omega), hka.mono (by simp)⟩
  · obtain ⟨hd0, hd1⟩ := hdl rfl
    clear hdl
    simp only [if_true]
    have hX := Blk.new w #[.string x0, .int .i64 x1, .int .u8 x2, .bool x3, .slice xA xl xc, .string x5, .string x6, .int .u32 xd] 73
    obtain ⟨w0, hw0⟩ : ∃ w0, w.alloc (.cells #[.string x0, .int .i64 x1, .int .u8 x2, .bool x3, .slice xA xl xc, .string x5, .string x6, .int .u32 xd] 73) = w0 := ⟨_, rfl⟩
    rw [hw0] at hX hka
    have HA := hide (HH.out.keep hka)
    have k0 : w0.cell? ⟨w.heap.size, 7, none⟩ = some (.int .u32 xd) := hX.cell 7
    have k1 : w0.cell? ⟨n, 1, none⟩ = some (ptrTo tn) := HA.out.box.cell 1
    clear hX
    go_enter Try.func9, Try.ntmps9
    go_wp2_with fail
    clear hw0
    go_still_tail 12, (by kernel_rfl)
    have HA2 := hide (HA.out.keep (Keep.refl [] w0).drew)
    go_wp2_with fail
    ((with_reducible refine (tSet HA2.out.tim c (now + min xd ex) hc).mono ?_))
    rintro e w2 ⟨rfl, hT, hK2⟩
    go_wp2_with fail
    go_end0
    have hk3 : Keep [tb] w w2 := ((hka.mono (by simp)).then (Keep.refl [tb] w0).drew).then hK2
    refine ⟨rfl, HA2.out.offt hK2 hT (by omega) (fun p hp => ?_), hk3.mono (by simp)⟩
    rcases List.mem_cons.1 ((insE_perm _ _).mem_iff.1 hp) with rfl | hp
    · exact HQ.out
    · exact HH.out.inn p (List.mem_filter.1 hp).1
theorem wEnd {W w : World} {n b tn tb : Nat} {hs : List (BA × Hd)} {r : List En} {K : Nat} (h : Ws W w n b tn tb hs r K) (c : BA) (now ex : Int) (hc : c.size ≤ 100) (h0 : 0 ≤ now) (h1 : now ≤ 1000000000000) (h2 : 0 ≤ ex) (h3 : ex ≤ 4294967295) :
    Calls Try.prog 9 #[ptrTo n, .string c, .int .i64 now, .int .u32 ex] w fun e w' => e = .returned (.tuple #[]) ∧ Ws W w' n b tn tb hs (endW hs r c now ex) (K + 1) ∧ KM W w w' :=
  (wEndK h c now ex hc h0 h1 h2 h3).mono fun e w' ⟨k1, k2, k3⟩ => ⟨k1, k2, h.km k3 (by simp)⟩
end Go.Proofs.Ytegnmdnflmlioaa
