import Derived.Test.YtbgondiibnjcgaaDoorRt3
import Derived.Test.YtbgondiibnjcgaaDoorRngD
namespace Go.Proofs.YtbgondiibnjcgaaDoor
open Go.RowKit Go.Shelf Go.Proofs.YtbgondiibnjcgaaDoor.PRetainPlays Go.Proofs.YtbgondiibnjcgaaDoorW.PrintWords Go.Proofs.YtbgondiibnjcgaaDoorW.PrintLast
set_option maxRecDepth 100000
set_option linter.unusedVariables false
set_option maxHeartbeats 1000000
def goneM (now : Int) (m : Rm) : Bool := goneV m.at_ m.ps now
theorem dfOne {w : World} {base nb : Nat} {now : Int} (k : ByteArray) (m : Rm) (hO : Own kPr PrT base w m.pv m.ps) (hl : m.ps.length ≤ 100) (hc : w.cell? ⟨nb, 0, none⟩ = some (.int .i64 now)) :
    Calls Tryd.prog 46 #[.string k, rmV m, .pointer (some ⟨nb, 0, none⟩)] w fun e w' => e = .returned (.bool (goneM now m)) ∧ Keep [] w w' := by
  obtain ⟨m0, m1, m2, m3, m4, mv, m5, m6⟩ := m
  simp only at hO hl
  obtain ⟨A, c, rfl⟩ := hO.slice
  unfold rmV goneM
  simp only
  have hlt := World.block_lt_of_cell? _ _ hc
  have hk0 := (Keep.refl [] w).alloc (.cells #[.string m0, .int .i64 m1, .int .u8 m2, .bool m3, .slice A m4.length c, .string m5, .string m6] 25)
  have hX := Blk.new w #[.string m0, .int .i64 m1, .int .u8 m2, .bool m3, .slice A m4.length c, .string m5, .string m6] 25
  have hcl := hide (mgone (hO.keep hk0 (by simp)) (by omega) m0 m5 m6 m1 m2 m3 now)
  have hc1 := (hk0.cell (p := ⟨nb, 0, none⟩) hlt (by simp)).trans hc
  obtain ⟨g, hg⟩ : ∃ g, goneV m1 m4 now = g := ⟨_, rfl⟩
  rw [hg] at hcl ⊢
  have HK := hide hk0
  obtain ⟨nl, hnl⟩ : ∃ nl, m4.length = nl := ⟨_, rfl⟩
  rw [hnl] at hcl hX hk0 hc1 HK ⊢
  have q0 := hX.cell 0
  have q1 := hX.cell 1
  have q2 := hX.cell 2
  have q3 := hX.cell 3
  have q4 := hX.cell 4
  have q5 := hX.cell 5
  have q6 := hX.cell 6
  simp at q0 q1 q2 q3 q4 q5 q6
  clear hO hk0 hg hnl hX hl hlt
  go_enter Tryd.func46, Tryd.ntmps46
  go_wp2_with fail
  refine hcl.out.mono ?_
  rintro e w1 ⟨rfl, hk1⟩
  have HK1 := hide hk1
  clear hk1
  go_wp2_with fail
  go_ret
  exact ⟨rfl, HK.out.then HK1.out⟩
theorem pair_unique {κ ν : Type} {l : List (κ × ν)} (hn : (l.map (·.1)).Nodup) {p q : κ × ν} (hp : p ∈ l) (hq : q ∈ l) (h : p.1 = q.1) : p = q := by
  induction l with
  | nil => simp at hp
  | cons a t ih =>
    simp only [List.map_cons, List.nodup_cons] at hn
    rcases List.mem_cons.1 hp with e1 | h1
    · rcases List.mem_cons.1 hq with e2 | h2
      · rw [e1, e2]
      · exact absurd (by rw [← e1, h]; exact List.mem_map_of_mem h2) hn.1
    · rcases List.mem_cons.1 hq with e2 | h2
      · exact absurd (by rw [← e2, ← h]; exact List.mem_map_of_mem h1) hn.1
      · exact ih hn.2 h1 h2
theorem del_mem {κ ν : Type} [DecidableEq κ] {l : List (κ × ν)} {x : κ} (hn : (l.map (·.1)).Nodup) {p : κ × ν} (hp : p ∈ l) (h : p.1 ≠ x) : p ∈ AL.del l x := by
  induction l with
  | nil => simp at hp
  | cons a t ih =>
    obtain ⟨a, y⟩ := a
    simp only [List.map_cons, List.nodup_cons] at hn
    simp only [AL.del]
    rcases List.mem_cons.1 hp with rfl | hp
    · rw [if_neg (fun e => h e.symm)]; simp
    · split
      · exact hp
      · exact List.mem_cons_of_mem _ (ih hn.2 hp)
def dfRel (w0 : World) (b r : Nat) (hs : List (ByteArray × Rm)) (now : Int) (wr : World) : Prop :=
  ∃ l ss, RangeAt wr b r Value.string rmV l ss ∧ l.Sublist hs ∧ (∀ p ∈ l, p.1 ∈ ss → goneM now p.2 = false) ∧ (∀ p ∈ hs, goneM now p.2 = false → p ∈ l) ∧ Keep [b, r] w0 wr
theorem dfAll {W w : World} {n b nb : Nat} {most now : Int} {hs : List (ByteArray × Rm)} (h : Rs W w n b most hs) (hc : w.cell? ⟨nb, 0, none⟩ = some (.int .i64 now)) :
    Calls Tryd.prog 45 #[.map (some b), .func (.func 46) #[] #[.pointer (some ⟨nb, 0, none⟩)]] w fun e w' => e = .returned (.tuple #[]) ∧ Rs W w' n b most (hs.filter fun p => !goneM now p.2) ∧ Keep [b] w w' := by
  have hnb : nb ≠ b := by
    rintro rfl
    obtain ⟨es, cl, hm, _⟩ := h.map
    simp [World.cell?, hm] at hc
  have hnd := h.map.nodup
  have hlt := World.block_lt_of_cell? _ _ hc
  have hblt := h.map.lt
  have hne := h.map.ne_blk h.box
  have hnlt := h.box.lt
  have HH := hide h
  have HC := hide hc
  have hM := h.map
  clear h hc
  go_enter Tryd.func45, Tryd.ntmps45
  go_wp2_with (refine wpList_range_map _ rfl _ 81 rfl 9 25 Tryd.underlying81 b hs rfl hM ?_; intro wR hR0 hg0 hz0)
  have hk0 : Keep [] w wR := Keep.of_grown hg0 (fun k e => by cases e)
  try go_frame
  go_loopw [8] (fun _ wr => dfRel wR b w.heap.size hs now wr) (fun _ wr => wr.rangeLeft b w.heap.size)
  case atStart => exact ⟨hs, [], hR0, List.Sublist.refl _, by simp, fun p hp _ => hp, Keep.refl _ _⟩
  case round =>
    obtain ⟨l, ss, hRs, hsub, h1, h2, hKs⟩ := hrel
    have hndl : (l.map (·.1)).Nodup := hnd.sublist (hsub.map _)
    go_wp2_with (refine wpList_next_map _ rfl _ rfl b w.heap.size l ss strInj hndl rfl hRs ?_ ?_)
    · intro hall
      have hfull : Keep [b] w wr := hk0.trans hKs (by simp) (fun x hx hlt => by simp at hx ⊢; omega)
      have hfin := filter_of (·.1) (fun p : ByteArray × Rm => goneM now p.2) hsub hnd (fun p hp => h1 p hp (by first | exact hall _ (List.mem_map.2 ⟨p, hp, rfl⟩) | exact hall _ _ hp)) h2
      have hMr := hRs.mapAt hndl
      have HF := hide hfin
      clear hfin hall
      go_wp2_with fail
      go_end0
      have hf := HF.out
      subst hf
      exact ⟨rfl, HH.out.offb hfull hMr (fun p hp => HH.out.own p (List.mem_filter.1 hp).1) (fun p hp => HH.out.plen p (List.mem_filter.1 hp).1), hfull⟩
    · intro x v wN hxv hll hRN hlt' hgN hzN hen
      have hKN0 : Keep [w.heap.size] wr wN := Keep.of_grown hgN (fun k e _ => by cases e; simp)
      have hKN : Keep [b, w.heap.size] wR wN := hKs.trans hKN0 (fun _ h _ => h) (fun x hx _ => by simp at hx ⊢; omega)
      have hfN : Keep [b] w wN := hk0.trans hKN (by simp) (fun x hx hlt => by simp at hx ⊢; omega)
      have hcN : wN.cell? ⟨nb, 0, none⟩ = some (.int .i64 now) := (hfN.cell (p := ⟨nb, 0, none⟩) hlt (by simpa using hnb)).trans HC.out
      have hxh := hsub.subset hxv
      have hOv := (HH.out.own _ hxh).keep hfN (by simp; exact not_of_map HH.out.map _)
      have hpl := HH.out.plen _ hxh
      simp only at hOv hpl
      obtain ⟨gg, hgg⟩ : ∃ g, goneM now v = g := ⟨_, rfl⟩
      have hcon := fun (w' : World) (hk : Keep [] wN w') => hgg ▸ dfOne x v (hOv.keep hk (by simp)) hpl ((hk.cell (p := ⟨nb, 0, none⟩) (World.block_lt_of_cell? _ _ hcN) (by simp)).trans hcN)
      obtain ⟨m0, m1, m2, m3, m4, mv, m5, m6⟩ := v
      simp only at hOv
      obtain ⟨A, c, rfl⟩ := hOv.slice
      obtain ⟨nl, hnl⟩ : ∃ nl, m4.length = nl := ⟨_, rfl⟩
      simp only [rmV] at hen hcon
      rw [hnl] at hen
      simp only [hnl] at hcon
      have HCON := hide hcon
      have HRN := hide hRN
      have HLT := hide hlt'
      have HG := hide hgg
      have HOV := hide hOv
      have hka : Keep [] wN (wN.alloc (.cells #[.string m0, .int .i64 m1, .int .u8 m2, .bool m3, .slice A nl c, .string m5, .string m6] 25)) := (Keep.refl [] wN).alloc _
      have hX := Blk.new wN #[.string m0, .int .i64 m1, .int .u8 m2, .bool m3, .slice A nl c, .string m5, .string m6] 25
      have q0 := hX.cell 0
      have q1 := hX.cell 1
      have q2 := hX.cell 2
      have q3 := hX.cell 3
      have q4 := hX.cell 4
      have q5 := hX.cell 5
      have q6 := hX.cell 6
      simp at q0 q1 q2 q3 q4 q5 q6
      have HKA := hide hka
      clear hzN hlt' hRN hRs hgg hnl hcon hOv hX hka hgN
      go_wp2_with fail
      refine (HCON.out _ HKA.out).mono ?_
      rintro e w2 ⟨rfl, hk2⟩
      have hkN2 := HKA.out.then hk2
      obtain ⟨hR2, hL2⟩ := HRN.out.keep hkN2 (by simp) (by simp)
      have hf2 : Keep [b, w.heap.size] wR w2 := hKN.then (hkN2.mono (by simp))
      have HK2 := hide hf2
      have HLe := hide hL2
      clear hf2 hL2 hkN2 hk2
      cases gg
      · go_wp2_with fail
        go_roundw
        case rel =>
          refine ⟨l, ss ++ [x], hR2, hsub, ?_, h2, HK2.out⟩
          intro p hp hps
          rcases List.mem_append.1 hps with hps | hps
          · exact h1 p hp hps
          · simp at hps
            have hpx : p = (x, _) := pair_unique hndl hp hxv hps
            rw [hpx]; exact HG.out
        case measure => rw [HLe.out]; exact HLT.out
      · go_wp2_with (refine wpList_delete_range rfl _ _ 81 9 rfl 25 lawStr strInj Tryd.underlying81 b w.heap.size l ss x hndl rfl hR2 rfl ?_; intro w3 hR3 hK3 hz3 hL3; go_frame)
        go_roundw
        case rel =>
          refine ⟨AL.del l x, ss, hR3, (del_sublist l x).trans hsub, fun p hp hps => h1 p ((del_sublist l x).subset hp) hps, fun p hp hg => ?_, HK2.out.then (hK3.mono (by simp))⟩
          refine del_mem hndl (h2 p hp hg) ?_
          intro e
          have hpx : p = (x, _) := pair_unique hndl (h2 p hp hg) hxv e
          rw [hpx] at hg
          have := HG.out
          rw [hg] at this; cases this
        case measure => have h5 := HLT.out; have h6 := HLe.out; omega
theorem rExpire {W w : World} {n b : Nat} {most : Int} {hs : List (ByteArray × Rm)} (h : Rs W w n b most hs) (now : Int) (hl : hs.length < 1000000) :
    Calls Tryd.prog 31 #[.pointer (some ⟨n, 0, none⟩), .int .i64 now] w fun e w' => e = .returned (.int .i64 ((hs.length : Int) - ((hs.filter fun p => !goneM now p.2).length : Int))) ∧ Rs W w' n b most (hs.filter fun p => !goneM now p.2) ∧ Keep [b] w w' := by
  have hk0 := (Keep.refl [] w).alloc (.cells #[.int .i64 now] 3)
  have hX := Blk.new w #[.int .i64 now] 3
  have h0 := h.keep hk0
  have c0 := h0.box.cell 0
  have hlen := fun ty => run_len_map (w := w.alloc (.cells #[.int .i64 now] 3)) Tryd.underlying81 h0.map ty
  have hD := hide (dfAll h0 (hX.cell 0))
  have hfl := List.length_filter_le (fun p : ByteArray × Rm => !goneM now p.2) hs
  have HK := hide hk0
  obtain ⟨z, hz⟩ : ∃ z : Int, (hs.length : Int) = z := ⟨_, rfl⟩
  obtain ⟨l2, hl2⟩ : ∃ l2, (hs.filter fun p => !goneM now p.2) = l2 := ⟨_, rfl⟩
  rw [hl2] at hD hfl ⊢
  rw [hz] at hlen ⊢
  obtain ⟨z2, hz2⟩ : ∃ z : Int, (l2.length : Int) = z := ⟨_, rfl⟩
  rw [hz2]
  have hb0 : 0 ≤ z ∧ z < 1000000 ∧ 0 ≤ z2 ∧ z2 ≤ z := by omega
  obtain ⟨hb1, hb2, hb4, hb5⟩ := hb0
  have HZ2 := hide hz2
  clear hl2 hz hz2 hfl h h0 hk0 hX
  simp at c0
  go_enter Tryd.func31, Tryd.ntmps31
  go_wp2_with fail
  refine hD.out.mono ?_
  rintro e w1 ⟨rfl, h1, hk1⟩
  have c1 : w1.cell? ⟨n, 0, none⟩ = some (.map (some b)) := h1.box.cell 0
  have hlen1 := fun ty => run_len_map (w := w1) Tryd.underlying81 h1.map ty
  rw [HZ2.out] at hlen1
  have H1 := hide h1
  have HK1 := hide hk1
  clear h1 hk1
  go_wp2_with fail
  all_goals
    go_ret
    exact ⟨rfl, H1.out, (HK.out.mono (by simp)).then HK1.out⟩
end Go.Proofs.YtbgondiibnjcgaaDoor
