/- TimerStops: the walk. -/
import Derived.Test.YtbgondiibnjcgaaAct18
import Derived.Test.YtbgondiibnjcgaaStill
import Derived.Test.YtbgondiibnjcgaaIns
import Derived.Test.YtbgondiibnjcgaaG18
import Derived.Outline
import Derived.Deep.DeepFit
import Derived.Deep.CutBlock
import Derived.Deep.DeepCutAuto
import Derived.Deep.CutRange
namespace Go.Proofs.Ytbgondiibnjcgaa
open Go.RowKit Go.Shelf Go.Proofs.Ytbgondiibnjcgaa.PTimerPlays Go.Proofs.YtbgondiibnjcgaaW.PrintWords Go.Proofs.YtbgondiibnjcgaaW.PrintLast
set_option maxRecDepth 10000
set_option linter.unusedVariables false
set_option maxHeartbeats 2000000
attribute [local go_sem] Oper.semAt_some

/-- The timers at n, the law's boxes: all in step with r. -/
structure St (W w : World) (n b tB lB : Nat) (a1 : Int) (v : Value) (r : List En) (K : Nat) : Prop where
  mt : Mt W w n b r K
  own : Own kE R18.RefT W.heap.size w v r
  below : Below W.heap.size W w
  bn : Blk w W.heap.size #[.int .i64 a1] 3
  br : Blk w (W.heap.size + 1) #[.bool false] 4
  bt : Blk w tB #[ptrTo n] 25
  bl : Blk w lB #[v] 39
  hd : lB ≠ n ∧ lB ≠ b ∧ lB ≠ tB ∧ W.heap.size + 1 < lB

theorem St.keep {W w w' : World} {n b tB lB : Nat} {a1 : Int} {v : Value} {r : List En} {K : Nat} (h : St W w n b tB lB a1 v r K) (hk : Keep [] w w') : St W w' n b tB lB a1 v r K :=
  ⟨h.mt.keep hk, h.own.keep hk (by simp), Keep.below_of h.below hk (by simp), h.bn.keep hk (by simp), h.br.keep hk (by simp), h.bt.keep hk (by simp), h.bl.keep hk (by simp), h.hd⟩

def stopsRel (W : World) (n b tB lB : Nat) (a1 : Int) (len : Nat) (i : Value) (wr : World) : Prop := ∃ (k : Nat) (v : Value) (r : List En), i = .int .i64 k ∧ k ≤ len ∧ k ≤ 30 ∧ St W wr n b tB lB a1 v r k

/-- The loop over All, behind these. -/
structure Rn (W0 w : World) (n b kB : Nat) (r pre : List En) (W : World) : Prop where
  pr : pre = r.take pre.length
  mt : Mt W0 W n b (r.drop pre.length) 30
  bk : Blk W kB #[.int .i64 pre.length] 3
  keep : Keep [b, kB] w W

theorem Rn.grown {W0 w : World} {n b kB : Nat} {r pre : List En} {A B : World} {row : Option Nat} (h : Rn W0 w n b kB r pre A) (hn : n < w.heap.size) (hb : b < w.heap.size) (hg : A.grownBy B row) (hr : ∀ q, row = some q → w.heap.size ≤ q ∧ ∃ o : Obj, A.heap[q]? = some o ∧ o.isCells = false) : Rn W0 w n b kB r pre B :=
  ⟨h.pr, h.mt.off (S := row.toList) (Keep.of_grown hg (fun k e _ => by simp [e])) (fun q hq _ => by have := (hr q (by simpa using hq)).1; omega), blk_grown h.bk hg (fun q e => (hr q e).2), keep_grown h.keep hg (fun q e => (hr q e).1)⟩

def GoOn (a1 : Int) (pre : List En) : Prop := 1 ≤ a1 → (pre.length : Int) < a1
def Odd (r pre : List En) : Prop := ¬ pre <+: r
def Full (a1 : Int) (pre : List En) : Prop := (pre.length : Int) = a1 ∧ 0 < pre.length

theorem rm_drop {r : List En} (hn : (r.map (·.1)).Nodup) {k : Nat} (hk : k < r.length) : rmE (r.drop k) r[k].1 = r.drop (k + 1) := by
  rw [List.drop_eq_getElem_cons hk]
  unfold rmE
  rw [List.filter_cons_of_neg (by simp)]
  refine List.filter_eq_self.2 fun p hp => ?_
  have h2 : ((r.drop k).map (·.1)).Nodup := hn.sublist ((List.drop_sublist _ _).map _)
  rw [List.drop_eq_getElem_cons hk, List.map_cons, List.nodup_cons] at h2
  simp only [decide_eq_true_eq]
  intro e
  exact h2.1 (List.mem_map.2 ⟨p, hp, e⟩)

theorem odd_of {r pre : List En} {x : En} (hk : pre.length < r.length) (h : r[pre.length] ≠ x) : Odd r (pre ++ [x]) := by
  rintro ⟨t, rfl⟩
  simp at h

theorem take_step {r pre : List En} {x : En} (hp : pre = r.take pre.length) (hk : pre.length < r.length) (h : r[pre.length] = x) : pre ++ [x] = r.take (pre ++ [x]).length := by
  rw [List.length_append, List.length_singleton, List.take_succ_eq_append_getElem hk, h, ← hp]

theorem fin_world {W0 w : World} {D q : Nat} {T : TypeId} (hB : Below W0.heap.size W0 w) (hb : Blk w q #[.bool false] T) (hq : W0.heap.size ≤ q) (hqD : q ≠ D) (hD : W0.heap.size ≤ D) :
    Below W0.heap.size W0 ((w.setCell ⟨q, 0, none⟩ (.bool true)).putObj D (.deferred none)) ∧ ((w.setCell ⟨q, 0, none⟩ (.bool true)).putObj D (.deferred none)).cell? ⟨q, 0, none⟩ = some (.bool true) := by
  have hk := ((Keep.refl [q, D] w).setCell (p := ⟨q, 0, none⟩) (fun _ => by simp) (.bool true)).putObj (D := D) (fun _ => by simp) (.deferred none)
  refine ⟨Keep.below_of hB hk (by simp; omega), ?_⟩
  have h := ((hb.set 0 (.bool true)).of_block (w' := World.putObj _ D (.deferred none)) (World.putObj_heap_other (by omega))).cell 0
  simpa using h

theorem keepsFrom_of_keep {B : Nat} {S : List Nat} {W W' : World} (h : Keep S W W') (hs : ∀ q ∈ S, q < B) : KeepsFrom B W W' :=
  ⟨h.size, fun k o hB hk _ => (h.block k (Array.getElem?_eq_some_iff.1 hk).1 (fun hm => by have := hs k hm; omega)).trans hk⟩

theorem stops_walk (a0 : Option Addr) (len0 cap0 : Nat) (z0 : Sh.T (.slice ShAct)) (a1 : Int) (w : World) (r0 : Sh.Rd w (.slice ShAct) z0 [.slice a0 len0 cap0]) (w1 : (Lit.int .i64 a1).wf = true) :
    Calls Try.prog 4 #[.slice a0 len0 cap0, .int .i64 a1] w fun e w' => e = .returned (.bool true) ∧ Below w.heap.size w w' := by
  have hl0 : len0 ≤ maxLen := by obtain ⟨_, h1, h2⟩ := Sh.slice_len r0; omega
  unfold maxLen at hl0
  refine callsIn_wide (n := 10) |>.1 ?_
  refine callsIn_of_wp_marks Try.func4 rfl trivial ?_
  simp only [Try.ntmps4, List.size_toArray, List.length_cons, List.length_nil, Nat.reduceAdd, Nat.reduceSub, Array.replicate_succ, Array.replicate_zero, List.push_toArray, List.append_toArray, List.nil_append, List.cons_append]
  refine wpIn_wide.2 ?_
  have hK0 := ((Keep.refl [] w).alloc (.cells #[.int .i64 a1] 3)).alloc (.cells #[.bool false] 4)
  have hN := (Blk.new w #[.int .i64 a1] 3).alloc (.cells #[.bool false] 4)
  have hR : Blk _ (w.heap.size + 1) #[.bool false] 4 := Blk.new' (w := w.alloc (.cells #[.int .i64 a1] 3)) _ _ (by simp)
  obtain ⟨w0, hw0⟩ : ∃ w0, (w.alloc (.cells #[.int .i64 a1] 3)).alloc (.cells #[.bool false] 4) = w0 := ⟨_, rfl⟩
  have hz0' : w0.heap.size = w.heap.size + 2 := by rw [← hw0]; simp
  rw [hw0] at hK0 hN hR
  have hz0 := hK0.size
  go_wp2_with fail
  try rw [hw0]
  refine (awake18 _).mono ?_
  rintro e wa ⟨rfl, hka⟩
  clear hw0
  have hza := hka.size
  go_wp2_with fail
  refine (tNew (W := w) (w := wa) (by omega)).mono ?_
  rintro e w3 ⟨rfl, hM3, hk3⟩
  have hz3 := hk3.size
  have hn3 := hM3.nlt
  have hx1 := (Keep.refl [] w3).alloc (.cells #[ptrTo (wa.heap.size + 1)] 25)
  go_wp2_with fail
  have hP : St w (((w3.alloc (.cells #[ptrTo (wa.heap.size + 1)] 25)).alloc (.cells #[] R18.RefT)).alloc (.cells #[.slice (some ⟨w3.heap.size + 1, 0, none⟩) 0 0] 39)) (wa.heap.size + 1) wa.heap.size w3.heap.size (w3.heap.size + 1 + 1) a1 (.slice (some ⟨w3.heap.size + 1, 0, none⟩) 0 0) [] 0 := by
    have g1 := (Keep.refl [] w3).alloc (.cells #[ptrTo (wa.heap.size + 1)] 25)
    have g2 := g1.alloc (.cells #[] R18.RefT)
    have g3 := g2.alloc (.cells #[.slice (some ⟨w3.heap.size + 1, 0, none⟩) 0 0] 39)
    have g0 := (hK0.then hka).then hk3
    have hOw := Own.fresh (d := kE) (e := R18.RefT) (base := w.heap.size) (w := w3.alloc (.cells #[ptrTo (wa.heap.size + 1)] 25)) (by simp; omega)
    rw [World.size_alloc] at hOw
    exact ⟨hM3.keep g3, hOw.keep ((Keep.refl [] _).alloc _) (by simp), (g0.then g3).below,
      ((hN.keep hka (by simp)).keep hk3 (by simp)).keep g3 (by simp), ((hR.keep hka (by simp)).keep hk3 (by simp)).keep g3 (by simp),
      ((Blk.new w3 _ _).alloc _).alloc _, Blk.new' _ _ (by simp), by omega⟩
  clear hx1
  go_loopw [7] (fun i wr => stopsRel w (wa.heap.size + 1) wa.heap.size w3.heap.size (w3.heap.size + 1 + 1) a1 len0 i wr) (fun i _ => 30 - (intOf i).toNat)
  case atStart => exact ⟨0, _, [], rfl, by omega, by omega, hP⟩
  case round =>
    obtain ⟨k, v, r, rfl, hk1, hk2, hSt⟩ := hrel
    obtain ⟨c, hc⟩ : ∃ c : Bool, c = decide (k < len0 ∧ k < 30) := ⟨_, rfl⟩
    have HC := hide hc
    clear hc hP hM3 hN hR
    go_upto_region 6 with fail
    go_cut [24] from 17 to 49 (fun s wx => s = .bool c ∧ wx = wr)
    case first =>
      by_cases h1 : k < len0
      · by_cases h2 : k < 30
        · obtain rfl : c = true := by rw [HC.out]; simp [h1, h2]
          go_wp2_with fail
          go_meet
          exact ⟨by first | rfl | (simp; omega), rfl⟩
        · obtain rfl : c = false := by rw [HC.out]; simp [h2]
          go_wp2_with fail
          go_meet
          exact ⟨by first | rfl | (simp; omega), rfl⟩
      · obtain rfl : c = false := by rw [HC.out]; simp [h1]
        go_wp2_with fail
        go_meet
        exact ⟨rfl, rfl⟩
    case rest =>
    obtain ⟨rfl, rfl⟩ := hcut
    cases c
    · clear HC
      obtain ⟨l, hT, hn1, hb1, hE, hrl, hsm⟩ := hSt.mt.ex
      have hsrt := hSt.mt.sorted
      have hnd := hSt.mt.nodup
      have et := hSt.bt.cell 0
      simp at et
      have hall := hide (timAll_any _ _ l _ hT (small_l hE hsm) (by have := hE.len; omega))
      go_wp2_with fail
      refine hall.out.mono ?_
      rintro e w1 ⟨xs, rfl, hEx, ⟨v0, hR1, hR2⟩, hK1⟩
      obtain rfl := hEx.eq hE
      have hS1 := hSt.keep hK1
      have hsz1 := hK1.size
      have hSl := hS1.bl.lt
      have hbc := hSt.mt.base
      clear et hall hK1 hSt hT
      go_wp2_with fail
      have hS2 := hS1.keep ((Keep.refl [] w1).alloc (.cells #[.int .i64 0] 3))
      have hB2 := Blk.new w1 #[.int .i64 0] 3
      have hR1' := hR1.alloc (.cells #[.int .i64 0] 3)
      have hR2' := Own.keep (d := kE) hR2 ((Keep.refl [] w1).alloc (.cells #[.int .i64 0] 3)) (by simp)
      have hz2 : (w1.alloc (.cells #[.int .i64 0] 3)).heap.size = w1.heap.size + 1 := by simp
      obtain ⟨wz, hwz⟩ : ∃ x, w1.alloc (.cells #[.int .i64 0] 3) = x := ⟨_, rfl⟩
      rw [hwz] at hS2 hB2 hR1' hR2' hz2 ⊢
      clear hwz hS1
      have hb2 := hS2.mt.base
      have hn2 := hS2.mt.nlt
      have hv0 : ∀ k, v0.ownBlock = some k → wc.heap.size + 1 ≤ k ∧ k < w1.heap.size := fun k e => by
        have h1 := Kd.R_base hR2 k e
        obtain ⟨_, _, ho, _⟩ := hR2
        have := own_lt ho k e
        omega
      have hB1 := hR1.lt
      have hT : ∀ k ∈ wc.heap.size :: v0.ownBlock.toList, wc.heap.size ≤ k ∧ k < w1.heap.size := fun k hk => by
        rcases List.mem_cons.1 hk with rfl | hk
        · omega
        · have := hv0 k (by simpa using hk); omega
      clear hR1 hR2
      obtain ⟨A, cv, rfl⟩ := hS2.own.slice
      obtain ⟨l2, hT2, _⟩ := hS2.mt.ex
      have hKe : ∀ {W : World}, Keep [wa.heap.size, w1.heap.size] wz W → Below w.heap.size w W ∧ Own kE R18.RefT w.heap.size W (.slice A xs.length cv) xs ∧ Blk W w.heap.size #[.int .i64 a1] 3 ∧ Blk W (w.heap.size + 1) #[.bool false] 4 ∧ Blk W w3.heap.size #[ptrTo (wa.heap.size + 1)] 25 ∧ Blk W (w3.heap.size + 1 + 1) #[.slice A xs.length cv] 39 := fun hK => by
        have h5 := hS2.hd
        have h6 := hS2.bl.lt
        have h7 := hS2.below.size
        have h8 : w3.heap.size + 1 + 1 < w1.heap.size := by have := hSl; omega
        exact ⟨Keep.below_of hS2.below hK (by simp; omega), hS2.own.keep hK (by simp; exact ⟨not_of_map hT2.2 _, not_of_blk hB2 (by decide)⟩), hS2.bn.keep hK (by simp; omega), hS2.br.keep hK (by simp; omega), hS2.bt.keep hK (by simp; omega), hS2.bl.keep hK (by simp; omega)⟩
      refine (wpIn_wide (n := 10)).1 ?_
      refine' wpIn_rangeFunc_ownG (n := 10) (F := Fence.wide) rfl (by omega) (gf := 28) (lb := #[ptrTo wc.heap.size]) rfl trivial (enters_of Try.func28 (by kernel_rfl) rfl)
        (allIt_stops 9 (by omega) wc.heap.size _ v0 xs wz hR1' hR2' (by omega)) SameOn.trans (fun W q o o' hq _ _ _ => SameOn.put (B := w1.heap.size) (fun k hk => (hT k hk).2) W q o o' (by omega)) (Below.refl _ _) (fun _ => rfl)
        (fun pre W => GoOn a1 pre ∧ Rn w wz (wa.heap.size + 1) wa.heap.size w1.heap.size xs pre W)
        (fun c pre W => (c = .ret ∧ Odd xs pre) ∨ (c = .exit 2 ∧ Full a1 pre ∧ Rn w wz (wa.heap.size + 1) wa.heap.size w1.heap.size xs pre W))
        (fun s A B row hs hg hr => ⟨hs.1, hs.2.grown (by omega) (by omega) hg hr⟩)
        (fun c s A B row hs hg hr => by
          rcases hs with hs | ⟨h1, h2, h3⟩
          · exact .inl hs
          · exact .inr ⟨h1, h2, h3.grown (by omega) (by omega) hg hr⟩)
        ⟨fun h => by simp; omega, rfl, hS2.mt.mono (by omega), hB2, Keep.refl _ _⟩
        _ ?assign ?body ?done ?stop
      case assign =>
        intro q x W K hK
        gi_wp2
        exact hK
      case body =>
        rintro q pre x W ⟨hgo, hRn⟩ hlen
        obtain ⟨hBw, hOw, bn, br, bt, bl⟩ := hKe hRn.keep
        have c3 := bn.cell 0
        have c4 := br.cell 0
        have f4 := br.frozen 0 (by simp)
        have c5 := bt.cell 0
        have c6 := bl.cell 0
        have c10 := hRn.bk.cell 0
        have f10 := hRn.bk.frozen 0 (by simp)
        simp at c3 c4 c5 c6 c10
        obtain ⟨g, cap, hv, _, hg, x0, x1⟩ := own_ent_at hOw hlen
        obtain ⟨rfl, rfl⟩ : A = some ⟨g, 0, none⟩ ∧ cv = cap := by injection hv with h1 _ h3; exact ⟨h1, h3⟩
        clear hv
        obtain ⟨⟨lk, la⟩, hx⟩ : ∃ y, xs[pre.length] = y := ⟨_, rfl⟩
        rw [hx] at x0 x1
        simp only at x0 x1
        have hlt : (pre.length : Int) < (xs.length : Int) := by omega
        obtain ⟨xk, xa⟩ := x
        by_cases e1 : lk = xk
        · by_cases e2 : la = xa
          · subst e1 e2
            have HST := hide (callsIn_wide (n := 7) |>.2 (tStop hRn.mt lk))
            have HRn := hide hRn
            have HX := hide hx
            clear hRn hx
            gi_wp2_with fail
            refine ⟨trivial, ?_⟩
            refine HST.out.mono ?_
            rintro e W2 ⟨rfl, hM2, hK2⟩
            have hb7 := HRn.out.bk.lt
            have hnk : w1.heap.size ∉ [wa.heap.size] := by simp; omega
            have bk2 := HRn.out.bk.keep hK2 hnk
            have bn2 := bn.keep hK2 (by simp; omega)
            have d3 := bn2.cell 0
            have d10 := bk2.cell 0
            have g10 := bk2.frozen 0 (by simp)
            simp at d3 d10
            have hp30 : pre.length < 30 := by omega
            have hqq : ¬ w1.heap.size = w.heap.size := by omega
            have hqq' : ¬ w.heap.size = w1.heap.size := by omega
            clear c3 c4 f4 c5 c6 c10 f10 x0 x1 HST
            have hM3 : Mt w W2 (wa.heap.size + 1) wa.heap.size (xs.drop (pre ++ [(lk, la)]).length) 30 := by
              have h9 := rm_drop hnd hlen
              rw [HX.out] at h9
              rw [show (pre ++ [(lk, la)]).length = pre.length + 1 by simp, ← h9]
              exact hM2
            have hKs := fun u => (Keep.refl [w1.heap.size] W2).setCell (p := ⟨w1.heap.size, 0, none⟩) (fun _ => by simp) u
            have hM4 := fun u => hM3.off (hKs u) (fun q hq _ => by simp at hq; omega)
            have hRn2 : Rn w wz (wa.heap.size + 1) wa.heap.size w1.heap.size xs (pre ++ [(lk, la)]) (W2.setCell ⟨w1.heap.size, 0, none⟩ (.int .i64 ((pre.length : Int) + 1))) := by
              refine ⟨take_step HRn.out.pr hlen HX.out, hM4 _, ?_, ?_⟩
              · have h9 := bk2.set 0 (.int .i64 ((pre.length : Int) + 1))
                simpa using h9
              · exact (HRn.out.keep.trans hK2 (S := [wa.heap.size, w1.heap.size]) (fun _ h _ => h) (fun x h _ => by simp at h; simp [h])).trans (hKs _) (fun _ h _ => h) (fun x h _ => by simp at h; simp [h])
            have hKF : KeepsFrom wz.heap.size W (W2.setCell ⟨w1.heap.size, 0, none⟩ (.int .i64 ((pre.length : Int) + 1))) := (keepsFrom_of_keep hK2 (by simp; omega)).trans ((KeepsOthers.setCell _ _ _).from _)
            have hSO : SameOn (wc.heap.size :: v0.ownBlock.toList) W (W2.setCell ⟨w1.heap.size, 0, none⟩ (.int .i64 ((pre.length : Int) + 1))) :=
              (SameOn.of_keep hK2 (fun k hk => by have := hT k hk; have h8 := HRn.out.keep.size; refine ⟨by omega, by simp; omega⟩)).trans (SameOn.of_keep (hKs _) (fun k hk => by have := hT k hk; have h8 := HRn.out.keep.size; have h9 := hK2.size; refine ⟨by omega, by simp; omega⟩))
            have HF := hide (And.intro hRn2 (And.intro hKF hSO))
            clear hRn2 hKF hSO hM4 hKs hM3 hM2 hK2
            by_cases hst : (pre.length : Int) + 1 = a1
            · have n5 : ((pre.length : Int) + 1 == a1) = true := by simpa using hst
              clear hgo
              gi_wp2_with fail
              have h := HF.out
              rw [hst] at h
              exact ⟨h.2.1, .inr ⟨rfl, ⟨by simpa using hst, by simp⟩, h.1⟩⟩
            · have n5 : ((pre.length : Int) + 1 == a1) = false := by simpa using hst
              gi_wp2_with fail
              exact ⟨HF.out.2.1, HF.out.2.2, fun h => by have := hgo h; simp; omega, HF.out.1⟩
          · have n2 : (la != xa) = true := by simpa using e2
            have hnp : ¬ xs.length ≤ pre.length := by omega
            have hodd : Odd xs (pre ++ [(xk, xa)]) := odd_of hlen (by rw [hx]; intro e; cases e; exact e2 rfl)
            subst e1
            gi_wp2_with fail
            exact ⟨(KeepsOthers.setCell _ _ _).from _, .inl ⟨rfl, hodd⟩⟩
        · have n1 : ¬ lk.toList = xk.toList := fun e => e1 ((R18.toListE _ _).1 e)
          have hnp : ¬ xs.length ≤ pre.length := by omega
          have hodd : Odd xs (pre ++ [(xk, xa)]) := odd_of hlen (by rw [hx]; intro e; cases e; exact e1 rfl)
          gi_wp2_with fail
          exact ⟨(KeepsOthers.setCell _ _ _).from _, .inl ⟨rfl, hodd⟩⟩
      case done =>
        rintro D ys W hD hys ⟨hgo, hRn⟩ hDef
        have hys' := hys.symm
        subst hys'
        obtain ⟨hBw, hOw, bn, br, bt, bl⟩ := hKe hRn.keep
        have c3 := bn.cell 0
        have c4 := br.cell 0
        have f4 := br.frozen 0 (by simp)
        have c5 := bt.cell 0
        have c6 := bl.cell 0
        have c10 := hRn.bk.cell 0
        simp at c3 c4 c5 c6 c10
        have hMz := hRn.mt
        rw [List.drop_length] at hMz
        have HL := hide (tLen hMz)
        have n9 : ((xs.length : Int) == (xs.length : Int)) = true := by simp
        have hgt : 1 ≤ a1 → (xs.length : Int) < a1 := hgo
        have HB := hide (And.intro hBw br)
        clear hgo hRn hMz hKe hys
        by_cases h1 : a1 < 1
        · clear hgt
          go_wp2_with fail
          refine HL.out.mono ?_
          rintro e w7 ⟨rfl, rfl⟩
          go_wp2_with fail
          refine ⟨by simp, .inl ⟨_, _, rfl, run_takeDeferred ((KeepsOthers.setCell _ _ _).same D _ hDef rfl), ?_⟩⟩
          have hfw := fin_world (D := D) HB.out.1 HB.out.2 (by omega) (by have := HB.out.2.lt; omega) (by omega)
          generalize World.putObj _ D (.deferred none) = wy at hfw ⊢
          have e4 := hfw.2
          exact ⟨.bool true, by simp [results, Try.results4, go_sem, e4], rfl, hfw.1⟩
        · have h2 := hgt (by omega)
          clear hgt
          go_wp2_with fail
          refine HL.out.mono ?_
          rintro e w7 ⟨rfl, rfl⟩
          go_wp2_with fail
          refine ⟨by simp, .inl ⟨_, _, rfl, run_takeDeferred ((KeepsOthers.setCell _ _ _).same D _ hDef rfl), ?_⟩⟩
          have hfw := fin_world (D := D) HB.out.1 HB.out.2 (by omega) (by have := HB.out.2.lt; omega) (by omega)
          generalize World.putObj _ D (.deferred none) = wy at hfw ⊢
          have e4 := hfw.2
          exact ⟨.bool true, by simp [results, Try.results4, go_sem, e4], rfl, hfw.1⟩
      case stop =>
        rintro D c pre W hD hpre hix hDef
        rcases hix with ⟨rfl, hodd⟩ | ⟨rfl, ⟨hf1, hf2⟩, hRn⟩
        · exact absurd hpre hodd
        obtain ⟨hBw, hOw, bn, br, bt, bl⟩ := hKe hRn.keep
        have hple := hpre.length_le
        have hMz := hRn.mt
        have bk := hRn.bk
        clear hRn hKe
        subst hf1
        have h1 : ¬ (pre.length : Int) < 1 := by omega
        have h2 : ¬ (xs.length : Int) < (pre.length : Int) := by omega
        have c3 := bn.cell 0
        have c6 := bl.cell 0
        simp at c3 c6
        refine (wpIn_wide (n := 10)).2 ?_
        go_wp2_with fail
        refine still_tail 12 (by kernel_rfl) (by kernel_rfl) fun wd hwd => ?_
        have hkd : Keep [] W wd := by rw [← hwd]; exact (Keep.refl [] _).drew
        have hDef' : wd.heap[D]? = some (.deferred (some [])) := by rw [← hwd]; exact hDef
        have hBd := Keep.below_of hBw hkd (by simp)
        have c3 := (bn.keep hkd (by simp)).cell 0
        have c5 := (bt.keep hkd (by simp)).cell 0
        have c6 := (bl.keep hkd (by simp)).cell 0
        have c10 := (bk.keep hkd (by simp)).cell 0
        have br' := br.keep hkd (by simp)
        have c4 := br'.cell 0
        have f4 := br'.frozen 0 (by simp)
        simp at c3 c4 c5 c6 c10
        have hdl : ((xs.drop pre.length).length : Int) = (xs.length : Int) - (pre.length : Int) := by simp; omega
        have hl0 := tLen (hMz.keep hkd)
        rw [hdl] at hl0
        obtain ⟨dl, hdl2⟩ : ∃ x : Int, (xs.length : Int) - (pre.length : Int) = x := ⟨_, rfl⟩
        rw [hdl2] at hl0
        have HL := hide (hl0.mono (R' := fun e w' => e = .returned (.int .i64 dl) ∧ w' = wd) fun _ _ h => ⟨h.1, h.2.symm⟩)
        have n8 : (dl == dl) = true := by simp
        have HB := hide (And.intro hBd br')
        have hd1 : 0 ≤ dl := by omega
        have hd2 : dl ≤ 30 := by omega
        clear hwd hkd hMz hBd br' hDef hl0 hdl hBw hOw bn br bt bl bk
        simp only [List.take_succ_cons, List.take_zero, List.drop_succ_cons, List.drop_zero]
        repeat still_step
        still_call (HL.out)
        repeat still_step
        refine wpStill_nil ?_
        go_wp2_with fail
        try simp only [n8]
        refine ⟨by simp, .inl ⟨_, _, rfl, run_takeDeferred ((KeepsOthers.setCell _ _ _).same D _ hDef' rfl), ?_⟩⟩
        have hfw := fin_world (D := D) HB.out.1 HB.out.2 (by omega) (by have := HB.out.2.lt; omega) (by omega)
        generalize World.putObj _ D (.deferred none) = wy at hfw ⊢
        have e4 := hfw.2
        exact ⟨.bool true, by simp [results, Try.results4, go_sem, e4], rfl, hfw.1⟩
    · have hlt : k < len0 ∧ k < 30 := by have := HC.out; simpa using this
      obtain ⟨hlt, h15⟩ := hlt
      clear HC
      obtain ⟨b, off, rfl, hb, hc⟩ := slice_act r0 (by omega)
      obtain ⟨kd, at0, s, c0, c1, c2, _⟩ := hc k hlt
      clear hc c0
      have d1 : wc.cell? ⟨b, off + k * 3 + 1, none⟩ = some (.int .i64 at0) := (hSt.below.cell (p := ⟨b, off + k * 3 + 1, none⟩) hb).trans c1
      have d2 : wc.cell? ⟨b, off + k * 3 + 2, none⟩ = some (.string s) := (hSt.below.cell (p := ⟨b, off + k * 3 + 2, none⟩) hb).trans c2
      have hlt' : (k : Int) < (len0 : Int) := by omega
      have hks := cutS_size s 10
      have HCU := hide (fun w => cut01_any s 10 w)
      obtain ⟨key, hkey⟩ : ∃ x, cutS s 10 = x := ⟨_, rfl⟩
      rw [hkey] at HCU hks
      clear c1 c2 hkey
      go_wp2_with fail
      refine (HCU.out _).mono ?_
      rintro e w5 ⟨rfl, rfl⟩
      go_wp2_with fail
      refine still_tail 7 (by kernel_rfl) (by kernel_rfl) fun wd hwd => ?_
      have e1 : wd.cell? ⟨b, off + k * 3 + 1, none⟩ = some (.int .i64 at0) := by rw [← hwd]; exact d1
      have hSd := hSt.keep (show Keep [] _ wd by rw [← hwd]; exact (Keep.refl [] _).drew)
      have et := hSd.bt.cell 0
      simp at et
      clear hwd d1 d2 hSt
      simp only [List.take_succ_cons, List.take_zero, List.drop_succ_cons, List.drop_zero]
      repeat still_step
      refine wpStill_nil ?_
      go_wp2_with fail
      refine (tSet hSd.mt key at0 (by omega)).mono ?_
      rintro e we ⟨rfl, hMe, hke⟩
      have hkm := hSd.mt.km hke
      have hOe := hkm.own hSd.own
      have hBe := hkm.below hSd.below
      have b1 := hkm.blk hSd.bn
      have b2 := hkm.blk hSd.br
      have b3 := hkm.blk hSd.bt
      have b4 := hkm.blk hSd.bl
      have hd := hSd.hd
      have hrl := hSd.mt.len
      have f1 := hke.cell (p := ⟨b, off + k * 3 + 1, none⟩) (by have := hb; have := hSd.below.size; show b < _; omega) (by have := hSd.mt.base; simp; omega)
      rw [e1] at f1
      clear hke hkm hSd e1 et
      go_wp2_with fail
      refine still_tail 8 (by kernel_rfl) (by kernel_rfl) fun wd2 hwd2 => ?_
      have e1 : wd2.cell? ⟨b, off + k * 3 + 1, none⟩ = some (.int .i64 at0) := by rw [← hwd2]; exact f1
      have hkd : Keep [] we wd2 := by rw [← hwd2]; exact (Keep.refl [] _).drew
      have hMf := hMe.keep hkd
      have hOf := hOe.keep hkd (by simp)
      have hBf := Keep.below_of hBe hkd (by simp)
      have b5 := b1.keep hkd (by simp)
      have b6 := b2.keep hkd (by simp)
      have b7 := b3.keep hkd (by simp)
      have b8 := b4.keep hkd (by simp)
      have el := b8.cell 0
      simp at el
      clear hwd2 f1 hMe hOe hBe b1 b2 b3 b4 hkd
      simp only [List.take_succ_cons, List.take_zero, List.drop_succ_cons, List.drop_zero]
      repeat still_step
      refine wpStill_nil ?_
      go_wp2_with fail
      refine (R18.rSet hOf (by omega) key at0).mono ?_
      rintro e wg ⟨vg, rfl, hOg, hkg⟩
      obtain ⟨Ag, cg, rfl⟩ := hOg.slice
      obtain ⟨vg, hvg⟩ : ∃ x, Value.slice Ag (insE (rmE r key) (key, at0)).length cg = x := ⟨_, rfl⟩
      obtain ⟨Lg, hLg⟩ : ∃ x, (insE (rmE r key) (key, at0)).length = x := ⟨_, rfl⟩
      rw [hLg] at hvg
      simp only [hLg] at hOg ⊢
      rw [hvg] at hOg
      have HVG := hide hvg
      have hMg := hMf.keep hkg
      have hBg := Keep.below_of hBf hkg (by simp)
      have g5 := b5.keep hkg (by simp)
      have g6 := b6.keep hkg (by simp)
      have g7 := b7.keep hkg (by simp)
      have g8 := b8.keep hkg (by simp)
      have eg := g8.cell 0
      have ef := g8.frozen 0 (by simp)
      simp at eg
      have hks := (Keep.refl [w3.heap.size + 1 + 1] wg).setCell (p := ⟨w3.heap.size + 1 + 1, 0, none⟩) (fun _ => by simp) vg
      have hSg : St w (wg.setCell ⟨w3.heap.size + 1 + 1, 0, none⟩ vg) _ _ _ _ a1 vg _ (k + 1) :=
        ⟨hMg.off hks (fun q hq _ => by simp at hq; subst hq; exact ⟨hd.1, hd.2.1⟩), (hOg.lower hBf.size).keep hks (by simp; exact not_of_blk g8 (by decide)), Keep.below_of hBg hks (by simp; omega),
          g5.keep hks (by simp; omega), g6.keep hks (by simp; omega), g7.keep hks (by simp; omega), g8.set 0 vg, hd⟩
      rw [← HVG.out] at hSg
      clear hvg
      clear hMf hOf hBf b5 b6 b7 b8 el hOg hkg hMg hBg g5 g6 g7 g8 hks
      go_wp2_with fail
      go_roundw
      case rel => exact ⟨k + 1, _, _, by simp, by omega, by omega, hSg⟩
      case measure => simp [intOf]; omega
end Go.Proofs.Ytbgondiibnjcgaa
