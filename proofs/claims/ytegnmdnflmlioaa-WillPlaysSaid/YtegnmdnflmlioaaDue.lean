import Derived.Test.YtegnmdnflmlioaaIt
import Derived.Test.YtegnmdnflmlioaaKdI
namespace Go.Proofs.Ytegnmdnflmlioaa
open Go.RowKit Go.Shelf Go.Proofs.YtegnmdnflmlioaaW.PrintWords Go.Proofs.YtegnmdnflmlioaaW.PrintLast
set_option maxRecDepth 100000
set_option linter.unusedVariables false
set_option maxHeartbeats 2000000
attribute [local go_sem] Oper.semAt_some
theorem Keep.putObj {S : List Nat} {a b : World} (h : Keep S a b) {D : Nat} (hD : D < a.heap.size → D ∈ S) (o : Obj) : Keep S a (b.putObj D o) :=
  h.trans (S1 := S) (S2 := [D]) (Keep.of_grown (grownBy_putObj' b D o) (fun k e _ => by cases e; simp)) (fun _ h _ => h) (fun x hx hlt => by simp at hx; subst hx; exact hD hlt)
def OutAt (w1 : World) (Bo : Nat) (pre : List En) (W : World) : Prop := ∃ v, Blk W Bo #[v] EntsT ∧ Own kE EntT w1.heap.size W v pre ∧ Keep [Bo] w1 W
theorem not_of_other {W : World} {r : Nat} (h : ∃ o : Obj, W.heap[r]? = some o ∧ o.isCells = false) (E : List Nat) : ¬ OfTypes E W r := by
  rintro ⟨q, _, cells, hc⟩
  obtain ⟨o, ho, hn⟩ := h
  rw [ho] at hc; cases hc; cases hn
theorem blk_grown {W W' : World} {b : Nat} {cs : Array Value} {T : TypeId} {row : Option Nat} (h : Blk W b cs T) (hg : W.grownBy W' row) (hr : ∀ r, row = some r → ∃ o : Obj, W.heap[r]? = some o ∧ o.isCells = false) : Blk W' b cs T :=
  h.of_block (hg.block b h.lt (fun e => by
    obtain ⟨o, ho, hn⟩ := hr b e.symm
    obtain ⟨lo, hi, hb, _⟩ := h
    rw [ho] at hb; cases hb; cases hn))
theorem own_grown {α : Type} {d : Kd α} {e base : Nat} {W W' : World} {v : Value} {xs : List α} {row : Option Nat} (h : Own d e base W v xs) (hg : W.grownBy W' row) (hr : ∀ r, row = some r → ∃ o : Obj, W.heap[r]? = some o ∧ o.isCells = false) : Own d e base W' v xs :=
  h.keep (S := row.toList) (Keep.of_grown hg (fun k e _ => by simp [e])) (fun k hk => not_of_other (hr k (by simpa using hk)) _)
theorem keep_grown {S : List Nat} {w1 W W' : World} {row : Option Nat} (h : Keep S w1 W) (hg : W.grownBy W' row) (hr : ∀ r, row = some r → w1.heap.size ≤ r) : Keep S w1 W' :=
  h.trans (S1 := S) (S2 := row.toList) (Keep.of_grown hg (fun k e _ => by simp [e])) (fun _ h _ => h) (fun x hx hlt => by have := hr x (by simpa using hx); omega)
theorem OutAt.from (w1 : World) (Bo : Nat) : OwnFrom w1.heap.size (OutAt w1 Bo) := fun s W W' row ⟨v, h1, h2, h3⟩ hg hr =>
  ⟨v, blk_grown h1 hg (fun r e => (hr r e).2), own_grown h2 hg (fun r e => (hr r e).2), keep_grown h3 hg (fun r e => (hr r e).1)⟩
def AllLe (now : Int) (pre : List En) : Prop := ∀ p ∈ pre, p.2 ≤ now
def DueStop (w1 : World) (Bo : Nat) (now : Int) (pre : List En) (W : World) : Prop := ∃ (p0 : List En) (x : En), pre = p0 ++ [x] ∧ now < x.2 ∧ AllLe now p0 ∧ OutAt w1 Bo p0 W
def delAll (l ds : List En) : List En := ds.foldl (fun m e => AL.del m e.1) l
theorem due_split {xs : List En} (hs : xs.Pairwise ltE) {pre rest : List En} {x : En} (now : Int) (hx : xs = pre ++ x :: rest) (h1 : ∀ p ∈ pre, p.2 ≤ now) (h2 : now < x.2) : xs.filter (fun p => decide (p.2 ≤ now)) = pre := by
  subst hx
  rw [List.filter_append, List.filter_eq_self.2 (fun p hp => by simpa using h1 p hp)]
  have : (x :: rest).filter (fun p => decide (p.2 ≤ now)) = [] := by
    refine List.filter_eq_nil_iff.2 fun p hp => ?_
    have h3 := (List.pairwise_append.1 hs).2.1
    have h4 := (List.pairwise_cons.1 h3).1
    rcases List.mem_cons.1 hp with rfl | hp
    · simpa using h2
    · have := h4 p hp
      rcases this with h | h <;> simp <;> omega
  rw [this, List.append_nil]
def stopRel (W : World) (n b : Nat) (l : List En) (v : Value) (ds : List En) (i : Value) (wr : World) : Prop := ∃ j : Nat, i = .int .i64 j ∧ j ≤ ds.length ∧ TimAt wr n b (delAll l (ds.take j)) ∧ Own kE EntT 0 wr v ds ∧ Keep [b] W wr
theorem timDue_any (n b : Nat) (l : List En) (now : Int) (w : World) (h : TimAt w n b l) (hs : ∀ p ∈ l, p.1.size ≤ maxLen) (hl : l.length < 1000000) :
    Calls Try.prog 28 #[ptrTo n, .int .i64 now] w (Px fun (x : Value × List En × List En) e w' => e = .returned x.1 ∧ EntsOf x.2.2 l ∧ x.2.1 = x.2.2.filter (fun p => decide (p.2 ≤ now)) ∧ Own kE EntT w.heap.size w' x.1 x.2.1 ∧ TimAt w' n b (delAll l x.2.1) ∧ Keep [b] w w') := by
  have hnlt := h.1.lt
  have hblt := h.2.lt
  have hnb := h.2.ne_blk h.1
  refine callsIn_wide (n := 10) |>.1 ?_
  refine callsIn_of_wp_marks Try.func28 rfl trivial ?_
  simp only [Try.ntmps28, List.size_toArray, List.length_cons, List.length_nil, Nat.reduceAdd, Nat.reduceSub, Array.replicate_succ, Array.replicate_zero, List.push_toArray, List.append_toArray, List.nil_append, List.cons_append]
  have hK0 := ((Keep.refl [] w).alloc (.cells #[.int .i64 now] 3)).alloc (.cells #[.slice none 0 0] EntsT)
  have h2 := h.keep hK0 (by simp) (by simp)
  have hN := (Blk.new w #[.int .i64 now] 3).alloc (.cells #[.slice none 0 0] EntsT)
  have hX : Blk _ (w.heap.size + 1) #[.slice none 0 0] EntsT := Blk.new' (w := w.alloc (.cells #[.int .i64 now] 3)) _ _ (by simp)
  have hsz0 : ((w.alloc (.cells #[.int .i64 now] 3)).alloc (.cells #[.slice none 0 0] EntsT)).heap.size = w.heap.size + 2 := by simp
  obtain ⟨w0, hw0⟩ : ∃ w0, (w.alloc (.cells #[.int .i64 now] 3)).alloc (.cells #[.slice none 0 0] EntsT) = w0 := ⟨_, rfl⟩
  have hall := hide (fun W h => callsIn_wide (n := 9) |>.2 (timAll_any n b l W h hs hl))
  gi_wp2_with fail
  refine ⟨trivial, ?_⟩
  rw [hw0] at hK0 h2 hN hX hsz0
  refine (hall.out _ h2).mono ?_
  rintro e w1 ⟨xs, rfl, hE, hR, hK1⟩
  rw [hsz0] at hR ⊢
  clear hw0
  gi_wp2_with fail
  obtain ⟨v0, hR1, hR2⟩ := hR
  have hxl : xs.length = l.length := hE.1.length_eq
  have hkw1 := hK0.then hK1
  have hT1 := h2.keep hK1 (by simp) (by simp)
  have hN1 := hN.keep hK1 (by simp)
  have hX1 := hX.keep hK1 (by simp)
  have hsz1 := hK1.size
  have hB1 := hR1.lt
  have hv0 : ∀ k, v0.ownBlock = some k → w.heap.size + 3 ≤ k ∧ k < w1.heap.size := fun k e => by
    have h1 := Kd.R_base hR2 k e
    obtain ⟨_, _, ho, _⟩ := hR2
    have := own_lt ho k e
    omega
  have hT : ∀ k ∈ (w.heap.size + 2) :: v0.ownBlock.toList, w.heap.size + 2 ≤ k ∧ k < w1.heap.size := fun k hk => by
    rcases List.mem_cons.1 hk with rfl | hk
    · omega
    · have := hv0 k (by simpa using hk); omega
  refine wpIn_rangeFunc_ownG (n := 10) (F := Fence.wide) rfl (by omega) (gf := 45) (lb := #[ptrTo (w.heap.size + 2)]) rfl trivial (enters_of Try.func45 (by kernel_rfl) rfl)
    (allIt_stops 9 (by omega) (w.heap.size + 2) _ v0 xs w1 hR1 hR2 (by omega)) SameOn.trans (fun W q o o' hq _ _ _ => SameOn.put (B := w1.heap.size) (fun k hk => (hT k hk).2) W q o o' hq) (Below.refl _ _) (fun _ => rfl)
    (fun pre W => AllLe now pre ∧ OutAt w1 (w.heap.size + 1) pre W)
    (fun c pre W => c = .exit 0 ∧ DueStop w1 (w.heap.size + 1) now pre W)
    (fun s A B row hs hg hr => ⟨hs.1, OutAt.from _ _ _ _ _ _ hs.2 hg hr⟩)
    (fun c s A B row hs hg hr => by obtain ⟨h1, p0, x, h2, h3, h4, h5⟩ := hs; exact ⟨h1, p0, x, h2, h3, h4, OutAt.from _ _ _ _ _ _ h5 hg hr⟩)
    ⟨fun p hp => by simp at hp, _, hX1, Kd.R_nil _ _ _ _ _, Keep.refl _ _⟩
    (fun x => { tmps := #[ptrTo n, .int .i64 now, undef, ptrTo w.heap.size, .slice none 0 0, ptrTo (w.heap.size + 1), .string x.1, .int .i64 x.2, undef, undef, ptrTo n, .func (.func 45) #[] #[ptrTo (w.heap.size + 2)], .string x.1, .int .i64 x.2, undef, undef, undef, undef, undef, undef, undef, undef, undef, undef, undef, undef, undef, undef, undef, undef, undef, undef, undef, undef, undef], defers := [] }) ?assign ?body ?done ?stop
  case assign =>
    intro q x W K hK
    gi_wp2
    exact hK
  case body =>
    rintro q pre x W ⟨hle, v, hBv, hO, hK⟩ hlen
    have c0 := (hN1.keep hK (by simp)).cell 0
    have c1 := hBv.cell 0
    have f1 := hBv.frozen 0 (by simp)
    have hszW := hK.size
    simp at c0 c1
    by_cases hx : now < x.2
    · gi_wp2
      exact ⟨KeepsFrom.refl _ _, rfl, pre, x, rfl, hx, hle, v, hBv, hO, hK⟩
    · have HO := hide hO
      have HK := hide hK
      have HB := hide hBv
      have HL := hide hle
      clear hO hK hBv hle
      gi_wp2_with (first
        | (gi_at_builtin; refine Own.append_in kE flatE (fun x u hu => by simp [encE] at hu; rcases hu with rfl | rfl <;> rfl) (W := W) w1.heap.size rfl (.tmp 17) (.tmp 21) EntsT EntT _ _ rfl Try.underlying76 infoE rfl (by decide) (by decide) v pre x rfl _ rfl rfl HO.out hszW (by omega) ?_; intro v1 w7 hO2 hg2 hr2; obtain ⟨A7, c7, rfl⟩ := hO2.slice; have HO2 := hide hO2; clear hO2; have hne : v.ownBlock ≠ some (w.heap.size + 1) := (fun e => by have := hr2 _ e; omega); have HB7 := HB.out.of_block (hg2.block (w.heap.size + 1) (by omega) (by intro e; exact hne e.symm)); have hc7 := HB7.cell 0; have hf7 := HB7.frozen 0 (by simp); simp at hc7; have HG := hide hg2; have HR := hide hr2; clear hg2 hr2)
        | gi_in)
      have K7 : Keep v.ownBlock.toList W w7 := Keep.of_grown HG.out (fun k e _ => by simp [e])
      have K8 := fun u => K7.trans (S := (w.heap.size + 1) :: v.ownBlock.toList) ((Keep.refl [w.heap.size + 1] w7).setCell (p := ⟨w.heap.size + 1, 0, none⟩) (fun _ => by simp) u) (fun x h _ => List.mem_cons_of_mem _ h) (fun x h _ => by simp at h; simp [h])
      have hOf := fun u => HO2.out.keep ((Keep.refl [w.heap.size + 1] w7).setCell (p := ⟨w.heap.size + 1, 0, none⟩) (fun _ => by simp) u) (by simp; exact not_of_blk HB7 (by decide))
      rw [show (pre ++ [x]).length = pre.length + 1 by simp] at hOf
      refine ⟨((KeepsOthers.of_grownBy HG.out ?_).trans (KeepsOthers.setCell _ _ _)).from _, SameOn.of_keep (K8 _) ?_, ?_, _, HB7.set 0 _, hOf _, ?_⟩
      · intro q o e ho
        obtain ⟨_, _, hown, _⟩ := HO.out
        obtain ⟨cells, hcl⟩ := own_typed hown q e
        rw [hcl] at ho; cases ho; rfl
      · intro k hk
        have h1 := hT k hk
        refine ⟨by omega, ?_⟩
        simp only [List.mem_cons, Option.mem_toList]
        rintro (h3 | h3)
        · omega
        · have := HR.out k h3; omega
      · intro p hp
        rcases List.mem_append.1 hp with hp | hp
        · exact HL.out p hp
        · simp at hp; subst hp; omega
      · exact HK.out.trans (K8 _) (fun _ h _ => h) (fun x hx hlt => by
          rcases List.mem_cons.1 hx with rfl | hx
          · simp
          · have := HR.out x (by simpa using hx); omega)
  case' done =>
    rintro D ys W hD hys ⟨hle, hO⟩ hDef
    have hys' := hys.symm
    subst hys'
    have hds : xs.filter (fun p => decide (p.2 ≤ now)) = xs := List.filter_eq_self.2 (fun p hp => by simpa using hle p hp)
    obtain ⟨ds, hds2⟩ : ∃ ds, xs = ds := ⟨_, rfl⟩
    have hdl : ds.length < 1000000 := by rw [← hds2]; omega
    have hds : xs.filter (fun p => decide (p.2 ≤ now)) = ds := hds.trans hds2
    rw [hds2] at hO
    clear hle hds2
  case' stop =>
    rintro D c pre W hD hpre ⟨rfl, ds, x, rfl, hx, hle, hO⟩ hDef
    obtain ⟨rest, hrest⟩ := hpre
    have hds := due_split (rest := rest) hE.2 now (by rw [← hrest]; simp) hle hx
    have hdl : ds.length < 1000000 := by have := congrArg List.length hrest; simp at this; omega
    clear hle hx hrest
  all_goals
    obtain ⟨v, hBv, hO, hK⟩ := hO
    obtain ⟨A9, c9, rfl⟩ := hO.slice
    have c1 := hBv.cell 0
    simp at c1
    have hTW := hT1.keep hK (by simp; omega) (by simp; omega)
    have HDS := hide hds
    clear hds
    gi_wp2
    gi_loopw [25] (fun i wr => stopRel W n b l (.slice A9 ds.length c9) ds i wr) (fun i _ => ds.length - (intOf i).toNat)
    case atStart => exact ⟨0, rfl, by omega, by simpa [delAll] using hTW, hO.lower (by omega), Keep.refl _ _⟩
    case round =>
      obtain ⟨j, rfl, hj, hTr, hOr, hKr⟩ := hrel
      have hbW : b < W.heap.size := hTW.2.lt
      have hBr := hBv.keep hKr (by simp; omega)
      have cr := hBr.cell 0
      simp at cr
      by_cases hlt : j < ds.length
      · obtain ⟨g, cap, hv, hgb, hg, x0, x1⟩ := own_ent_at hOr hlt
        obtain ⟨rfl, rfl⟩ : A9 = some ⟨g, 0, none⟩ ∧ c9 = cap := by injection hv with h1 _ h3; exact ⟨h1, h3⟩
        clear hv
        have htk : ds.take (j + 1) = ds.take j ++ [ds[j]] := by rw [List.take_succ_eq_append_getElem hlt]
        obtain ⟨⟨k, a⟩, hx⟩ : ∃ x, ds[j] = x := ⟨_, rfl⟩
        rw [hx] at x0 x1 htk
        simp only at x0 x1
        have HT := hide htk
        have hTa := hTr.keep ((Keep.refl [] wr).alloc (.cells #[.string k, .int .i64 a] EntT)) (by simp) (by simp)
        have HST := hide (callsIn_wide (n := 9) |>.2 (timStop_any n b _ k _ hTa))
        have HTr := hide hTr
        have HOr := hide hOr
        have hlt3 : (j : Int) < (ds.length : Int) := by omega
        clear htk hx hTa hTr hOr cr
        gi_wp2_with (refine ⟨trivial, ?_⟩; gi_at_call 26; refine HST.out.mono ?_; rintro e w9 ⟨rfl, hT9, hK9⟩)
        have hka := (((Keep.refl [] wr).alloc (.cells #[.string k, .int .i64 a] EntT)).trans (S := [b]) hK9 (by simp) (fun _ h _ => h))
        have hnt : ¬ OfTypes (EntT :: kE.E) wr b := not_of_map HTr.out.2 _
        go_roundw
        case rel => exact ⟨j + 1, by simp, by omega, by rw [HT.out]; simpa [delAll] using hT9, HOr.out.keep hka (by simp; exact hnt), hKr.then hka⟩
        case measure => simp [intOf]; omega
      · obtain rfl : j = ds.length := by omega
        rw [List.take_length] at hTr
        have hDr : wr.heap[D]? = some (.deferred (some [])) := (hKr.block D (Array.getElem?_eq_some_iff.1 hDef).1 (by simp; omega)).trans hDef
        gi_wp2
        refine ⟨by simp, .inl ⟨_, _, rfl, run_takeDeferred hDr, ?_⟩⟩
        have hkp : ∀ S (a : World), a.heap.size ≤ D → ∀ c, Keep S a c → Keep S a (c.putObj D (.deferred none)) := fun S a ha c h => h.putObj (fun h => by omega) _
        have hpd : Keep [D] wr (wr.putObj D (.deferred none)) := Keep.of_grown (grownBy_putObj' wr D _) (fun k e _ => by cases e; simp)
        have hfull : Keep [b] w (wr.putObj D (.deferred none)) := hkp _ _ (by omega) _ ((hkw1.trans hK (S := [b]) (by simp) (fun x hx hlt => by simp at hx; omega)).then hKr)
        refine ⟨_, results_tmp rfl _ _ _, (_, ds, xs), rfl, hE, HDS.out.symm, ?_, ?_, hfull⟩
        · refine ((hO.keep hKr (by simp; exact not_of_map hTW.2 _)).keep hpd (by simp; exact not_of_other ⟨_, hDr, rfl⟩ _)).lower (by omega)
        · exact hTr.keep hpd (by simp; omega) (by simp; omega)
end Go.Proofs.Ytegnmdnflmlioaa
