import Derived.Test.YtegnmdnflmlioaaT22
namespace Go.Proofs.Ytegnmdnflmlioaa
open Go.RowKit Go.Proofs.Ytegnmdnflmlioaa.PWillPlays Go.Proofs.YtegnmdnflmlioaaW.PrintWords Go.Proofs.YtegnmdnflmlioaaW.PrintLast
set_option maxRecDepth 10000
set_option linter.unusedVariables false
set_option maxHeartbeats 1000000
namespace R22
abbrev OneT : Nat := 87
abbrev kO : Kd One := k87
abbrev kRP : Kd RP := k100
abbrev RPT : Nat := 100
abbrev kRM : Kd RM := k83
abbrev RMT : Nat := 83
def LV (w : World) (b tb : Nat) (v : Value) (l : List One) : Prop := Kd.V kO OneT w 0 (fun k => k ≠ b ∧ k ≠ tb) v l
theorem LV.keep {w w' : World} {b tb : Nat} {v : Value} {l : List One} (h : LV w b tb v l) (hk : Keep [b, tb] w w') : LV w' b tb v l :=
  Kd.V_step h fun k hok hlt => hk.block k hlt (by simpa using hok)
theorem LV.keep0 {w w' : World} {b tb : Nat} {v : Value} {l : List One} (h : LV w b tb v l) (hk : Keep [] w w') : LV w' b tb v l := h.keep (hk.mono (by simp))
theorem LV.of {w : World} {b tb base : Nat} {v : Value} {l : List One} (h : Kd.V kO OneT w base (fun k => (k ≠ b ∧ k ≠ tb) ∨ base ≤ k) v l) (hb : b < base) (htb : tb < base) : LV w b tb v l :=
  Kd.V_lower (base := base) (Kd.V_mono h fun k hk => by rcases hk with h | h; exact h; omega) (Nat.zero_le _)
section
variable {w : World} {b tb : Nat} {v : Value} {l : List One}
theorem rHold (h : LV w b tb v l) (hb : b < w.heap.size) (htb : tb < w.heap.size) (hl : l.length < 1000000) (c : BA) {A : Option Addr} {cc : Nat} {ps : List RP} (tp pl : BA) (q : Int) (rt : Bool) (hC : kRP.C w A ps.length ps) (hc : ps.length ≤ cc) (hp : ps.length < 1000000) (hpb : ∀ p ∈ ps, 0 ≤ p.f1 ∧ p.f1 ≤ 4294967295) :
    Calls Try.prog 14 #[v, .string c, .agg #[.slice A ps.length cc, .string tp, .string pl, .int .u8 q, .bool rt]] w (Px fun (v' : Value) e w' => e = .returned v' ∧ LV w' b tb v' (rmO l c ++ [⟨c, ⟨c, 0, q, rt, noWDr ps, tp, pl⟩, delayR ps, -1⟩]) ∧ Keep [] w w') := by
  obtain ⟨A0, c0, rfl⟩ := Kd.V_slice h
  refine (switchboardref22_Hold.calls (l.length + ps.length + 1) (fun k => k ≠ b ∧ k ≠ tb) A0 c0 l c A cc ps tp pl q rt _ w h hC hc (hold_f l c ps tp pl q rt hl hp hpb _ (by omega) (by omega))).mono ?_
  rintro e w' ⟨v0, rfl, hN, hB⟩
  exact ⟨v0, rfl, LV.of (Kd.N_V hN) hb htb, Keep.of_below hB⟩
theorem rDrop (h : LV w b tb v l) (hb : b < w.heap.size) (htb : tb < w.heap.size) (hl : l.length < 1000000) (c : BA) :
    Calls Try.prog 17 #[v, .string c] w (Px fun (v' : Value) e w' => e = .returned (.tuple #[v', .bool (l.any (fun x => decide (x.f0 = c)))]) ∧ LV w' b tb v' (rmO l c) ∧ Keep [] w w') := by
  obtain ⟨A0, c0, rfl⟩ := Kd.V_slice h
  refine (switchboardref22_Drop.calls (l.length + 1) (fun k => k ≠ b ∧ k ≠ tb) A0 c0 l c _ _ w h (drop_f l c hl _ (by omega))).mono ?_
  rintro e w' ⟨v0, rfl, hN, hB⟩
  exact ⟨v0, rfl, LV.of (Kd.N_V hN) hb htb, Keep.of_below hB⟩
theorem rEnd (h : LV w b tb v l) (hb : b < w.heap.size) (htb : tb < w.heap.size) (hl : l.length < 1000000) (c : BA) (now ex : Int) (hn0 : 0 ≤ now) (hn1 : now ≤ 1000000000000) (he0 : 0 ≤ ex) (he1 : ex ≤ 4294967295) (hbd : ∀ x ∈ l, 0 ≤ x.f2 ∧ x.f2 ≤ 4294967295) :
    Calls Try.prog 18 #[v, .string c, .int .i64 now, .int .i64 ex] w (Px fun (v' : Value) e w' => e = .returned v' ∧ LV w' b tb v' (endO l c now ex) ∧ Keep [] w w') := by
  obtain ⟨A0, c0, rfl⟩ := Kd.V_slice h
  refine (switchboardref22_End.calls (l.length + 1) (fun k => k ≠ b ∧ k ≠ tb) A0 c0 l c now ex _ w h (end_f l c now ex hl hn0 hn1 he0 he1 hbd _ (by omega))).mono ?_
  rintro e w' ⟨v0, rfl, hN, hB⟩
  exact ⟨v0, rfl, LV.of (Kd.N_V hN) hb htb, Keep.of_below hB⟩
theorem rDue (h : LV w b tb v l) (hb : b < w.heap.size) (htb : tb < w.heap.size) (hl : l.length < 1000000) (now : Int) (ds : List En) (hD : D l now ds) (hds : ds.length ≤ l.length) :
    Calls Try.prog 19 #[v, .int .i64 now] w (Px fun (x : Value × Option Addr × Nat) e w' => e = .returned (.tuple #[x.1, .slice x.2.1 (ds.map (msgR l now)).length x.2.2]) ∧ LV w' b tb x.1 (l.filter (fun x => decide (¬ dueB now x))) ∧ kRM.C w' x.2.1 (ds.map (msgR l now)).length (ds.map (msgR l now)) ∧ (ds.map (msgR l now)).length ≤ x.2.2 ∧ Keep [] w w') := by
  obtain ⟨A0, c0, rfl⟩ := Kd.V_slice h
  refine (switchboardref22_Due.calls (3 * l.length + 4) (fun k => k ≠ b ∧ k ≠ tb) A0 c0 l now _ _ w h (due_f l now ds hD hl hds _ (by omega))).mono ?_
  rintro e w' ⟨v0, v1, rfl, hV, hN, hB⟩
  obtain ⟨A, c, rfl, hc, hC⟩ := Kd.N_reads hN
  exact ⟨(v0, A, c), rfl, LV.of (Kd.V_mono hV fun k hk => hk.1) hb htb, hC, hc, Keep.of_below hB⟩
theorem rHas (h : LV w b tb v l) (hl : l.length < 1000000) (c : BA) :
    Calls Try.prog 22 #[v, .string c] w fun e w' => e = .returned (.tuple #[.int .i64 (hasO l c).1, .bool (hasO l c).2]) ∧ Keep [] w w' := by
  obtain ⟨A0, c0, rfl⟩ := Kd.V_slice h
  obtain ⟨_, hc, hC⟩ := Kd.V_reads' h
  refine (switchboardref22_Has.calls (l.length + 1) A0 c0 l c _ _ w hC hc (has_f l c hl _ (by omega))).mono ?_
  rintro e w' ⟨rfl, hB⟩
  exact ⟨rfl, Keep.of_below hB⟩
end
theorem mIs {w : World} {base : Nat} {v : Value} {l : List SM} {A : Option Addr} {c n : Nat} {m : List RM} (h : Own kMs MsT base w v l) (hl : l.length < 1000000) (hp : ∀ m ∈ l, m.f4.length ≤ 100) (hC : kRM.C w A n m) (hc : n ≤ c) (hn : n = m.length) (hm : m = l.map toM) :
    Calls Try.prog 20 #[v, .slice A n c] w fun e w' => e = .returned (.int .i64 0) ∧ Keep [] w w' := by
  obtain ⟨A0, c0, rfl, h0, hC0⟩ := h.reads
  subst hn hm
  refine (switchboardlaw12_Is.calls (l.length + 201) A0 c0 l A c _ 0 w hC0 h0 hC hc (is_f l hl hp _ (by omega))).mono ?_
  rintro e w' ⟨rfl, hB⟩
  exact ⟨rfl, Keep.of_below hB⟩
theorem mFew {w : World} {A : Option Addr} {c : Nat} {ps : List SP} (tp pl : BA) (q : Int) (rt : Bool) (hC : kPr.C w A ps.length ps) (hc : ps.length ≤ c) :
    Calls Try.prog 13 #[.agg #[.slice A ps.length c, .string tp, .string pl, .int .u8 q, .bool rt]] w (Px fun (x : Option Addr × Nat) e w' => e = .returned (willV (.slice x.1 (fewP ps).length x.2) (cutS tp 20) (cutS pl 20) q rt) ∧ Own kPr PrT w.heap.size w' (.slice x.1 (fewP ps).length x.2) (fewP ps) ∧ Keep [] w w') := by
  refine (switchboardlaw22_few.calls 20 A c ps tp pl q rt _ _ _ _ _ w hC hc (few_f ps tp pl q rt 20 (Nat.le_refl _))).mono ?_
  rintro e w' ⟨v0, rfl, hR, hB⟩
  have hO : Own kPr PrT w.heap.size w' v0 (fewP ps) := hR
  obtain ⟨A1, c1, rfl⟩ := hO.slice
  exact ⟨(A1, c1), rfl, hO, Keep.of_below hB⟩
theorem mTold {w : World} {A : Option Addr} {c : Nat} {ps : List SP} (tp pl : BA) (q : Int) (rt : Bool) (hC : kPr.C w A ps.length ps) (hc : ps.length ≤ c) (hl : ps.length < 1000000) :
    Calls Try.prog 15 #[.agg #[.slice A ps.length c, .string tp, .string pl, .int .u8 q, .bool rt]] w (Px fun (x : Option Addr × Nat) e w' => e = .returned (.agg #[.slice x.1 (ps.map toP).length x.2, .string tp, .string pl, .int .u8 q, .bool rt]) ∧ kRP.C w' x.1 (ps.map toP).length (ps.map toP) ∧ (ps.map toP).length ≤ x.2 ∧ Keep [] w w') := by
  refine (switchboardlaw22_told.calls (ps.length + 1) A c ps tp pl q rt _ _ _ _ _ w hC hc (told_f ps tp pl q rt hl _ (by omega))).mono ?_
  rintro e w' ⟨v0, rfl, hR, hB⟩
  have hO : Own kRP RPT w.heap.size w' v0 (ps.map toP) := hR
  obtain ⟨A1, c1, rfl, h1, h2⟩ := hO.reads
  exact ⟨(A1, c1), rfl, h2, h1, Keep.of_below hB⟩
theorem fewP_len (ps : List SP) : (fewP ps).length ≤ 8 := by unfold fewP; simp; omega
theorem fewP_bd {ps : List SP} (h : ∀ p ∈ ps, 0 ≤ p.f1 ∧ p.f1 ≤ 4294967295) : ∀ p ∈ fewP ps, 0 ≤ p.f1 ∧ p.f1 ≤ 4294967295 := by
  intro p hp
  unfold fewP at hp
  obtain ⟨x, hx, rfl⟩ := List.mem_map.1 hp
  exact h x (List.mem_of_mem_take hx)
theorem num_bd {ps : List SP} (h : ∀ p ∈ ps, 0 ≤ p.f1 ∧ p.f1 ≤ 4294967295) : 0 ≤ numPr ps 24 0 ∧ numPr ps 24 0 ≤ 4294967295 := by
  unfold numPr
  cases hf : ps.find? (fun p => decide (p.f0 = 24)) with
  | none => simp
  | some p => exact h p (List.mem_of_find?_eq_some hf)
theorem toP_bd {ps : List SP} (h : ∀ p ∈ ps, 0 ≤ p.f1 ∧ p.f1 ≤ 4294967295) : ∀ p ∈ ps.map toP, 0 ≤ p.f1 ∧ p.f1 ≤ 4294967295 := by
  intro p hp
  obtain ⟨x, hx, rfl⟩ := List.mem_map.1 hp
  exact h x hx
theorem delay_num (ps : List SP) : delayR (ps.map toP) = numPr ps 24 0 := by
  unfold delayR numPr
  rw [List.find?_map]
  have : (fun p : RP => decide (p.f0 = 24)) ∘ toP = fun p : SP => decide (p.f0 = 24) := rfl
  rw [this]
  cases ps.find? (fun p => decide (p.f0 = 24)) <;> rfl
theorem noWD_map (ps : List SP) : noWDr (ps.map toP) = (noWD ps).map toP := by
  unfold noWDr noWD
  rw [List.filter_map]
  rfl
structure Pl (W w : World) (n b tn tb : Nat) (hs : List (BA × Hd)) (r : List En) (l : List One) (v : Value) (K : Nat) : Prop where
  ws : Ws W w n b tn tb hs r K
  rel : Rel hs r l
  lv : LV w b tb v l
  pos : ∀ p ∈ r, 0 ≤ p.2
  below : Below W.heap.size W w
theorem Pl.keep {W w w' : World} {n b tn tb : Nat} {hs : List (BA × Hd)} {r : List En} {l : List One} {v : Value} {K : Nat} (h : Pl W w n b tn tb hs r l v K) (hk : Keep [] w w') : Pl W w' n b tn tb hs r l v K :=
  ⟨h.ws.keep hk, h.rel, h.lv.keep0 hk, h.pos, Keep.below_of h.below hk (by simp)⟩
theorem Pl.mono {W w : World} {n b tn tb : Nat} {hs : List (BA × Hd)} {r : List En} {l : List One} {v : Value} {K K' : Nat} (h : Pl W w n b tn tb hs r l v K) (hK : K ≤ K') : Pl W w n b tn tb hs r l v K' :=
  ⟨h.ws.mono hK, h.rel, h.lv, h.pos, h.below⟩
theorem Pl.blt {W w : World} {n b tn tb : Nat} {hs : List (BA × Hd)} {r : List En} {l : List One} {v : Value} {K : Nat} (h : Pl W w n b tn tb hs r l v K) : b < w.heap.size ∧ tb < w.heap.size :=
  ⟨h.ws.map.lt, h.ws.tim.base.2⟩
theorem Pl.len {W w : World} {n b tn tb : Nat} {hs : List (BA × Hd)} {r : List En} {l : List One} {v : Value} {K : Nat} (h : Pl W w n b tn tb hs r l v K) : l.length ≤ K := by have := h.rel.len; have := h.ws.len; omega
theorem Pl.nr {W w : World} {n b tn tb : Nat} {hs : List (BA × Hd)} {r : List En} {l : List One} {v : Value} {K : Nat} (h : Pl W w n b tn tb hs r l v K) : (r.map (·.1)).Nodup := by
  obtain ⟨l, h1, h2, h3, h4, _⟩ := h.ws.tim.ex
  exact (h4.1.map (·.1)).nodup_iff.2 h1.2.nodup
theorem Pl.bd {W w : World} {n b tn tb : Nat} {hs : List (BA × Hd)} {r : List En} {l : List One} {v : Value} {K : Nat} (h : Pl W w n b tn tb hs r l v K) : ∀ x ∈ l, 0 ≤ x.f2 ∧ x.f2 ≤ 4294967295 := fun x hx => by
  obtain ⟨y, h1, _, h2, _⟩ := h.rel.mem x hx
  rw [h2]
  exact h.ws.dl _ (get_mem2 h1)
theorem Pl.step {W w w' : World} {n b tn tb : Nat} {hs : List (BA × Hd)} {r : List En} {l : List One} {v : Value} {K : Nat} (h : Pl W w n b tn tb hs r l v K) (hk : Keep [b, tb] w w') : LV w' b tb v l ∧ Below W.heap.size W w' :=
  ⟨h.lv.keep hk, (h.ws.km hk (by simp)).below h.below⟩
theorem ms_len {W w : World} {n b tn tb : Nat} {hs : List (BA × Hd)} {r : List En} {K : Nat} (h : Ws W w n b tn tb hs r K) (now : Int) (ds : List En) : ∀ m ∈ ds.map (msgAt hs now), m.f4.length ≤ 100 := by
  intro m hm
  obtain ⟨e, _, rfl⟩ := List.mem_map.1 hm
  show ((AL.get hs e.1).getD Hd.zero).m.f4.length ≤ 100
  cases hg : AL.get hs e.1 with
  | none => simp [Hd.zero]
  | some x => exact h.plen _ (get_mem2 hg)
theorem pos_rm {r : List En} (h : ∀ p ∈ r, 0 ≤ p.2) (c : BA) : ∀ p ∈ rmE r c, 0 ≤ p.2 := fun p hp => h p (List.mem_filter.1 hp).1
theorem pos_end {hs : List (BA × Hd)} {r : List En} (h : ∀ p ∈ r, 0 ≤ p.2) (c : BA) (now ex : Int) (hn : 0 ≤ now) (he : 0 ≤ ex) (hd : ∀ p ∈ hs, 0 ≤ p.2.d ∧ p.2.d ≤ 4294967295) : ∀ p ∈ endW hs r c now ex, 0 ≤ p.2 := by
  intro p hp
  unfold endW at hp
  cases hg : AL.get hs c with
  | none => rw [hg] at hp; exact h p hp
  | some x =>
    rw [hg] at hp
    rcases List.mem_cons.1 ((insE_perm _ _).mem_iff.1 hp) with rfl | hp
    · have := hd _ (get_mem2 hg)
      simp only
      simp only at this
      omega
    · exact h p (List.mem_filter.1 hp).1
end R22
end Go.Proofs.Ytegnmdnflmlioaa
