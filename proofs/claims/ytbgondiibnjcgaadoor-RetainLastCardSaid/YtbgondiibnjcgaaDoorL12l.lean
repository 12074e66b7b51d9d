/- RetainLast: the walk. -/
import Derived.Test.YtbgondiibnjcgaaDoorMsgIn
import Derived.Test.YtbgondiibnjcgaaDoorA12
import Derived.Test.YtbgondiibnjcgaaDoorPub
import Derived.Test.YtbgondiibnjcgaaDoorRngP
namespace Go.Proofs.YtbgondiibnjcgaaDoor
open Go.RowKit Go.Shelf Go.Proofs.YtbgondiibnjcgaaDoor.PRetainPlays Go.Proofs.YtbgondiibnjcgaaDoorW.PrintWords Go.Proofs.YtbgondiibnjcgaaDoorW.PrintLast
set_option maxRecDepth 10000
set_option linter.unusedVariables false
set_option maxHeartbeats 1000000

abbrev LM := List (BA × BA)
/-- What is retained of each topic is the last message of it, or none, if that was empty. -/
structure LastOf (hs : List (BA × Rm)) (ls : LM) : Prop where
  has : ∀ k x, AL.get hs k = some x → AL.get ls k = some x.pl ∧ x.pl.size ≠ 0 ∧ x.tp = k ∧ x.ps = []
  no : ∀ k, AL.get hs k = none → ∀ p, AL.get ls k = some p → p.size = 0

theorem empty_of {v : BA} (h : v.size = 0) : v = ⟨#[]⟩ := by
  cases v with | mk d => cases d with | mk l => cases l with
  | nil => rfl
  | cons a t => exact absurd h (by simp [ByteArray.size])
theorem ne_empty {v : BA} (h : ¬ v.size = 0) : v.toList.isEmpty = false := by
  rw [ByteArray.toList_eq]; cases v with | mk d => cases d with | mk l => cases l with | nil => exact absurd rfl h | cons a l => rfl
theorem AL_get_mem {ν : Type} {l : List (BA × ν)} (h : (l.map (·.1)).Nodup) {k : BA} {v : ν} (hp : (k, v) ∈ l) : AL.get l k = some v := by
  induction l with
  | nil => simp at hp
  | cons a t ih =>
    obtain ⟨a, y⟩ := a
    simp only [List.map_cons, List.nodup_cons] at h
    simp only [AL.get]
    rcases List.mem_cons.1 hp with e | hp
    · cases e; simp
    · rw [if_neg (by intro e; exact h.1 (e ▸ List.mem_map_of_mem (f := (·.1)) hp))]
      exact ih h.2 hp

theorem LastOf.nil : LastOf [] [] := ⟨(fun k x h => by cases h), (fun k _ p h => by cases h)⟩

theorem LastOf.take {hs : List (BA × Rm)} {ls : LM} (h : LastOf hs ls) (hn : (hs.map (·.1)).Nodup) (k p : BA) (hp : p.size = 0) : LastOf (AL.del hs k) (AL.set ls k p) := by
  constructor
  · intro j x hj
    rw [AL.get_del hn] at hj
    rw [AL.get_set]
    by_cases e : j = k
    · rw [if_pos e] at hj; cases hj
    · rw [if_neg e] at hj ⊢; exact h.has j x hj
  · intro j hj q hq
    rw [AL.get_del hn] at hj
    rw [AL.get_set] at hq
    by_cases e : j = k
    · rw [if_pos e] at hq; cases hq; exact hp
    · rw [if_neg e] at hj hq; exact h.no j hj q hq

theorem LastOf.put {hs : List (BA × Rm)} {ls : LM} (h : LastOf hs ls) (k p : BA) (hp : p.size ≠ 0) (x : Rm) (hx : x.pl = p) (ht : x.tp = k) (hps : x.ps = []) : LastOf (AL.set hs k x) (AL.set ls k p) := by
  constructor
  · intro j y hj
    rw [AL.get_set] at hj ⊢
    by_cases e : j = k
    · rw [if_pos e] at hj ⊢; cases hj; exact ⟨by rw [hx], by rw [hx]; exact hp, by rw [ht, e], hps⟩
    · rw [if_neg e] at hj ⊢; exact h.has j y hj
  · intro j hj q hq
    rw [AL.get_set] at hj hq
    by_cases e : j = k
    · rw [if_pos e] at hj; cases hj
    · rw [if_neg e] at hj hq; exact h.no j hj q hq

/-- Is a topic's last message more than nothing? -/
def isFull (ls : LM) (k : BA) : Bool := decide (((AL.get ls k).getD ⟨#[]⟩).size ≠ 0)

theorem LastOf.count {hs : List (BA × Rm)} {ls : LM} (h : LastOf hs ls) (hn : (hs.map (·.1)).Nodup) {ss : List BA} (hss : ss.Nodup) (hm : ∀ k, k ∈ ss ↔ k ∈ ls.map (·.1)) : (ss.filter (isFull ls)).length = hs.length := by
  have hp : (ss.filter (isFull ls)).Perm (hs.map (·.1)) := (List.perm_ext_iff_of_nodup (hss.sublist List.filter_sublist) hn).2 fun k => by
    rw [List.mem_filter, hm]
    constructor
    · rintro ⟨h1, h2⟩
      cases hg : AL.get hs k with
      | some x => exact AL.get_isSome.1 (by rw [hg]; rfl)
      | none =>
        exfalso
        have h3 : (AL.get ls k).isSome = true := AL.get_isSome.2 h1
        cases hl : AL.get ls k with
        | none => rw [hl] at h3; cases h3
        | some p =>
          have := h.no k hg p hl
          unfold isFull at h2
          rw [hl] at h2
          simp only [Option.getD_some, decide_eq_true_eq] at h2
          exact h2 this
    · intro h1
      have h3 : (AL.get hs k).isSome = true := AL.get_isSome.2 h1
      cases hg : AL.get hs k with
      | none => rw [hg] at h3; cases h3
      | some x =>
        obtain ⟨a, b, _⟩ := h.has k x hg
        refine ⟨AL.get_isSome.1 (by rw [a]; rfl), ?_⟩
        unfold isFull
        rw [a]
        simpa using b
  rw [hp.length_eq, List.length_map]

/-- What is told of all that is retained. -/
theorem LastOf.told {hs : List (BA × Rm)} {ls : LM} (h : LastOf hs ls) {f : BA} {now : Int} {L : List BA} (hL : ∀ k ∈ L, k ∈ hs.map (·.1)) {m : SM} (hm : m ∈ matchR hs f now L) : AL.get ls m.f5 = some m.f6 ∧ m.f6.size ≠ 0 := by
  unfold matchR at hm
  obtain ⟨k, hk, rfl⟩ := List.mem_map.1 hm
  have h1 := hL k (List.mem_filter.1 hk).1
  have h3 : (AL.get hs k).isSome = true := AL.get_isSome.2 h1
  cases hg : AL.get hs k with
  | none => rw [hg] at h3; cases h3
  | some x =>
    obtain ⟨a, b, c, _⟩ := h.has k x hg
    simp only [Option.getD_some, toM]
    rw [c]
    exact ⟨a, b⟩

theorem Rs.off {W w w' : World} {n b x : Nat} {most : Int} {hs : List (ByteArray × Rm)} (h : Rs W w n b most hs) (hk : Keep [x] w w') (h1 : n ≠ x) (h2 : b ≠ x) (h3 : ¬ OfTypes (PrT :: kPr.E) w x) : Rs W w' n b most hs :=
  ⟨h.box.keep hk (by simpa using h1), h.map.keep hk (by simpa using h2), h.bn, h.bb, fun p hp => (h.own p hp).keep hk (by intro k hk; simp at hk; subst hk; exact h3), h.plen⟩

structure LastS (W : World) (n b lb j : Nat) (hs : List (BA × Rm)) (ls : LM) (wr : World) : Prop where
  rs : Rs W wr n b 100 hs
  lm : MapAt wr lb Value.string Value.string ls
  of : LastOf hs ls
  hl : hs.length ≤ j
  ll : ls.length ≤ j
  ks : ∀ p ∈ hs, p.1.size ≤ 30
  base : W.heap.size ≤ lb
  nb : lb ≠ b
  nn : lb ≠ n
  keep : Keep [] W wr

theorem LastS.still {W w w' : World} {n b lb j : Nat} {hs : List (BA × Rm)} {ls : LM} (h : LastS W n b lb j hs ls w) (hk : Keep [] w w') : LastS W n b lb j hs ls w' :=
  ⟨h.rs.keep hk, h.lm.keep hk (by simp), h.of, h.hl, h.ll, h.ks, h.base, h.nb, h.nn, h.keep.then hk⟩

/-- Behind Set: the store has the message, or no more; the other map is to be told. -/
structure LastH (W : World) (n b lb j : Nat) (hs : List (BA × Rm)) (ls : LM) (tp p : BA) (w : World) : Prop where
  rs : Rs W w n b 100 hs
  lm : MapAt w lb Value.string Value.string ls
  of : LastOf hs (AL.set ls tp p)
  hl : hs.length ≤ j + 1
  ll : ls.length ≤ j
  ks : ∀ p ∈ hs, p.1.size ≤ 30
  base : W.heap.size ≤ lb
  nb : lb ≠ b
  nn : lb ≠ n
  keep : Keep [] W w

theorem LastH.told {W w w' : World} {n b lb j : Nat} {hs : List (BA × Rm)} {ls : LM} {tp p : BA} (h : LastH W n b lb j hs ls tp p w) (hk : Keep [lb] w w') (hm : MapAt w' lb Value.string Value.string (AL.set ls tp p)) : LastS W n b lb (j + 1) hs (AL.set ls tp p) w' :=
  ⟨h.rs.off hk (fun e => h.nn e.symm) (fun e => h.nb e.symm) (not_of_map h.lm _), hm, h.of, h.hl, by have := AL.length_set ls tp p; have := h.ll; split at * <;> omega, h.ks, h.base, h.nb, h.nn, h.keep.trans hk (by simp) (fun x hx hlt => by simp at hx; have := h.base; omega)⟩

theorem LastS.setNone {W w : World} {n b lb j : Nat} {hs : List (BA × Rm)} {ls : LM} (h : LastS W n b lb j hs ls w) (fr tp : BA) (at_ q : Int) (rt : Bool) :
    Calls Tryd.prog 15 #[.pointer (some ⟨n, 0, none⟩), .agg #[.string fr, .int .i64 at_, .int .u8 q, .bool rt, .slice none 0 0, .string tp, .string ⟨#[]⟩]] w (Px fun (x : List (BA × Rm)) e w' => e = .returned (.int .i64 0) ∧ LastH W n b lb j x ls tp ⟨#[]⟩ w' ∧ Keep [b] w w') := by
  refine (rSetNone h.rs fr tp at_ q rt none 0 0).mono ?_
  rintro e w' ⟨rfl, h2, hk⟩
  refine ⟨_, rfl, ⟨h2, h.lm.keep hk (by simpa using h.nb), h.of.take h.rs.map.nodup tp ⟨#[]⟩ rfl, ?_, h.ll, fun p hp => h.ks p (mem_del hp), h.base, h.nb, h.nn, h.keep.trans hk (by simp) (fun x hx hlt => by simp at hx; have := h.rs.bb; omega)⟩, hk⟩
  have := AL.length_del hs tp
  have := h.hl
  split at * <;> omega

theorem LastS.setSome {W w : World} {n b lb j : Nat} {hs : List (BA × Rm)} {ls : LM} (h : LastS W n b lb j hs ls w) (hj : j < 20) (fr tp pl : BA) (at_ q : Int) (rt : Bool) (hp : pl.size ≠ 0) (ht : tp.size ≤ 30) :
    Calls Tryd.prog 15 #[.pointer (some ⟨n, 0, none⟩), .agg #[.string fr, .int .i64 at_, .int .u8 q, .bool rt, .slice none 0 0, .string tp, .string pl]] w (Px fun (x : List (BA × Rm)) e w' => e = .returned (.int .i64 0) ∧ LastH W n b lb j x ls tp pl w' ∧ Keep [b] w w') := by
  refine (rSetStore h.rs fr tp at_ q rt none [] 0 pl hp (Own.nil kPr PrT 0 w) (by simp) (Or.inr (by have := h.hl; omega))).mono ?_
  rintro e w' ⟨v, rfl, h2, hk⟩
  refine ⟨_, rfl, ⟨h2, h.lm.keep hk (by simpa using h.nb), h.of.put tp pl hp _ rfl rfl rfl, ?_, h.ll, fun p hp => ?_, h.base, h.nb, h.nn, h.keep.trans hk (by simp) (fun x hx hlt => by simp at hx; have := h.rs.bb; omega)⟩, hk⟩
  · have := AL.length_set hs tp (⟨fr, at_, q, rt, [], v, tp, pl⟩ : Rm)
    have := h.hl
    split at * <;> omega
  · rcases mem_set hp with rfl | hp
    · exact ht
    · exact h.ks p hp

theorem LastS.set {W w : World} {n b lb j : Nat} {hs : List (BA × Rm)} {ls : LM} (h : LastS W n b lb j hs ls w) (hj : j < 20) (fr tp pl : BA) (at_ q : Int) (rt : Bool) (ht : tp.size ≤ 30) :
    Calls Tryd.prog 15 #[.pointer (some ⟨n, 0, none⟩), .agg #[.string fr, .int .i64 at_, .int .u8 q, .bool rt, .slice none 0 0, .string tp, .string pl]] w (Px fun (x : List (BA × Rm)) e w' => e = .returned (.int .i64 0) ∧ LastH W n b lb j x ls tp pl w' ∧ Keep [b] w w') := by
  by_cases hp : pl.size = 0
  · obtain rfl : pl = ⟨#[]⟩ := by
      cases pl with | mk d => cases d with | mk l => cases l with
      | nil => rfl
      | cons a t => exact absurd hp (by simp [ByteArray.size])
    exact h.setNone fr tp at_ q rt
  · exact h.setSome hj fr tp pl at_ q rt hp ht

def lastRel (W : World) (n b lb : Nat) (i : Value) (wr : World) : Prop := ∃ (j : Nat) (hs : List (BA × Rm)) (ls : LM), i = .int .i64 j ∧ j ≤ 20 ∧ LastS W n b lb j hs ls wr
def lastRel2 (W w0 : World) (lb r : Nat) (ls : LM) (c : Value) (wr : World) : Prop := ∃ ss, RangeAt wr lb r Value.string Value.string ls ss ∧ c = .int .i64 ((ss.filter (isFull ls)).length : Int) ∧ Keep [r] w0 wr
def lastRel3 (w0 : World) (ml : Nat) (i : Value) (wr : World) : Prop := ∃ j : Nat, i = .int .i64 j ∧ j ≤ ml ∧ Keep [] w0 wr

theorem last_walk (a0 : Option Addr) (len0 cap0 : Nat) (z0 : Sh.T (.slice ShMsg)) (w : World) (r0 : Sh.Rd w (.slice ShMsg) z0 [.slice a0 len0 cap0]) (hmx : MaxLenAt w) :
    Calls Tryd.prog 4 #[.slice a0 len0 cap0] w fun e w' => e = .returned (.bool true) ∧ Below w.heap.size w w' := by
  have hl0 : len0 ≤ maxLen := by obtain ⟨_, h1, h2⟩ := Sh.slice_len r0; omega
  have hmm := @run_makeMap Tryd.prog
  have HA := hide (awake12 w hmx)
  have HMX := hide hmx
  have HR := hide r0
  unfold maxLen at hl0
  have hw0 := hide (show 0 < w.heap.size from by obtain ⟨m, hm⟩ := hmx; exact World.block_lt_of_cell? _ _ hm)
  clear r0 hmx
  go_enter Tryd.func4, Tryd.ntmps4
  go_wp2_with fail
  refine HA.out.mono ?_
  rintro e w1 ⟨rfl, hk1⟩
  go_wp2_with fail
  refine (rNew (W := w) hk1.size 100).mono ?_
  rintro e w2 ⟨⟨n, b⟩, rfl, h2, hk2⟩
  simp only at h2
  have hm1 : max (100 : Int) 0 = 100 := by decide
  rw [hm1] at h2
  have hka := (Keep.refl [] w2).alloc (Obj.map #[] 0)
  have hSt : LastS w n b w2.heap.size 0 [] [] (w2.alloc (Obj.map #[] 0)) := by
    refine ⟨h2.keep hka, MapAt.new w2 Value.string Value.string, LastOf.nil, by simp, by simp, by simp, ?_, ?_, ?_, (hk1.then hk2).then hka⟩
    · have := hk1.size; have := hk2.size; omega
    · have := h2.map.lt; omega
    · have := h2.box.lt; omega
  obtain ⟨lb, hlb⟩ : ∃ lb, w2.heap.size = lb := ⟨_, rfl⟩
  clear hm1 h2 hk1 hk2 hka
  go_wp2_with fail
  rw [hlb] at hSt
  clear hlb
  go_loopw [5] (fun i wr => lastRel w n b lb i wr) (fun i _ => 20 - (intOf i).toNat)
  case atStart => exact ⟨0, [], [], rfl, by omega, hSt⟩
  case round =>
    clear hSt
    obtain ⟨j, hs, ls, rfl, hj, hSt⟩ := hrel
    by_cases hlt : j < len0 ∧ j < 20
    · obtain ⟨hlt, hlt2⟩ := hlt
      obtain ⟨b0, off, rfl, hb0, hc⟩ := slice_msg HR.out (by omega)
      obtain ⟨fr, at_, q, rt, A, c, ps, tp, pl, ⟨c0, c1, c2, c3, c4, c5, c6⟩, hcc, hC⟩ := hc j hlt
      have hK := hSt.keep
      have old := fun o => hK.cell (p := ⟨b0, o, none⟩) hb0 (by simp)
      have d0 := (old (off + j * 7)).trans c0
      have d1 := (old (off + j * 7 + 1)).trans c1
      have d2 := (old (off + j * 7 + 2)).trans c2
      have d3 := (old (off + j * 7 + 3)).trans c3
      have d4 := (old (off + j * 7 + 4)).trans c4
      have d5 := (old (off + j * 7 + 5)).trans c5
      have d6 := (old (off + j * 7 + 6)).trans c6
      have HF := hide (mfew hcc (Kd.C_below hC hK.below) fr tp pl at_ q rt)
      obtain ⟨nl, hnl⟩ : ∃ n, ps.length = n := ⟨_, rfl⟩
      rw [hnl] at HF d4
      have hl1 : (j : Int) < (len0 : Int) := by omega
      have hl2 : (j : Int) < 20 := by omega
      have HSt := hide hSt
      have HJ := hide hlt2
      clear c0 c1 c2 c3 c4 c5 c6 hC hcc hc hnl old hK hSt hlt hlt2
      go_wp2_with fail
      refine HF.out.mono ?_
      rintro e w3 ⟨v, rfl, hO, hk3⟩
      obtain ⟨A1, c1, rfl⟩ := hO.slice
      obtain ⟨nf, hnf⟩ : ∃ n, (fewP ps).length = n := ⟨_, rfl⟩
      rw [hnf]
      have hS3 := HSt.out.still hk3
      have hX := Blk.new w3 #[.string (cutS fr 10), .int .i64 (tickV at_), .int .u8 q, .bool rt, .slice A1 nf c1, .string (cutS tp 30), .string (cutS pl 30)] MsT
      have HX := hide hX
      have HS3 := hide hS3
      clear hnf hO hk3 hS3 hX d0 d1 d2 d3 d4 d5 d6
      go_upto_region 9 with fail
      obtain ⟨w4, hw4⟩ : ∃ w4, w3.alloc (.cells #[.string (cutS fr 10), .int .i64 (tickV at_), .int .u8 q, .bool rt, .slice A1 nf c1, .string (cutS tp 30), .string (cutS pl 30)] MsT) = w4 := ⟨_, rfl⟩
      have hk4 := (Keep.refl [] w3).alloc (.cells #[.string (cutS fr 10), .int .i64 (tickV at_), .int .u8 q, .bool rt, .slice A1 nf c1, .string (cutS tp 30), .string (cutS pl 30)] MsT)
      have hX4 := HX.out
      rw [hw4] at hX4 hk4 ⊢
      clear hw4 HX
      obtain ⟨q0, q1, q2, q3, q4, q5, q6⟩ := hX4.cells7
      have f4 := hX4.frozen 4 (by simp)
      have hX5 := hX4.set 4 (.slice none 0 0)
      have hk5 : Keep [] w3 (w4.setCell ⟨w3.heap.size, 4, none⟩ (.slice none 0 0)) := hk4.setCell (fun h => absurd h (by simp)) _
      have HX5 := hide hX5
      have HK5 := hide hk5
      clear hX4 hk4 hX5 hk5
      go_upto_region 10 with fail
      obtain ⟨w5, hw5⟩ : ∃ w5, w4.setCell ⟨w3.heap.size, 4, none⟩ (.slice none 0 0) = w5 := ⟨_, rfl⟩
      have hX5 := HX5.out
      have hk5 := HK5.out
      rw [hw5] at hX5 hk5 ⊢
      clear hw5 HX5 HK5 q0 q1 q2 q3 q4 q5 q6 f4
      have hX5 : Blk w5 w3.heap.size #[.string (cutS fr 10), .int .i64 (tickV at_), .int .u8 q, .bool rt, .slice none 0 0, .string (cutS tp 30), .string (cutS pl 30)] MsT := by simpa using hX5
      obtain ⟨q0, q1, q2, q3, q4, q5, q6⟩ := hX5.cells7
      have hS5 := HS3.out.still hk5
      have hset := hide (hS5.set HJ.out (cutS fr 10) (cutS tp 30) (cutS pl 30) (tickV at_) q rt (cutS_size _ _))
      have hnX := hS5.rs.map.ne_blk hX5
      have HX5 := hide hX5
      have HNX := hide hnX
      clear hX5 hS5 hk5 hnX HS3
      go_wp2_with fail
      refine hset.out.mono ?_
      rintro e w6 ⟨hs6, rfl, hH, hk6⟩
      have hX6 := HX5.out.keep hk6 (by simpa using HNX.out)
      obtain ⟨q0, q1, q2, q3, q4, q5, q6⟩ := hX6.cells7
      have hM6 := hH.lm
      have HH := hide hH
      clear hX6 hk6 hH
      go_wp2_with (at_mapUpdate; refine wpList_mapUpdate_map rfl _ _ _ 39 rfl 9 9 lawStr Tryd.underlying39 lb ls rfl hM6 (cutS tp 30) (cutS pl 30) rfl rfl ?_; intro w7 hM7 hK7 hz7)
      have h8 := HH.out.told hK7 hM7
      have hj1 := HJ.out
      exact ⟨⟨j + 1, _, _, by simp, by omega, h8⟩, by simp [intOf] <;> omega⟩
    · have hlast : (¬ (j : Int) < (len0 : Int) ∧ decide (j < len0) = false) ∨ ((j : Int) < (len0 : Int) ∧ decide (j < len0) = true ∧ ¬ (j : Int) < 20 ∧ decide (j < 20) = false) := by
        by_cases h : j < len0
        · exact Or.inr ⟨by omega, by simpa using h, by omega, by simp; omega⟩
        · exact Or.inl ⟨by omega, by simpa using h⟩
      obtain ⟨wL, hwL⟩ : ∃ x, x = wr := ⟨_, rfl⟩
      rw [← hwL] at hSt ⊢
      clear hwL
      have hM := hSt.lm
      have HSt := hide hSt
      have HJ20 := hide hj
      clear hlt hSt hj
      rcases hlast with ⟨g1, g2⟩ | ⟨g1, g2, g3, g4⟩
      all_goals
        go_wp2_with (refine wpList_range_map _ rfl _ 39 rfl 9 9 Tryd.underlying39 lb ls rfl hM ?_; intro wR hR0 hg0 hz0)
        have hk0 : Keep [] wL wR := Keep.of_grown hg0 (fun k e => by cases e)
        try go_frame
        go_loopw [7, 43] (fun c _ wq => lastRel2 w wR lb wL.heap.size ls c wq) (fun _ _ wq => wq.rangeLeft lb wL.heap.size)
        case atStart => exact ⟨[], hR0, rfl, Keep.refl _ _⟩
        case round =>
          obtain ⟨ss, hRs, rfl, hKs⟩ := hrel
          go_wp2_with (refine wpList_next_map _ rfl _ rfl lb wL.heap.size ls ss strInj hM.nodup rfl hRs ?_ ?_)
          · intro hall
            have hall2 : ∀ k, k ∈ ss ↔ k ∈ ls.map (·.1) := fun k => ⟨hRs.sub k, fun hk => by
              obtain ⟨p, hp, rfl⟩ := List.mem_map.1 hk
              first | exact hall _ (List.mem_map_of_mem hp) | exact hall _ _ hp⟩
            have hcnt := HSt.out.of.count HSt.out.rs.map.nodup hRs.nodup hall2
            rw [hcnt]
            have hfull : Keep [] wL wr := (hk0.trans hKs (S := [wL.heap.size]) (by simp) (fun _ h _ => h)).trans (Keep.refl [] wr) (fun x hx hlt => by simp at hx; omega) (by simp)
            have hS := HSt.out.still hfull
            have HS := hide hS
            have hma := hide (rMatch hS.rs restB 0 (by decide) (fun p hp => by have := hS.ks p hp; omega) (by have := hS.hl; have := HJ20.out; omega) (HMX.out.keep hS.keep (by have := hw0.out; simp)))
            have HSL := hide hS.rs
            have hlt3 := hS.hl
            have hj20 := HJ20.out
            have hb4 : hs.length < 1000000 := by omega
            obtain ⟨hn, hhn⟩ : ∃ m, hs.length = m := ⟨_, rfl⟩
            rw [hhn] at hb4 ⊢
            have HHN := hide hhn
            clear hRs hall hall2 hcnt hfull hS hKs hR0 hg0 hz0 hk0 hlt3 hj20 hhn
            go_wp2_with fail
            refine hma.out.mono ?_
            rintro e w8 ⟨⟨v8, L⟩, rfl, hO8, hL8, hk8⟩
            simp only at hO8 hL8
            have hML := fun m (hm : m ∈ matchR hs restB 0 L) => HSt.out.of.told (fun k hk => hL8.1.mem_iff.1 hk) hm
            have hmlen := matchR_len hs restB 0 L
            have hLl := hL8.1.length_eq
            rw [List.length_map, HHN.out] at hLl
            obtain ⟨ml, hmle⟩ : ∃ m, matchR hs restB 0 L = m := ⟨_, rfl⟩
            rw [hmle] at hO8 hML hmlen
            obtain ⟨A8, c8, rfl⟩ := hO8.slice
            have HS8 := hide (HS.out.still hk8)
            have HO8 := hide hO8
            have HML := hide hML
            have hml2 : ml.length < 1000000 := by omega
            clear hmlen hLl hmle hML hO8 hL8 hk8
            go_wp2_with fail
            go_loopw [54] (fun i wq => lastRel3 w8 ml.length i wq) (fun i _ => ml.length - (intOf i).toNat)
            case atStart => exact ⟨0, rfl, by omega, Keep.refl _ _⟩
            case round =>
              obtain ⟨m, rfl, hm, hKm⟩ := hrel
              by_cases hlt : m < ml.length
              · obtain ⟨g, cap, A4, c4, hv, _, hg, x0, x1, x2, x3, x4, x5, x6, g8, g9⟩ := own_ms_at (HO8.out.keep hKm (by simp)) hlt
                obtain ⟨hA8, hc8⟩ := slice_inj hv
                subst hA8 hc8
                obtain ⟨hg5, hg6⟩ := HML.out _ (List.getElem_mem hlt)
                obtain ⟨⟨m0, m1, m2, m3, m4, m5, m6⟩, hme⟩ : ∃ x, ml[m] = x := ⟨_, rfl⟩
                rw [hme] at x0 x1 x2 x3 x4 x5 x6 hg5 hg6
                simp only at x0 x1 x2 x3 x4 x5 x6 hg5 hg6
                obtain ⟨nl4, hnl4⟩ : ∃ n, m4.length = n := ⟨_, rfl⟩
                rw [hnl4] at x4
                have hX := Blk.new wr #[.string m0, .int .i64 m1, .int .u8 m2, .bool m3, .slice A4 nl4 c4, .string m5, .string m6] MsT
                have hkX := (Keep.refl [] wr).alloc (.cells #[.string m0, .int .i64 m1, .int .u8 m2, .bool m3, .slice A4 nl4 c4, .string m5, .string m6] MsT)
                have hS9 := HS8.out.still (hKm.then hkX)
                have look := run_lookup_map lawStr Tryd.underlying39 hS9.lm (z := .string ⟨#[]⟩) (by kernel_rfl) m5 false
                rw [hg5] at look
                simp only [optV, Bool.false_eq_true, if_false] at look
                obtain ⟨q0, q1, q2, q3, q4, q5, q6⟩ := hX.cells7
                have hve : m6.toList.isEmpty = false := ne_empty hg6
                have hvn : ¬ m6.toList = [] := by intro e; rw [e] at hve; cases hve
                have hlt6 : (m : Int) < (ml.length : Int) := by omega
                have HKX := hide (hKm.then hkX)
                have HLT := hide hlt
                clear g8 g9 hX hkX hS9 hg5 hg6 hme hnl4 hv hlt hKm hm
                go_wp2_with fail
                go_roundw
                case rel => exact ⟨m + 1, by simp, by have := HLT.out; omega, HKX.out⟩
                case measure => have := HLT.out; simp [intOf]; omega
              · obtain rfl : m = ml.length := by omega
                have hS9 := HS8.out.still hKm
                have hle := hide (HHN.out ▸ rLen hS9.rs)
                have HK9 := hide hS9.keep
                have hnn : ¬ ((ml.length : Int) < (ml.length : Int)) := by omega
                clear hS9 hKm hlt hm
                go_wp2_with fail
                refine hle.out.mono ?_
                rintro e w9 ⟨rfl, rfl⟩
                go_wp2_with fail
                go_ret
                exact ⟨rfl, HK9.out.below⟩
          · intro x v wN hxv hll hRN hlt' hgN hzN hen
            have hget : AL.get ls x = some v := AL_get_mem hM.nodup hxv
            have hif : isFull ls x = decide (v.size ≠ 0) := by unfold isFull; rw [hget]; rfl
            have hfl : ((ss ++ [x]).filter (isFull ls)).length = (ss.filter (isFull ls)).length + if v.size ≠ 0 then 1 else 0 := by
              rw [List.filter_append, List.length_append]
              simp only [List.filter_cons, List.filter_nil, hif]
              by_cases h : v.size = 0 <;> simp [h]
            have hKN : Keep [wL.heap.size] wR wN := hKs.then (Keep.of_grown hgN (fun k e _ => by cases e; simp))
            have hcl := List.length_filter_le (isFull ls) ss
            have hl20 := HSt.out.ll
            have hj20 := HJ20.out
            obtain ⟨cn, hcn⟩ : ∃ m, (ss.filter (isFull ls)).length = m := ⟨_, rfl⟩
            rw [hcn] at hfl hcl ⊢
            have hcb : cn < 1000000000 := by omega
            clear hj20 hl20 hcl
            have HRN := hide hRN
            have HLT := hide hlt'
            have HFL := hide hfl
            clear hRs hzN hlt' hRN hget hif hfl hcn hgN
            by_cases hv : v.size = 0
            · obtain rfl : v = ⟨#[]⟩ := empty_of hv
              have hfl := HFL.out
              rw [if_neg (fun h => h rfl)] at hfl
              have HF2 := hide hfl
              clear hfl HFL hv
              go_wp2_with fail
              go_roundw
              case rel => exact ⟨ss ++ [x], HRN.out, by rw [HF2.out]; rfl, hKN⟩
              case measure => exact HLT.out
            · have hfl := HFL.out
              rw [if_pos hv] at hfl
              have HF2 := hide hfl
              have hve : v.toList.isEmpty = false := ne_empty hv
              have hvn : ¬ v.toList = [] := by intro e; rw [e] at hve; cases hve
              clear hfl HFL hv
              go_wp2_with fail
              go_roundw
              case rel => exact ⟨ss ++ [x], HRN.out, by rw [HF2.out]; simp, hKN⟩
              case measure => exact HLT.out
end Go.Proofs.YtbgondiibnjcgaaDoor
