import Derived.Test.YtbgondiibnjcgaaDoorS12
import Derived.Test.YtbgondiibnjcgaaDoorMsgIn
namespace Go.Proofs.YtbgondiibnjcgaaDoor
open Go.RowKit Go.Lib Go.Proofs.YtbgondiibnjcgaaDoor.PRetainPlays Go.Proofs.YtbgondiibnjcgaaDoorW.PrintWords Go.Proofs.YtbgondiibnjcgaaDoorW.PrintLast
set_option maxRecDepth 10000
set_option linter.unusedVariables false
set_option maxHeartbeats 1000000
namespace R12
abbrev kRP : Kd RP := k92
abbrev RPT : Nat := 92
abbrev kRM : Kd RM := k56
abbrev RMT : Nat := 56
def LV (w : World) (b : Nat) (v : Value) (l : List RM) : Prop := Kd.V kRM RMT w 0 (fun k => k ≠ b) v l
def PV (w : World) (b : Nat) (v : Value) (l : List RP) : Prop := Kd.V kRP RPT w 0 (fun k => k ≠ b) v l
theorem LV.keep {w w' : World} {b : Nat} {v : Value} {l : List RM} (h : LV w b v l) (hk : Keep [b] w w') : LV w' b v l :=
  Kd.V_step h fun k hok hlt => hk.block k hlt (by simpa using hok)
theorem LV.keep0 {w w' : World} {b : Nat} {v : Value} {l : List RM} (h : LV w b v l) (hk : Keep [] w w') : LV w' b v l := h.keep (hk.mono (by simp))
theorem PV.keep0 {w w' : World} {b : Nat} {v : Value} {l : List RP} (h : PV w b v l) (hk : Keep [] w w') : PV w' b v l :=
  Kd.V_step h fun k hok hlt => hk.block k hlt (by simp)
theorem LV.of {w : World} {b base : Nat} {v : Value} {l : List RM} (h : Kd.V kRM RMT w base (fun k => (k ≠ b) ∨ base ≤ k) v l) (hb : b < base) : LV w b v l :=
  Kd.V_lower (base := base) (Kd.V_mono h fun k hk => by rcases hk with h | h; exact h; omega) (Nat.zero_le _)
section
variable {w : World} {b : Nat} {v : Value} {l : List RM}
theorem rSetR (h : LV w b v l) (hb : b < w.heap.size) (hl : l.length < 1000000) (m : RM) {A : Option Addr} {c : Nat} (hP : PV w b (.slice A m.f4.length c) m.f4) (most : Int) :
    Calls Tryd.prog 30 #[v, .agg #[.string m.f0, .int .i64 m.f1, .int .u8 m.f2, .bool m.f3, .slice A m.f4.length c, .string m.f5, .string m.f6], .int .i64 most] w (Px fun (v' : Value) e w' => e = .returned (.tuple #[v', .bool (setR l m most).2]) ∧ LV w' b v' (setR l m most).1 ∧ Keep [] w w') := by
  obtain ⟨A0, c0, rfl⟩ := Kd.V_slice h
  refine (switchboardref12_Set.calls (l.length + 2) (fun k => k ≠ b) A0 c0 l m.f0 m.f1 m.f2 m.f3 (fun k => k ≠ b) A c m.f4 m.f5 m.f6 most _ _ w h hP (set_f l m most hl _ (by omega))).mono ?_
  rintro e w' ⟨v0, rfl, hV, hB⟩
  exact ⟨v0, rfl, LV.of (Kd.V_mono hV fun k hk => by rcases hk with (h | h) | h <;> simp [h]) hb, Keep.of_below hB⟩
theorem rExpR (h : LV w b v l) (hb : b < w.heap.size) (hl : l.length < 1000000) (hp : ∀ m ∈ l, m.f4.length ≤ 100) (now : Int) :
    Calls Tryd.prog 32 #[v, .int .i64 now] w (Px fun (v' : Value) e w' => e = .returned v' ∧ LV w' b v' (l.filter fun m => !goneR now m) ∧ Keep [] w w') := by
  obtain ⟨A0, c0, rfl⟩ := Kd.V_slice h
  refine (switchboardref12_Expire.calls (l.length + 201) (fun k => k ≠ b) A0 c0 l now _ w h (exp_f l now hl hp _ (by omega))).mono ?_
  rintro e w' ⟨v0, rfl, hN, hB⟩
  exact ⟨v0, rfl, LV.of (Kd.N_V hN) hb, Keep.of_below hB⟩
theorem rMatR (h : LV w b v l) (hl : l.length < 1000000) (hp : ∀ m ∈ l, m.f4.length ≤ 100) (f : BA) (now : Int) (hf : f.size ≤ 100) (ht : ∀ m ∈ l, m.f5.size ≤ 100) :
    Calls Tryd.prog 34 #[v, .string f, .int .i64 now] w (Px fun (x : Option Addr × Nat) e w' => e = .returned (.slice x.1 (l.filter fun m => topM f m.f5 && !goneR now m).length x.2) ∧ kRM.C w' x.1 (l.filter fun m => topM f m.f5 && !goneR now m).length (l.filter fun m => topM f m.f5 && !goneR now m) ∧ (l.filter fun m => topM f m.f5 && !goneR now m).length ≤ x.2 ∧ Keep [] w w') := by
  obtain ⟨A0, c0, rfl⟩ := Kd.V_slice h
  refine (switchboardref12_Match.calls (l.length + 1001) (fun k => k ≠ b) A0 c0 l f now _ w h (mat_f l f now hl hp hf ht _ (by omega))).mono ?_
  rintro e w' ⟨v0, rfl, hN, hB⟩
  obtain ⟨A, c, rfl, hc, hC⟩ := Kd.N_reads hN
  exact ⟨(A, c), rfl, hC, hc, Keep.of_below hB⟩
end
theorem mIs {w : World} {base : Nat} {v : Value} {l : List SM} {A : Option Addr} {c n : Nat} {m : List RM} (h : Own kMs MsT base w v l) (hl : l.length < 1000000) (hp : ∀ m ∈ l, m.f4.length ≤ 100) (hC : kRM.C w A n m) (hc : n ≤ c) (hn : n = m.length) (hm : m = l.map toR) :
    Calls Tryd.prog 33 #[v, .slice A n c] w fun e w' => e = .returned (.int .i64 0) ∧ Keep [] w w' := by
  obtain ⟨A0, c0, rfl, h0, hC0⟩ := h.reads
  subst hn hm
  refine (switchboardlaw12_Is.calls (l.length + 201) A0 c0 l A c _ 0 w hC0 h0 hC hc (is_f l hl hp _ (by omega))).mono ?_
  rintro e w' ⟨rfl, hB⟩
  exact ⟨rfl, Keep.of_below hB⟩
theorem mTold {w : World} {base b : Nat} {v : Value} {ps : List SP} (fr tp pl : BA) (at_ q : Int) (rt : Bool) (h : Own kPr PrT base w v ps) (hl : ps.length < 1000000) (hb : b < w.heap.size) :
    Calls Tryd.prog 23 #[.agg #[.string fr, .int .i64 at_, .int .u8 q, .bool rt, v, .string tp, .string pl]] w (Px fun (x : Option Addr × Nat) e w' => e = .returned (.agg #[.string fr, .int .i64 at_, .int .u8 q, .bool rt, .slice x.1 (ps.map toP).length x.2, .string tp, .string pl]) ∧ PV w' b (.slice x.1 (ps.map toP).length x.2) (ps.map toP) ∧ Keep [] w w') := by
  obtain ⟨A, c, rfl, hc, hC⟩ := h.reads
  refine (switchboardlaw12_Told.calls (ps.length + 1) fr at_ q rt A c ps tp pl _ _ _ _ _ _ _ w hC hc (by unfold switchboardlaw12_Told.f; rw [toldp_f ps hl _ (by omega)]; rfl)).mono ?_
  rintro e w' ⟨v0, rfl, hR, hB⟩
  have hO : Own kRP RPT w.heap.size w' v0 (ps.map toP) := hR
  obtain ⟨A1, c1, rfl⟩ := hO.slice
  exact ⟨(A1, c1), rfl, Kd.R_V (Kd.R_mono (Kd.R_bound hR) fun k hk => by have := hk.2.1; omega), Keep.of_below hB⟩
structure Pl (W w : World) (n b j : Nat) (most : Int) (hs : List (BA × Rm)) (l : List RM) (v : Value) : Prop where
  rs : Rs W w n b most hs
  rel : Rel hs l
  lv : LV w b v l
  ks : ∀ p ∈ hs, p.1.size ≤ 30
  hl : hs.length ≤ j
  below : Keep [] W w
section
variable {W w w' : World} {n b j : Nat} {most : Int} {hs : List (BA × Rm)} {l : List RM} {v : Value}
theorem Pl.keep (h : Pl W w n b j most hs l v) (hk : Keep [] w w') : Pl W w' n b j most hs l v := ⟨h.rs.keep hk, h.rel, h.lv.keep0 hk, h.ks, h.hl, h.below.then hk⟩
theorem Pl.mono {j' : Nat} (h : Pl W w n b j most hs l v) (hj : j ≤ j') : Pl W w n b j' most hs l v := ⟨h.rs, h.rel, h.lv, h.ks, Nat.le_trans h.hl hj, h.below⟩
theorem Pl.blt (h : Pl W w n b j most hs l v) : b < w.heap.size := h.rs.map.lt
theorem Pl.nd (h : Pl W w n b j most hs l v) : (hs.map (·.1)).Nodup := h.rs.map.nodup
theorem Pl.len (h : Pl W w n b j most hs l v) : l.length = hs.length := h.rel.len h.nd
theorem Pl.pl (h : Pl W w n b j most hs l v) : ∀ m ∈ l, m.f4.length ≤ 100 := fun m hm => by
  obtain ⟨x, hx, rfl⟩ := h.rel.back m hm
  have := h.rs.plen _ (get_mem2 hx)
  show (x.ps.map toP).length ≤ 100
  rw [List.length_map]; exact this
theorem Pl.tl (h : Pl W w n b j most hs l v) : ∀ m ∈ l, m.f5.size ≤ 30 := fun m hm => by
  obtain ⟨x, hx, hxm⟩ := h.rel.back m hm
  have := h.ks _ (get_mem2 hx)
  exact this
end
end R12
abbrev ShAct12 : Sh := .struct (.cons (.int .i64) (.cons ShMsg (.cons .str (.cons (.int .i64) .nil))))
theorem slice_act12 {w : World} {z : Sh.T (.slice ShAct12)} {a : Option Addr} {len cap : Nat} (r : Sh.Rd w (.slice ShAct12) z [.slice a len cap]) (hl : 0 < len) :
    ∃ b off, a = some ⟨b, off, none⟩ ∧ b < w.heap.size ∧ ∀ i, i < len → ∃ (kd : Int) (fr : ByteArray) (at_ q : Int) (rt : Bool) (A : Option Addr) (c : Nat) (ps : List SP) (tp pl ff : ByteArray) (nw : Int),
      (w.cell? ⟨b, off + i * 10, none⟩ = some (.int .i64 kd) ∧ w.cell? ⟨b, off + i * 10 + 1, none⟩ = some (.string fr) ∧ w.cell? ⟨b, off + i * 10 + 2, none⟩ = some (.int .i64 at_) ∧ w.cell? ⟨b, off + i * 10 + 3, none⟩ = some (.int .u8 q) ∧ w.cell? ⟨b, off + i * 10 + 4, none⟩ = some (.bool rt) ∧ w.cell? ⟨b, off + i * 10 + 5, none⟩ = some (.slice A ps.length c) ∧ w.cell? ⟨b, off + i * 10 + 6, none⟩ = some (.string tp) ∧ w.cell? ⟨b, off + i * 10 + 7, none⟩ = some (.string pl) ∧ w.cell? ⟨b, off + i * 10 + 8, none⟩ = some (.string ff) ∧ w.cell? ⟨b, off + i * 10 + 9, none⟩ = some (.int .i64 nw)) ∧
      ps.length ≤ c ∧ kPr.C w A ps.length ps := by
  obtain ⟨rfl, _⟩ := Sh.slice_len r
  obtain ⟨b, off, ha, h⟩ := Sh.slice_at r hl
  have H : ∀ i, i < List.length z → ∃ (kd : Int) (fr : ByteArray) (at_ q : Int) (rt : Bool) (A : Option Addr) (c : Nat) (ps : List SP) (tp pl ff : ByteArray) (nw : Int),
      (w.cell? ⟨b, off + i * 10, none⟩ = some (.int .i64 kd) ∧ w.cell? ⟨b, off + i * 10 + 1, none⟩ = some (.string fr) ∧ w.cell? ⟨b, off + i * 10 + 2, none⟩ = some (.int .i64 at_) ∧ w.cell? ⟨b, off + i * 10 + 3, none⟩ = some (.int .u8 q) ∧ w.cell? ⟨b, off + i * 10 + 4, none⟩ = some (.bool rt) ∧ w.cell? ⟨b, off + i * 10 + 5, none⟩ = some (.slice A ps.length c) ∧ w.cell? ⟨b, off + i * 10 + 6, none⟩ = some (.string tp) ∧ w.cell? ⟨b, off + i * 10 + 7, none⟩ = some (.string pl) ∧ w.cell? ⟨b, off + i * 10 + 8, none⟩ = some (.string ff) ∧ w.cell? ⟨b, off + i * 10 + 9, none⟩ = some (.int .i64 nw)) ∧
      ps.length ≤ c ∧ kPr.C w A ps.length ps := by
    intro i hi
    obtain ⟨cs, k1, k2, c1, d1, rfl, _, ⟨rfl, w1⟩, c2, d2, rfl, _, hm, c3, d3, rfl, _, ⟨rfl, w3⟩, c4, d4, rfl, _, ⟨rfl, w4⟩, rfl⟩ := h i _ (List.getElem?_eq_getElem hi)
    obtain ⟨fr, at_, q, rt, A, c, ps, tp, pl, rfl, hc, hC, _, _⟩ := msg_in hm
    simp only [Sh.size] at k2
    have k4 := fun j (hj : j < 10) => k2 j (by omega)
    rw [show i * (1 + (1 + (1 + (1 + (1 + (1 + (1 + (1 + 0)))))) + (1 + (1 + 0)))) = i * 10 by omega] at k4
    exact ⟨_, fr, at_, q, rt, A, c, ps, tp, pl, _, _, ⟨k4 0 (by omega), k4 1 (by omega), k4 2 (by omega), k4 3 (by omega), k4 4 (by omega), k4 5 (by omega), k4 6 (by omega), k4 7 (by omega), k4 8 (by omega), k4 9 (by omega)⟩, hc, hC⟩
  obtain ⟨_, _, _, _, _, _, _, _, _, _, _, _, ⟨h0, _⟩, _⟩ := H 0 hl
  exact ⟨b, off, ha, World.block_lt_of_cell? _ _ h0, H⟩
end Go.Proofs.YtbgondiibnjcgaaDoor
