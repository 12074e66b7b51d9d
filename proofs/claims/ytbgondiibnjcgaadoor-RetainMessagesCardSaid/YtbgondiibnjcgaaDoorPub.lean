import Derived.Test.YtbgondiibnjcgaaDoorNest
import Derived.Deep.RegionHeld3
import Derived.Deep.DeepFit
import Derived.Outline
import Derived.Carry
namespace Go.Proofs.YtbgondiibnjcgaaDoor
open Go.RowKit Go.Shelf Go.Proofs.YtbgondiibnjcgaaDoor.PRetainPlays Go.Proofs.YtbgondiibnjcgaaDoorW.PrintWords Go.Proofs.YtbgondiibnjcgaaDoorW.PrintLast
set_option maxRecDepth 100000
set_option linter.unusedVariables false
set_option maxHeartbeats 4000000
attribute [local go_sem] Go.Proofs.YtbgondiibnjcgaaDoorW.PrintMore.min2_int Go.Proofs.YtbgondiibnjcgaaDoorW.PrintMore.max2_int
abbrev PbT : Nat := 48
def encP (x : SP) : List Value := [.int .i64 x.f0, .int .u32 x.f1, .string x.f2, .string x.f3]
theorem flatP : Flat kPr encP where
  len _ := rfl
  M := by
    intro w base ok x cs
    constructor
    · intro h; exact k30_openM h
    · rintro rfl; exact k30_mkM _ _ _ _
theorem flat_set {α : Type} {enc : α → List Value} {k : Nat} (hk : ∀ x, (enc x).length = k) (y : α) (t : Nat) (u : Value) (ht : t < k) : ∀ (xs : List α) (j : Nat) (hj : j < xs.length), (enc xs[j]).set t u = enc y → (xs.flatMap enc).set (j * k + t) u = (xs.set j y).flatMap enc := by
  intro xs
  induction xs with
  | nil => intro j hj; simp at hj
  | cons x xs ih =>
    intro j hj h
    cases j with
    | zero =>
      simp only [List.getElem_cons_zero] at h
      simp only [List.set_cons_zero, List.flatMap_cons, Nat.zero_mul, Nat.zero_add]
      rw [List.set_append_left _ _ (by rw [hk]; exact ht), h]
    | succ j =>
      simp only [List.getElem_cons_succ] at h
      simp only [List.set_cons_succ, List.flatMap_cons]
      rw [List.set_append_right _ _ (by rw [hk, Nat.succ_mul]; omega), hk]
      rw [show (j + 1) * k + t - k = j * k + t by rw [Nat.succ_mul]; omega, ih j (by simpa using hj) h]
theorem Own.putN {w : World} {base : Nat} {l : List SP} {g cap : Nat} (h : Own kPr PrT base w (.slice (some ⟨g, 0, none⟩) l.length cap) l) {j : Nat} (hj : j < l.length) (u : Int) :
    Own kPr PrT base (w.setCell ⟨g, j * 4 + 1, none⟩ (.int .u32 u)) (.slice (some ⟨g, 0, none⟩) l.length cap) (l.set j { l[j] with f1 := u }) := by
  have h1 := (Own.flat flatP h).stored (j * 4 + 1) (.int .u32 u)
  refine Own.of_flat flatP ?_
  have h2 := flat_set (enc := encP) (k := 4) (fun _ => rfl) { l[j] with f1 := u } 1 (.int .u32 u) (by omega) l j hj rfl
  rw [h2] at h1
  rw [List.length_set]
  exact h1.1
theorem own_pr_at {base : Nat} {w : World} {v : Value} {l : List SP} (h : Own kPr PrT base w v l) {j : Nat} (hj : j < l.length) :
    ∃ g cap, v = .slice (some ⟨g, 0, none⟩) l.length cap ∧ base ≤ g ∧ g < w.heap.size ∧ w.cell? ⟨g, j * 4, none⟩ = some (.int .i64 l[j].f0) ∧ w.cell? ⟨g, j * 4 + 1, none⟩ = some (.int .u32 l[j].f1) ∧ w.cell? ⟨g, j * 4 + 2, none⟩ = some (.string l[j].f2) ∧ w.cell? ⟨g, j * 4 + 3, none⟩ = some (.string l[j].f3) ∧ ∀ o, w.frozen? ⟨g, o, none⟩ = false := by
  obtain ⟨g, cap, hv, hb, hg⟩ := h.form (by omega)
  obtain ⟨A, c, hv', _, hC⟩ := h.reads
  have hfz := (Own.flat flatP h)
  rw [hv] at hv' hfz
  cases hv'
  obtain ⟨ad, e, x0, x1, x2, x3⟩ := at_T30 hC (j : Int) (by omega) (by omega)
  cases e
  rw [rdP_at l j hj, show ((j : Int)).toNat = j by omega] at x0 x1 x2 x3
  have ea : (⟨g, 0, none⟩ : Addr).add (j * 4) = ⟨g, j * 4, none⟩ := by rw [add_plain]
  rw [ea] at x0 x1 x2 x3
  refine ⟨g, _, hv, hb, hg, x0, x1, x2, x3, fun o => ?_⟩
  rcases hfz.2 with ⟨h', _⟩ | ⟨g', cap', cur, h', _, hh, _⟩
  · cases h'
  · have : g = g' := by injection h' with h'; injection h' with h'; injection h' with h'
    subst this
    simp [World.frozen?, hh]
def updP (n : Int) (p : SP) : SP := if p.f0 = 2 then { p with f1 := n } else p
def clampU (n : Int) : Int := max 0 (min n 4294967295)
def pubPs (at_ : Int) (ps : List SP) (now : Int) : List SP := ps.map (updP (clampU (leftV at_ ps now).1))
theorem leftV_none {at_ : Int} {ps : List SP} {now l : Int} (h : leftV at_ ps now = (l, false)) : ∀ p ∈ ps, p.f0 ≠ 2 := by
  intro p hp e
  unfold leftV at h
  cases hf : ps.find? (fun p => decide (p.f0 = 2)) with
  | some x => rw [hf] at h; simp at h
  | none => rw [List.find?_eq_none] at hf; exact hf p hp (by simpa using e)
theorem pubPs_none {at_ : Int} {ps : List SP} {now : Int} (h : ∀ p ∈ ps, p.f0 ≠ 2) : pubPs at_ ps now = ps := by
  unfold pubPs
  conv => rhs; rw [← List.map_id ps]
  refine List.map_congr_left fun p hp => ?_
  unfold updP; rw [if_neg (h p hp)]; rfl
theorem pubL_step (f : SP → SP) (ps : List SP) (j : Nat) (h : j < ps.length) :
    ((ps.take j).map f ++ ps.drop j).set j (f ps[j]) = (ps.take (j + 1)).map f ++ ps.drop (j + 1) ∧ (f ps[j] = ps[j] → (ps.take j).map f ++ ps.drop j = (ps.take (j + 1)).map f ++ ps.drop (j + 1)) := by
  have h1 : (ps.take (j + 1)).map f = (ps.take j).map f ++ [f ps[j]] := by rw [List.take_succ_eq_append_getElem h, List.map_append]; rfl
  have h2 : ps.drop j = ps[j] :: ps.drop (j + 1) := List.drop_eq_getElem_cons h
  have h3 : ((ps.take j).map f).length = j := by simp; omega
  constructor
  · rw [List.set_append_right _ _ (by rw [h3]; exact Nat.le_refl _), h3, Nat.sub_self, h2, List.set_cons_zero, h1, List.append_assoc]; rfl
  · intro e
    rw [h1, e, h2, List.append_assoc]; rfl
theorem pubL_at (f : SP → SP) (ps : List SP) (j : Nat) (h : j < ps.length) (L : List SP) (hL : (ps.take j).map f ++ ps.drop j = L) : ∃ hq : j < L.length, L[j]'(hq) = ps[j] ∧ L.length = ps.length := by
  subst hL
  refine ⟨by simp; omega, ?_, by simp; omega⟩
  rw [List.getElem_append_right (by simp; omega)]
  simp [Nat.min_eq_left (Nat.le_of_lt h)]
theorem slice_inj {A B : Option Addr} {n m c d : Nat} (h : Value.slice A n c = .slice B m d) : A = B ∧ c = d := by injection h with h1 _ h3; exact ⟨h1, h3⟩
def pubRel (w : World) (B R : Nat) (cs : Array Value) (v : Value) (ps : List SP) (n : Int) (i : Value) (wr : World) : Prop :=
  ∃ j : Nat, i = .int .i64 j ∧ j ≤ ps.length ∧ Own kPr PrT w.heap.size wr v ((ps.take j).map (updP n) ++ ps.drop j) ∧ Blk wr B cs PbT ∧ Blk wr R #[.bool false, .bool false, .int .u8 0, .int .u32 0, .slice none 0 0, .string ⟨#[]⟩, .string ⟨#[]⟩] PbT ∧ Keep [] w wr
theorem mpub {w : World} {base : Nat} {v : Value} {ps : List SP} (h : Own kPr PrT base w v ps) (hl : ps.length ≤ 100) (fr tp pl : ByteArray) (at_ q : Int) (rt : Bool) (now : Int) :
    Calls Tryd.prog 19 #[.agg #[.string fr, .int .i64 at_, .int .u8 q, .bool rt, v, .string tp, .string pl], .int .i64 now] w (Px fun (v' : Value) e w' => e = .returned (.agg #[.bool false, .bool rt, .int .u8 q, .int .u32 0, v', .string tp, .string pl]) ∧ Own kPr PrT w.heap.size w' v' (pubPs at_ ps now) ∧ Keep [] w w') := by
  obtain ⟨A, c, rfl⟩ := h.slice
  have hX := Blk.new w #[.string fr, .int .i64 at_, .int .u8 q, .bool rt, .slice A ps.length c, .string tp, .string pl] MsT
  have hkX := (Keep.refl [] w).alloc (.cells #[.string fr, .int .i64 at_, .int .u8 q, .bool rt, .slice A ps.length c, .string tp, .string pl] MsT)
  obtain ⟨wx, hwx⟩ : ∃ wx, w.alloc (.cells #[.string fr, .int .i64 at_, .int .u8 q, .bool rt, .slice A ps.length c, .string tp, .string pl] MsT) = wx := ⟨_, rfl⟩
  rw [hwx] at hX hkX
  have hR := Blk.new wx #[.bool false, .bool false, .int .u8 0, .int .u32 0, .slice none 0 0, .string ⟨#[]⟩, .string ⟨#[]⟩] PbT
  have hkR := (Keep.refl [] wx).alloc (.cells #[.bool false, .bool false, .int .u8 0, .int .u32 0, .slice none 0 0, .string ⟨#[]⟩, .string ⟨#[]⟩] PbT)
  obtain ⟨w0, hw0⟩ : ∃ w0, wx.alloc (.cells #[.bool false, .bool false, .int .u8 0, .int .u32 0, .slice none 0 0, .string ⟨#[]⟩, .string ⟨#[]⟩] PbT) = w0 := ⟨_, rfl⟩
  rw [hw0] at hR hkR
  have hX0 := hX.keep hkR (by simp)
  have hO0 := h.keep (hkX.then hkR) (by simp)
  have hsx : wx.heap.size = w.heap.size + 1 := by rw [← hwx]; simp
  have HS := hide (fun (w' : World) (hk : Keep [] w0 w') => show w'.cell? ⟨w.heap.size, 2, none⟩ = some (.int .u8 q) ∧ w'.cell? ⟨w.heap.size, 3, none⟩ = some (.bool rt) ∧ w'.cell? ⟨w.heap.size, 4, none⟩ = some (.slice A ps.length c) ∧ w'.cell? ⟨w.heap.size, 5, none⟩ = some (.string tp) ∧ w'.cell? ⟨w.heap.size, 6, none⟩ = some (.string pl) from by
    have hx := hX0.keep hk (by simp)
    exact ⟨hx.cell 2, hx.cell 3, hx.cell 4, hx.cell 5, hx.cell 6⟩)
  have HC := hide (fun (w' : World) (hk : Keep [] w0 w') => clonePr (hO0.keep hk (by simp)) (by omega))
  have HO0 := hide hO0
  have HX0 := hide hX0
  have HR0 := hide hR
  have HK0 := hide (hkX.then hkR)
  have HL := hide hl
  have HSX := hide hsx
  clear hX hkX hR hkR hX0 hO0 h hl hsx
  go_enter Tryd.func19, Tryd.ntmps19
  go_wp2_with fail
  clear hwx hw0
  go_region_held3 (fun w' => w'.cell? ⟨w.heap.size, 2, none⟩ = some (.int .u8 q) ∧ w'.cell? ⟨w.heap.size, 3, none⟩ = some (.bool rt) ∧ w'.cell? ⟨w.heap.size, 4, none⟩ = some (.slice A ps.length c) ∧ w'.cell? ⟨w.heap.size, 5, none⟩ = some (.string tp) ∧ w'.cell? ⟨w.heap.size, 6, none⟩ = some (.string pl))
    ((refine HS.out _ ?_; repeat' (first | with_reducible exact hkm | with_reducible exact Keep.refl _ _ | with_reducible refine Keep.drew ?_ | with_reducible refine Keep.alloc ?_ _ | with_reducible refine Keep.setCell ?_ ?_ _ | exact fun h => absurd h (by simp) | exact fun h => absurd h (by simp; omega))))
    (first
      | (go_at_call 38; (with_reducible refine (HC.out _ ((Keep.refl [] w0).drew)).mono ?_); rintro e wm ⟨v, rfl, hov, hkm0⟩; obtain ⟨A2, c2, rfl⟩ := hov.slice; have hsm := hkm0.size; simp at hsm; have hkm : Keep [] w0 wm := (Keep.refl [] w0).drew.then hkm0)
      | (go_at_call 38; (with_reducible refine (HC.out _ ((Keep.refl [] w0).alloc _).drew).mono ?_); rintro e wm ⟨v, rfl, hov, hkm0⟩; obtain ⟨A2, c2, rfl⟩ := hov.slice; have hsm := hkm0.size; simp at hsm; have hkm : Keep [] w0 wm := ((Keep.refl [] w0).alloc _).drew.then hkm0; have hB := (Blk.new w0 #[.bool false, .bool false, .int .u8 0, .int .u32 0, .slice none 0 0, .string ⟨#[]⟩, .string ⟨#[]⟩] PbT).drew.keep hkm0 (by simp); have b0 := hB.cell 0; have b1 := hB.cell 1; have b2 := hB.cell 2; have b3 := hB.cell 3; have b4 := hB.cell 4; have b5 := hB.cell 5; have b6 := hB.cell 6; have f0 := hB.frozen 0 (by simp); have f1 := hB.frozen 1 (by simp); have f2 := hB.frozen 2 (by simp); have f3 := hB.frozen 3 (by simp); have f4 := hB.frozen 4 (by simp); have f5 := hB.frozen 5 (by simp); have f6 := hB.frozen 6 (by simp); simp at b0 b1 b2 b3 b4 b5 b6 f0 f1 f2 f3 f4 f5 f6; have HBB := hide hB; clear hB))
  all_goals
    first
      | (have hBq := Blk.new wm #[.bool false, .bool rt, .int .u8 q, .int .u32 0, .slice A2 ps.length c2, .string tp, .string pl] PbT
         have hkq : Keep [] w0 (wm.alloc (.cells #[.bool false, .bool rt, .int .u8 q, .int .u32 0, .slice A2 ps.length c2, .string tp, .string pl] PbT)) := hkm.alloc _
         have hoq := Own.lower (base' := w.heap.size) (hov.keep ((Keep.refl [] wm).alloc (.cells #[.bool false, .bool rt, .int .u8 q, .int .u32 0, .slice A2 ps.length c2, .string tp, .string pl] PbT)) (by simp)) (by have := HK0.out.size; have : w0.drew.heap.size = w0.heap.size := rfl; omega)
         have hBlo : w0.heap.size ≤ wm.heap.size := hkm.size
         obtain ⟨wq, hwq⟩ : ∃ wq, wm.alloc (.cells #[.bool false, .bool rt, .int .u8 q, .int .u32 0, .slice A2 ps.length c2, .string tp, .string pl] PbT) = wq := ⟨_, rfl⟩
         rw [hwq] at hBq hkq hoq ⊢
         obtain ⟨B, hB⟩ : ∃ B, wm.heap.size = B := ⟨_, rfl⟩
         rw [hB] at hBq hBlo ⊢
         clear hwq hB hov hkm hkm0 hsm)
      | (have hBq := ((((((HBB.out.set 0 (.bool false)).set 1 (.bool rt)).set 2 (.int .u8 q)).set 3 (.int .u32 0)).set 4 (.slice A2 ps.length c2)).set 5 (.string tp)).set 6 (.string pl)
         have hk7 : Keep [w0.heap.size] wm (((((((wm.setCell ⟨w0.heap.size, 0, none⟩ (.bool false)).setCell ⟨w0.heap.size, 1, none⟩ (.bool rt)).setCell ⟨w0.heap.size, 2, none⟩ (.int .u8 q)).setCell ⟨w0.heap.size, 3, none⟩ (.int .u32 0)).setCell ⟨w0.heap.size, 4, none⟩ (.slice A2 ps.length c2)).setCell ⟨w0.heap.size, 5, none⟩ (.string tp)).setCell ⟨w0.heap.size, 6, none⟩ (.string pl)) := by
           repeat' (first | with_reducible exact Keep.refl _ _ | with_reducible refine Keep.setCell ?_ ?_ _ | exact fun _ => by simp)
         have hkq := hkm.trans (S := []) hk7 (by simp) (fun x hx hlt => by simp at hx; omega)
         have hz8 := HK0.out.size
         have hoq := Own.lower (base' := w.heap.size) (hov.keep hk7 (by intro k hk; simp at hk; subst hk; exact not_of_blk HBB.out (by decide))) (by refine Nat.le_trans hz8 ?_; show w0.heap.size ≤ (w0.heap.push _).size; simp)
         obtain ⟨wq, hwq⟩ : ∃ wq, (((((((wm.setCell ⟨w0.heap.size, 0, none⟩ (.bool false)).setCell ⟨w0.heap.size, 1, none⟩ (.bool rt)).setCell ⟨w0.heap.size, 2, none⟩ (.int .u8 q)).setCell ⟨w0.heap.size, 3, none⟩ (.int .u32 0)).setCell ⟨w0.heap.size, 4, none⟩ (.slice A2 ps.length c2)).setCell ⟨w0.heap.size, 5, none⟩ (.string tp)).setCell ⟨w0.heap.size, 6, none⟩ (.string pl)) = wq := ⟨_, rfl⟩
         rw [hwq] at hBq hkq hoq ⊢
         obtain ⟨B, hB⟩ : ∃ B, w0.heap.size = B := ⟨_, rfl⟩
         rw [hB] at hBq ⊢
         have hBlo : w0.heap.size ≤ B := by omega
         clear hz8 hwq hB hov hkm hkm0 hsm hk7 b0 b1 b2 b3 b4 b5 b6 f0 f1 f2 f3 f4 f5 f6 HBB)
  all_goals
    try simp at hBq
    have hXq := HX0.out.keep hkq (by simp)
    have hRq := HR0.out.keep hkq (by simp)
    have hLf := mleft (hoq) (by have := HL.out; omega) fr tp pl at_ q rt now
    have hLfq := hide (fun (w' : World) (hk : Keep [] w0 w') => mleft (HO0.out.keep hk (by simp)) (by have := HL.out; omega) fr tp pl at_ q rt now)
    obtain ⟨⟨lv, lb⟩, hlv⟩ : ∃ x, leftV at_ ps now = x := ⟨_, rfl⟩
    rw [hlv] at hLfq
    have x0 := hXq.cell 0
    have x1 := hXq.cell 1
    have x2 := hXq.cell 2
    have x3 := hXq.cell 3
    have x4 := hXq.cell 4
    have x5 := hXq.cell 5
    have x6 := hXq.cell 6
    simp at x0 x1 x2 x3 x4 x5 x6
    have HBQ := hide hBq
    have HKQ := hide hkq
    have HOQ := hide hoq
    have HRQ := hide hRq
    have HLV := hide hlv
    have HBL := hide hBlo
    clear hBq hkq hoq hRq hXq hlv hLf hBlo
    go_wp2_with fail
    refine (hLfq.out _ HKQ.out).mono ?_
    rintro e wl ⟨rfl, hkl⟩
    have hBl := HBQ.out.keep hkl (by simp)
    have hRl := HRQ.out.keep hkl (by simp)
    have hOl := HOQ.out.keep hkl (by simp)
    have hKl : Keep [] w wl := (HK0.out.then HKQ.out).then hkl
    clear x0 x1 x2 x3 x4 x5 x6 hkl
    cases lb
    · have hNo := leftV_none HLV.out
      have hpe : pubPs at_ ps now = ps := pubPs_none hNo
      have hBZ := hBl
      have hRZ := hRl
      have hKZ := hKl
      have hOZ : Own kPr PrT w.heap.size wl (.slice A2 ps.length c2) (pubPs at_ ps now) := by rw [hpe]; exact hOl
      obtain ⟨WZ, hWZ⟩ : ∃ W, wl = W := ⟨_, rfl⟩
      rw [hWZ] at hBZ hRZ hKZ hOZ ⊢
      clear hNo hpe hBl hRl hOl hKl
      subst hWZ
      obtain ⟨WZ, hWZ⟩ : ∃ W, wl = W := ⟨_, rfl⟩
      rw [hWZ] at hBZ hRZ hKZ hOZ ⊢
      clear hWZ
      have z0 := hBZ.cell 0
      have z1 := hBZ.cell 1
      have z2 := hBZ.cell 2
      have z3 := hBZ.cell 3
      have z4 := hBZ.cell 4
      have z5 := hBZ.cell 5
      have z6 := hBZ.cell 6
      have r0 := hRZ.cell 0
      have r1 := hRZ.cell 1
      have r2 := hRZ.cell 2
      have r3 := hRZ.cell 3
      have r4 := hRZ.cell 4
      have r5 := hRZ.cell 5
      have r6 := hRZ.cell 6
      have f0 := hRZ.frozen 0 (by simp)
      have f1 := hRZ.frozen 1 (by simp)
      have f2 := hRZ.frozen 2 (by simp)
      have f3 := hRZ.frozen 3 (by simp)
      have f4 := hRZ.frozen 4 (by simp)
      have f5 := hRZ.frozen 5 (by simp)
      have f6 := hRZ.frozen 6 (by simp)
      simp at z0 z1 z2 z3 z4 z5 z6 r0 r1 r2 r3 r4 r5 r6 f0 f1 f2 f3 f4 f5 f6
      have HRZ := hide hRZ
      have HOZ := hide hOZ
      have HKZ := hide hKZ
      clear hRZ hOZ hKZ hBZ
      go_wp2_with fail
      have hR7 := ((((((HRZ.out.set 0 (.bool false)).set 1 (.bool rt)).set 2 (.int .u8 q)).set 3 (.int .u32 0)).set 4 (.slice A2 ps.length c2)).set 5 (.string tp)).set 6 (.string pl)
      have hk7 : Keep [wx.heap.size] WZ (((((((WZ.setCell ⟨wx.heap.size, 0, none⟩ (.bool false)).setCell ⟨wx.heap.size, 1, none⟩ (.bool rt)).setCell ⟨wx.heap.size, 2, none⟩ (.int .u8 q)).setCell ⟨wx.heap.size, 3, none⟩ (.int .u32 0)).setCell ⟨wx.heap.size, 4, none⟩ (.slice A2 ps.length c2)).setCell ⟨wx.heap.size, 5, none⟩ (.string tp)).setCell ⟨wx.heap.size, 6, none⟩ (.string pl)) := by
        repeat' (first | with_reducible exact Keep.refl _ _ | with_reducible refine Keep.setCell ?_ ?_ _ | exact fun _ => by simp)
      have e0 := hR7.cell 0
      have e1 := hR7.cell 1
      have e2 := hR7.cell 2
      have e3 := hR7.cell 3
      have e4 := hR7.cell 4
      have e5 := hR7.cell 5
      have e6 := hR7.cell 6
      simp at e0 e1 e2 e3 e4 e5 e6
      refine bodyPost_ret (v := .agg #[.bool false, .bool rt, .int .u8 q, .int .u32 0, .slice A2 ps.length c2, .string tp, .string pl]) ?_ ?_ ?_
      · simp [results, Tryd.results19, go_sem, e0, e1, e2, e3, e4, e5, e6]
      · rfl
      · have hsx := HSX.out
        exact ⟨_, rfl, HOZ.out.keep hk7 (by intro k hk; simp at hk; subst hk; exact not_of_blk HRZ.out (by decide)), HKZ.out.trans hk7 (by simp) (fun x hx hlt => by simp at hx; omega)⟩
    · have hcu : clampU (leftV at_ ps now).1 = clampU lv := by rw [HLV.out]
      have hpb : pubPs at_ ps now = ps.map (updP (clampU lv)) := by unfold pubPs; rw [hcu]
      have HPB := hide hpb
      obtain ⟨pl', hpl'⟩ : ∃ n, ps.length = n := ⟨_, rfl⟩
      have HPLen := hide hpl'
      have hl100 : pl' ≤ 100 := by have := HL.out; omega
      have hB4 := hBl.cell 4
      simp at hB4
      rw [hpl'] at hB4
      have HBl := hide hBl
      have HRl := hide hRl
      have HOl := hide hOl
      have HKl := hide hKl
      rw [hpl']
      clear hcu hpb hpl' hBl hRl hOl hKl
      go_wp2_with fail
      go_loopw [31] (fun i wr => pubRel w B wx.heap.size #[.bool false, .bool rt, .int .u8 q, .int .u32 0, .slice A2 ps.length c2, .string tp, .string pl] (.slice A2 ps.length c2) ps (clampU lv) i wr) (fun i _ => pl' - (intOf i).toNat)
      case atStart => exact ⟨0, rfl, by omega, by simpa using HOl.out, HBl.out, HRl.out, HKl.out⟩
      case round =>
        obtain ⟨j, rfl, hj, hO, hBr, hRr, hK⟩ := hrel
        have hB4 := hBr.cell 4
        simp at hB4
        rw [HPLen.out] at hB4 hj
        by_cases hlt : j < pl'
        · have hjp : j < ps.length := by rw [HPLen.out]; exact hlt
          have hst := pubL_step (updP (clampU lv)) ps j hjp
          obtain ⟨L, hL⟩ : ∃ L, (ps.take j).map (updP (clampU lv)) ++ ps.drop j = L := ⟨_, rfl⟩
          obtain ⟨hLj0, hLj, hLl⟩ := pubL_at (updP (clampU lv)) ps j hjp L hL
          rw [hL] at hO hst
          clear hL
          obtain ⟨g, cap, hv, hgb, hg, x0, x1, x2, x3, hfz⟩ := own_pr_at hO hLj0
          rw [hLj] at x0 x1 x2 x3
          rw [hLl] at hv
          obtain ⟨hA2, hc2⟩ := slice_inj hv
          subst hA2 hc2
          clear hv
          have hfj := hfz (j * 4 + 1)
          have hne : B ≠ g := by
            rintro rfl
            obtain ⟨cells, hc⟩ := hO.typ_of (k := B) rfl
            obtain ⟨lo, hi, hb, _⟩ := hBr
            rw [hb] at hc; cases hc
          have hneR : wx.heap.size ≠ g := by
            rintro e1
            obtain ⟨cells, hc⟩ := hO.typ_of (k := g) rfl
            obtain ⟨lo, hi, hb, _⟩ := hRr
            rw [e1, hc] at hb; cases hb
          have hput := Own.putN (by rw [hLl]; exact hO) hLj0 (clampU lv)
          rw [hLj] at hput
          obtain ⟨⟨a0, a1, a2, a3⟩, hx⟩ : ∃ x, ps[j] = x := ⟨_, rfl⟩
          rw [hx] at x0 x1 x2 x3 hst hput
          simp only at x0 x1 x2 x3
          have HST := hide hst
          have HPUT := hide hput
          have HO := hide hO
          have HK := hide hK
          have HBR := hide hBr
          have HRR := hide hRr
          have HLL := hide hLl
          have HJ := hide hlt
          have hlt3 : (j : Int) < (pl' : Int) := by omega
          clear hst hput hO hK hBr hRr hLl hLj hx hfz hlt hjp
          by_cases h2 : a0 = 2
          · have e2 : (a0 == 2) = true := by simpa using h2
            have hup : updP (clampU lv) ⟨a0, a1, a2, a3⟩ = ⟨a0, clampU lv, a2, a3⟩ := by unfold updP; rw [if_pos h2]
            have hse := HST.out.1
            rw [hup] at hse
            have HSE := hide hse
            have hput2 := HPUT.out
            simp only at hput2
            rw [HSE.out, HLL.out] at hput2
            have HP2 := hide hput2
            clear hup hse h2 hput2
            go_wp2_with fail
            refine ⟨⟨j + 1, by simp, by have := HJ.out; have := HPLen.out; omega, HP2.out, HBR.out.other hne _, HRR.out.other hneR _, HK.out.setCell (fun h => absurd h (by simp; omega)) _⟩, by have := HJ.out; simp [intOf]; omega⟩
          · have e2 : (a0 == 2) = false := by simpa using h2
            have hid : updP (clampU lv) ⟨a0, a1, a2, a3⟩ = ⟨a0, a1, a2, a3⟩ := by unfold updP; rw [if_neg h2]
            have hsk := HST.out.2 hid
            have HSK := hide hsk
            clear hid hsk h2
            go_wp2_with fail
            go_roundw
            case rel => exact ⟨j + 1, by simp, by have := HJ.out; have := HPLen.out; omega, by rw [← HSK.out]; exact HO.out, HBR.out, HRR.out, HK.out⟩
            case measure => have := HJ.out; simp [intOf]; omega
        · obtain rfl : j = pl' := by omega
          have hjl := HPLen.out
          have hOZ : Own kPr PrT w.heap.size wr (.slice A2 ps.length c2) (pubPs at_ ps now) := by
            rw [HPB.out]
            rw [List.take_of_length_le (by omega), List.drop_of_length_le (by omega), List.append_nil] at hO
            exact hO
          have hBZ := hBr
          have hRZ := hRr
          have hKZ := hK
          obtain ⟨WZ, hWZ⟩ : ∃ W, wr = W := ⟨_, rfl⟩
          rw [hWZ] at hBZ hRZ hKZ hOZ ⊢
          clear hO hBr hRr hK hB4
          clear hWZ hjl
          rw [HPLen.out] at hBZ hOZ
          have z0 := hBZ.cell 0
          have z1 := hBZ.cell 1
          have z2 := hBZ.cell 2
          have z3 := hBZ.cell 3
          have z4 := hBZ.cell 4
          have z5 := hBZ.cell 5
          have z6 := hBZ.cell 6
          have r0 := hRZ.cell 0
          have r1 := hRZ.cell 1
          have r2 := hRZ.cell 2
          have r3 := hRZ.cell 3
          have r4 := hRZ.cell 4
          have r5 := hRZ.cell 5
          have r6 := hRZ.cell 6
          have f0 := hRZ.frozen 0 (by simp)
          have f1 := hRZ.frozen 1 (by simp)
          have f2 := hRZ.frozen 2 (by simp)
          have f3 := hRZ.frozen 3 (by simp)
          have f4 := hRZ.frozen 4 (by simp)
          have f5 := hRZ.frozen 5 (by simp)
          have f6 := hRZ.frozen 6 (by simp)
          simp at z0 z1 z2 z3 z4 z5 z6 r0 r1 r2 r3 r4 r5 r6 f0 f1 f2 f3 f4 f5 f6
          have HRZ := hide hRZ
          have HOZ := hide hOZ
          have HKZ := hide hKZ
          clear hRZ hOZ hKZ hBZ
          go_wp2_with fail
          have hR7 := ((((((HRZ.out.set 0 (.bool false)).set 1 (.bool rt)).set 2 (.int .u8 q)).set 3 (.int .u32 0)).set 4 (.slice A2 j c2)).set 5 (.string tp)).set 6 (.string pl)
          have hk7 : Keep [wx.heap.size] WZ (((((((WZ.setCell ⟨wx.heap.size, 0, none⟩ (.bool false)).setCell ⟨wx.heap.size, 1, none⟩ (.bool rt)).setCell ⟨wx.heap.size, 2, none⟩ (.int .u8 q)).setCell ⟨wx.heap.size, 3, none⟩ (.int .u32 0)).setCell ⟨wx.heap.size, 4, none⟩ (.slice A2 j c2)).setCell ⟨wx.heap.size, 5, none⟩ (.string tp)).setCell ⟨wx.heap.size, 6, none⟩ (.string pl)) := by
            repeat' (first | with_reducible exact Keep.refl _ _ | with_reducible refine Keep.setCell ?_ ?_ _ | exact fun _ => by simp)
          have e0 := hR7.cell 0
          have e1 := hR7.cell 1
          have e2 := hR7.cell 2
          have e3 := hR7.cell 3
          have e4 := hR7.cell 4
          have e5 := hR7.cell 5
          have e6 := hR7.cell 6
          simp at e0 e1 e2 e3 e4 e5 e6
          refine bodyPost_ret (v := .agg #[.bool false, .bool rt, .int .u8 q, .int .u32 0, .slice A2 j c2, .string tp, .string pl]) ?_ ?_ ?_
          · simp [results, Tryd.results19, go_sem, e0, e1, e2, e3, e4, e5, e6]
          · rfl
          · have hsx := HSX.out
            exact ⟨_, rfl, HOZ.out.keep hk7 (by intro k hk; simp at hk; subst hk; exact not_of_blk HRZ.out (by decide)), HKZ.out.trans hk7 (by simp) (fun x hx hlt => by simp at hx; omega)⟩
end Go.Proofs.YtbgondiibnjcgaaDoor
