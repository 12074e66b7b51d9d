import Derived.Test.YtjhhnidfmoejdaaDoorLk
namespace Go.Proofs.YtjhhnidfmoejdaaDoor
open Go.RowKit Go.Proofs.YtjhhnidfmoejdaaDoor.PLedgerPlays Go.Proofs.YtjhhnidfmoejdaaDoorW.PrintWords Go.Proofs.YtjhhnidfmoejdaaDoorW.PrintLast
set_option maxRecDepth 10000
set_option linter.unusedVariables false
set_option maxHeartbeats 2000000
structure Lg.Ok (S : Lg) (K : Nat) : Prop where
  er : S.er.length ≤ K
  dn : S.dn.length ≤ K
  times : ∀ k x, S.M k = some x → 0 ≤ x.f3 ∧ x.f3 ≤ K
theorem lSent {W w : World} {p : Pl} {S : Lg} (hT : Tab W) (h : Sd W w p S) {K : Nat} (hO : S.Ok K) (hK : K < 90000) (d rt : Bool) (q id : Int) (hi0 : 0 ≤ id) (hi1 : id ≤ 4294967295) (A : Option Addr) (n c : Nat) (tp pl : BA) :
    Calls Tryd.prog 15 #[ptrTo p.n, pubV d rt q id A n c tp pl] w (SdPost W w p (S.sent d q id tp pl)) := by
  have hE : S.er.length < 100000 := by have := hO.er; omega
  unfold Lg.sent
  by_cases hq : q = 2
  · subst hq
    rw [if_neg (by simp)]
    cases hl : AL.get p.l id with
    | none =>
      rw [h.op.none id hl]
      cases d
      · exact lSent_new h rt id A n c tp pl hl
      · exact lSent_never hT h rt id hi0 hi1 hE A n c tp pl hl
    | some qq =>
      obtain ⟨⟨xi, x1, x2, x3, x4, x5⟩, hM, _⟩ := h.op.at_ id qq hl
      have ht := hO.times id _ hM
      simp only at ht
      rw [hM]
      cases d
      · exact lSent_twice hT h rt id hi0 hi1 hE A n c tp pl qq xi x3 x1 x2 x4 x5 hl hM
      · simp only [Bool.true_eq_false, if_false]
        cases x4
        · simp only [Bool.false_eq_true, if_false]
          by_cases h1 : x1 = tp
          · subst h1
            by_cases h2 : x2 = pl
            · subst h2
              rw [if_neg (by simp)]
              exact lSent_again hT h rt id hi0 hi1 hE A n c x1 x2 qq xi x3 x5 hl hM (by omega)
            · rw [if_pos (.inr h2)]
              exact lSent_other2 hT h rt id hi0 hi1 hE A n c x1 pl qq xi x3 x2 x5 hl hM h2
          · rw [if_pos (.inl h1)]
            exact lSent_other1 hT h rt id hi0 hi1 hE A n c tp pl qq xi x3 x1 x2 x5 hl hM h1
        · exact lSent_when hT h rt id hi0 hi1 hE A n c tp pl qq xi x3 x1 x2 x5 hl hM
  · rw [if_pos hq]
    exact lSent_not h d rt q id A n c tp pl hq
theorem lHeard {W w : World} {p : Pl} {S : Lg} (h : Sd W w p S) {K : Nat} (hO : S.Ok K) (hK : K < 90000) (kind id code : Int) (hk : kind = 4 ∨ kind = 5 ∨ kind = 6 ∨ kind = 7) (A : Option Addr) (n c : Nat) :
    Calls Tryd.prog 17 #[ptrTo p.n, akV kind id code A n c] w (SdPost W w p (S.heard kind id code)) := by
  unfold Lg.heard
  by_cases h6 : kind = 6
  · subst h6
    rw [if_pos rfl]
    exact lHeard_rel h id code A n c
  · rw [if_neg h6]
    cases hl : AL.get p.l id with
    | none =>
      rw [h.op.none id hl]
      exact lHeard_none h id code A n c kind h6 hl
    | some qq =>
      obtain ⟨⟨xi, x1, x2, x3, x4, x5⟩, hM, _⟩ := h.op.at_ id qq hl
      rw [hM]
      rcases hk with rfl | rfl | rfl | rfl
      · simp only [show ¬ (4 : Int) = 5 by decide, show ¬ (4 : Int) = 7 by decide, if_false, false_and]
        exact lHeard_four h id code A n c qq xi x3 x1 x2 x4 x5 hl hM
      · simp only [if_true]
        by_cases hc : code < 128
        · rw [if_pos (.inl hc)]
          exact lHeard_good h id code A n c qq xi x3 x1 x2 x4 x5 hl hM hc
        · cases x4
          · rw [if_neg (by simp; omega)]
            exact lHeard_ref h id code A n c qq xi x3 x1 x2 x5 hl hM (by omega)
          · rw [if_pos (.inr rfl)]
            exact lHeard_came h id code A n c qq xi x3 x1 x2 x5 hl hM (by omega)
      · exact absurd rfl h6
      · cases x4
        · simp only [show ¬ (7 : Int) = 5 by decide, if_false, Bool.false_eq_true, and_false]
          exact lHeard_early h id code A n c qq xi x3 x1 x2 x5 hl hM
        · simp only [show ¬ (7 : Int) = 5 by decide, if_false, and_self, if_true]
          exact lHeard_done h id code A n c qq xi x3 x1 x2 x5 hl hM (by have := hO.dn; omega)
abbrev PkPb : Nat := 31
abbrev PkAk : Nat := 36
abbrev PkCn : Nat := 71
theorem zPb (w : World) : (zeroValue PkPb).run Tryd.prog w = .ok (.agg (pubC false false 0 0 none 0 0 ByteArray.empty ByteArray.empty)) w := by kernel_rfl
theorem zAk (w : World) : (zeroValue PkAk).run Tryd.prog w = .ok (.agg (akC 0 0 0 none 0 0)) w := by kernel_rfl
theorem zCn (w : World) : (zeroValue PkCn).run Tryd.prog w = .ok (.agg #[.bool false, .int .u8 0, .slice none 0 0]) w := by kernel_rfl
theorem asYes {T : TypeId} {fs : _} (hu : Tryd.prog.underlying T = some (.struct fs)) (v : Value) (xT : TypeId) (w : World) : (Instr.typeAssert (.iface T v) xT T true).run Tryd.prog w = .ok (.tuple #[v, .bool true]) w := by
  unfold Instr.typeAssert
  simp [run_underlying hu, Result.andThen]
theorem asNo {T t : TypeId} {fs : _} (hu : Tryd.prog.underlying T = some (.struct fs)) {z : Value} (hz : ∀ w, (zeroValue T).run Tryd.prog w = .ok z w) (ht : t ≠ T) (v : Value) (xT : TypeId) (w : World) : (Instr.typeAssert (.iface t v) xT T true).run Tryd.prog w = .ok (.tuple #[z, .bool false]) w := by
  unfold Instr.typeAssert
  simp [run_underlying hu, Result.andThen, ht, hz]
theorem saidPub {W w : World} {p : Pl} {S : Lg} (h : Sd W w p S) (hT : Tab W) {K : Nat} (hO : S.Ok K) (hK : K < 90000) (d rt : Bool) (q id : Int) (hi0 : 0 ≤ id) (hi1 : id ≤ 4294967295) (A : Option Addr) (n c : Nat) (tp pl : BA) :
    Calls Tryd.prog 7 #[ptrTo p.n, .iface PkPb (pubV d rt q id A n c tp pl)] w (SdPost W w p (S.sent d q id tp pl)) := by
  have HC := hide (fun (w' : World) (hk : Keep [] w w') => lSent hT (h.keep hk) hO hK d rt q id hi0 hi1 A n c tp pl)
  have a1 := fun w => asYes Tryd.underlying31 (pubV d rt q id A n c tp pl) 62 w
  clear h
  go_enter Tryd.func7, Tryd.ntmps7
  go_wp2_with fail
  refine (HC.out _ ((Keep.refl [] w).alloc _)).mono ?_
  intro e w3 hp
  obtain ⟨p', rfl, hn', hS, hG⟩ := hp
  go_wp2_with fail
  go_end0
  exact ⟨p', rfl, hn', hS, (Gone.same ((Keep.refl [] w).alloc _)).trans hG⟩
theorem saidRel_none {W w : World} {p : Pl} {S : Lg} (h : Sd W w p S) (hT : Tab W) {K : Nat} (hO : S.Ok K) (hK : K < 90000) (id : Int) (hi0 : 0 ≤ id) (hi1 : id ≤ 4294967295) (A : Option Addr) (n c : Nat) (hl : AL.get p.l id = none) :
    Calls Tryd.prog 7 #[ptrTo p.n, .iface PkAk (akV 6 id 0 A n c)] w (SdPost W w p (S.wrong sRel id)) := by
  have a1 := fun w => asNo Tryd.underlying31 zPb (by decide : PkAk ≠ PkPb) (akV 6 id 0 A n c) 62 w
  have a2 := fun w => asYes Tryd.underlying36 (akV 6 id 0 A n c) 62 w
  have hX0 := Blk.new w (akC 6 id 0 A n c) PkAk
  have hk0 := (Keep.refl [] w).alloc (.cells (akC 6 id 0 A n c) PkAk)
  have HW := hide (show ∀ w', Keep [] w w' → Calls Tryd.prog 16 #[ptrTo p.n, .string sRel, .int .u32 id] w' (SdPost W w' p (S.wrong sRel id)) from fun w' hk => by
    refine (lWrong hT (h.keep hk) sRel (by decide) id hi0 hi1 (by have := hO.er; omega)).mono ?_
    rintro e w2 ⟨v, rfl, h1, h2⟩
    exact ⟨{ p with ev := v }, rfl, rfl, h1, h2⟩)
  obtain ⟨X, hXe⟩ : ∃ X, w.heap.size = X := ⟨_, rfl⟩
  obtain ⟨w0, hw0⟩ : ∃ w0, w.alloc (.cells (akC 6 id 0 A n c) PkAk) = w0 := ⟨_, rfl⟩
  rw [hw0, hXe] at hX0
  rw [hw0] at hk0
  have h0 := h.keep hk0
  have HK0 := hide hk0
  have HKP := hide (fun (w' : World) (hk : Keep [] w w') => h.keep hk)
  have q0 : ∀ m, (w0.drewN m).cell? ⟨p.n, 0, none⟩ = some (.map (some p.bo)) := fun m => (h0.box.drewN m).cell 0
  have y0 : ∀ m, (w0.drewN m).cell? ⟨X, 0, none⟩ = some (.int .i64 6) := fun m => (hX0.drewN m).cell 0
  have y1 : ∀ m, (w0.drewN m).cell? ⟨X, 1, none⟩ = some (.int .u32 id) := fun m => (hX0.drewN m).cell 1
  have y2 : ∀ m, (w0.drewN m).cell? ⟨X, 2, none⟩ = some (.int .u8 0) := fun m => (hX0.drewN m).cell 2
  have ql : ∀ m, (Instr.lookup 57 (.map (some p.bo)) (.int .u32 id) false).run Tryd.prog (w0.drewN m) = .ok (.pointer none) (w0.drewN m) := fun m => by have := lookX (h0.keep ((Keep.refl [] w0).drewN m)).op id; rw [hl] at this; exact this
  clear h0 hk0 h hX0
  go_enter Tryd.func7, Tryd.ntmps7
  go_wp2_with fail
  try clear hw0
  go_quiet (fail)
  go_wp2_with fail
  refine (HW.out _ (HK0.out.drewN _)).mono ?_
  intro e w3 hp
  obtain ⟨p', rfl, hn', hS, hG⟩ := hp
  go_wp2_with fail
  go_end0
  exact ⟨p', rfl, hn', hS, (Gone.same (HK0.out.drewN _)).trans hG⟩
theorem saidRel_not {W w : World} {p : Pl} {S : Lg} (h : Sd W w p S) (hT : Tab W) {K : Nat} (hO : S.Ok K) (hK : K < 90000) (id : Int) (hi0 : 0 ≤ id) (hi1 : id ≤ 4294967295) (A : Option Addr) (n c : Nat) (q : Nat) (xi x3 : Int) (x1 x2 : BA) (x5 : Bool) (hl : AL.get p.l id = some q) (hM : S.M id = some ⟨xi, x1, x2, x3, false, x5⟩) :
    Calls Tryd.prog 7 #[ptrTo p.n, .iface PkAk (akV 6 id 0 A n c)] w (SdPost W w p (S.wrong sRel id)) := by
  have a1 := fun w => asNo Tryd.underlying31 zPb (by decide : PkAk ≠ PkPb) (akV 6 id 0 A n c) 62 w
  have a2 := fun w => asYes Tryd.underlying36 (akV 6 id 0 A n c) 62 w
  have hX0 := Blk.new w (akC 6 id 0 A n c) PkAk
  have hk0 := (Keep.refl [] w).alloc (.cells (akC 6 id 0 A n c) PkAk)
  have HW := hide (show ∀ w', Keep [] w w' → Calls Tryd.prog 16 #[ptrTo p.n, .string sRel, .int .u32 id] w' (SdPost W w' p (S.wrong sRel id)) from fun w' hk => by
    refine (lWrong hT (h.keep hk) sRel (by decide) id hi0 hi1 (by have := hO.er; omega)).mono ?_
    rintro e w2 ⟨v, rfl, h1, h2⟩
    exact ⟨{ p with ev := v }, rfl, rfl, h1, h2⟩)
  obtain ⟨X, hXe⟩ : ∃ X, w.heap.size = X := ⟨_, rfl⟩
  obtain ⟨w0, hw0⟩ : ∃ w0, w.alloc (.cells (akC 6 id 0 A n c) PkAk) = w0 := ⟨_, rfl⟩
  rw [hw0, hXe] at hX0
  rw [hw0] at hk0
  have h0 := h.keep hk0
  have HK0 := hide hk0
  have HKP := hide (fun (w' : World) (hk : Keep [] w w') => h.keep hk)
  have q0 : ∀ m, (w0.drewN m).cell? ⟨p.n, 0, none⟩ = some (.map (some p.bo)) := fun m => (h0.box.drewN m).cell 0
  have y0 : ∀ m, (w0.drewN m).cell? ⟨X, 0, none⟩ = some (.int .i64 6) := fun m => (hX0.drewN m).cell 0
  have y1 : ∀ m, (w0.drewN m).cell? ⟨X, 1, none⟩ = some (.int .u32 id) := fun m => (hX0.drewN m).cell 1
  have y2 : ∀ m, (w0.drewN m).cell? ⟨X, 2, none⟩ = some (.int .u8 0) := fun m => (hX0.drewN m).cell 2
  have ql : ∀ m, (Instr.lookup 57 (.map (some p.bo)) (.int .u32 id) false).run Tryd.prog (w0.drewN m) = .ok (ptrTo q) (w0.drewN m) := fun m => by have := lookX (h0.keep ((Keep.refl [] w0).drewN m)).op id; rw [hl] at this; exact this
  have hB0 : Blk w0 q #[.int .u32 xi, .string x1, .string x2, .int .i64 x3, .bool false, .bool x5] ExT := by
    obtain ⟨y, hy, hb⟩ := h0.op.at_ id q hl
    rw [hM] at hy; cases hy; exact hb
  have z4 : ∀ m, (w0.drewN m).cell? ⟨q, 4, none⟩ = some (.bool false) := fun m => (hB0.drewN m).cell 4
  clear h0 hk0 h hX0
  go_enter Tryd.func7, Tryd.ntmps7
  go_wp2_with fail
  try clear hw0
  go_quiet (fail)
  go_wp2_with fail
  refine (HW.out _ (HK0.out.drewN _)).mono ?_
  intro e w3 hp
  obtain ⟨p', rfl, hn', hS, hG⟩ := hp
  go_wp2_with fail
  go_end0
  exact ⟨p', rfl, hn', hS, (Gone.same (HK0.out.drewN _)).trans hG⟩
theorem saidRel_came {W w : World} {p : Pl} {S : Lg} (h : Sd W w p S) (hT : Tab W) {K : Nat} (hO : S.Ok K) (hK : K < 90000) (id : Int) (hi0 : 0 ≤ id) (hi1 : id ≤ 4294967295) (A : Option Addr) (n c : Nat) (q : Nat) (xi x3 : Int) (x1 x2 : BA) (x5 : Bool) (hl : AL.get p.l id = some q) (hM : S.M id = some ⟨xi, x1, x2, x3, true, x5⟩) :
    Calls Tryd.prog 7 #[ptrTo p.n, .iface PkAk (akV 6 id 0 A n c)] w (SdPost W w p (S)) := by
  have a1 := fun w => asNo Tryd.underlying31 zPb (by decide : PkAk ≠ PkPb) (akV 6 id 0 A n c) 62 w
  have a2 := fun w => asYes Tryd.underlying36 (akV 6 id 0 A n c) 62 w
  have hX0 := Blk.new w (akC 6 id 0 A n c) PkAk
  have hk0 := (Keep.refl [] w).alloc (.cells (akC 6 id 0 A n c) PkAk)
  have HW := hide (show ∀ w', Keep [] w w' → Calls Tryd.prog 16 #[ptrTo p.n, .string sRel, .int .u32 id] w' (SdPost W w' p (S.wrong sRel id)) from fun w' hk => by
    refine (lWrong hT (h.keep hk) sRel (by decide) id hi0 hi1 (by have := hO.er; omega)).mono ?_
    rintro e w2 ⟨v, rfl, h1, h2⟩
    exact ⟨{ p with ev := v }, rfl, rfl, h1, h2⟩)
  obtain ⟨X, hXe⟩ : ∃ X, w.heap.size = X := ⟨_, rfl⟩
  obtain ⟨w0, hw0⟩ : ∃ w0, w.alloc (.cells (akC 6 id 0 A n c) PkAk) = w0 := ⟨_, rfl⟩
  rw [hw0, hXe] at hX0
  rw [hw0] at hk0
  have h0 := h.keep hk0
  have HK0 := hide hk0
  have HKP := hide (fun (w' : World) (hk : Keep [] w w') => h.keep hk)
  have q0 : ∀ m, (w0.drewN m).cell? ⟨p.n, 0, none⟩ = some (.map (some p.bo)) := fun m => (h0.box.drewN m).cell 0
  have y0 : ∀ m, (w0.drewN m).cell? ⟨X, 0, none⟩ = some (.int .i64 6) := fun m => (hX0.drewN m).cell 0
  have y1 : ∀ m, (w0.drewN m).cell? ⟨X, 1, none⟩ = some (.int .u32 id) := fun m => (hX0.drewN m).cell 1
  have y2 : ∀ m, (w0.drewN m).cell? ⟨X, 2, none⟩ = some (.int .u8 0) := fun m => (hX0.drewN m).cell 2
  have ql : ∀ m, (Instr.lookup 57 (.map (some p.bo)) (.int .u32 id) false).run Tryd.prog (w0.drewN m) = .ok (ptrTo q) (w0.drewN m) := fun m => by have := lookX (h0.keep ((Keep.refl [] w0).drewN m)).op id; rw [hl] at this; exact this
  have hB0 : Blk w0 q #[.int .u32 xi, .string x1, .string x2, .int .i64 x3, .bool true, .bool x5] ExT := by
    obtain ⟨y, hy, hb⟩ := h0.op.at_ id q hl
    rw [hM] at hy; cases hy; exact hb
  have z4 : ∀ m, (w0.drewN m).cell? ⟨q, 4, none⟩ = some (.bool true) := fun m => (hB0.drewN m).cell 4
  clear h0 hk0 h hX0
  go_enter Tryd.func7, Tryd.ntmps7
  go_wp2_with fail
  try clear hw0
  go_quiet (fail)
  go_wp2_with fail
  go_end0
  exact ⟨p, rfl, rfl, HKP.out _ (HK0.out.drewN _), Gone.same (HK0.out.drewN _)⟩
theorem saidRel_code {W w : World} {p : Pl} {S : Lg} (h : Sd W w p S) (hT : Tab W) {K : Nat} (hO : S.Ok K) (hK : K < 90000) (id code : Int) (hi0 : 0 ≤ id) (hi1 : id ≤ 4294967295) (A : Option Addr) (n c : Nat) (hc : code ≠ 0) :
    Calls Tryd.prog 7 #[ptrTo p.n, .iface PkAk (akV 6 id code A n c)] w (SdPost W w p (S)) := by
  have b0 : (code == 0) = false := by simpa using hc
  obtain ⟨lk, hlk⟩ : ∃ v : Value, (match AL.get p.l id with | some q => ptrTo q | none => .pointer none) = v := ⟨_, rfl⟩
  have a1 := fun w => asNo Tryd.underlying31 zPb (by decide : PkAk ≠ PkPb) (akV 6 id code A n c) 62 w
  have a2 := fun w => asYes Tryd.underlying36 (akV 6 id code A n c) 62 w
  have hX0 := Blk.new w (akC 6 id code A n c) PkAk
  have hk0 := (Keep.refl [] w).alloc (.cells (akC 6 id code A n c) PkAk)
  have HW := hide (show ∀ w', Keep [] w w' → Calls Tryd.prog 16 #[ptrTo p.n, .string sRel, .int .u32 id] w' (SdPost W w' p (S.wrong sRel id)) from fun w' hk => by
    refine (lWrong hT (h.keep hk) sRel (by decide) id hi0 hi1 (by have := hO.er; omega)).mono ?_
    rintro e w2 ⟨v, rfl, h1, h2⟩
    exact ⟨{ p with ev := v }, rfl, rfl, h1, h2⟩)
  obtain ⟨X, hXe⟩ : ∃ X, w.heap.size = X := ⟨_, rfl⟩
  obtain ⟨w0, hw0⟩ : ∃ w0, w.alloc (.cells (akC 6 id code A n c) PkAk) = w0 := ⟨_, rfl⟩
  rw [hw0, hXe] at hX0
  rw [hw0] at hk0
  have h0 := h.keep hk0
  have HK0 := hide hk0
  have HKP := hide (fun (w' : World) (hk : Keep [] w w') => h.keep hk)
  have q0 : ∀ m, (w0.drewN m).cell? ⟨p.n, 0, none⟩ = some (.map (some p.bo)) := fun m => (h0.box.drewN m).cell 0
  have y0 : ∀ m, (w0.drewN m).cell? ⟨X, 0, none⟩ = some (.int .i64 6) := fun m => (hX0.drewN m).cell 0
  have y1 : ∀ m, (w0.drewN m).cell? ⟨X, 1, none⟩ = some (.int .u32 id) := fun m => (hX0.drewN m).cell 1
  have y2 : ∀ m, (w0.drewN m).cell? ⟨X, 2, none⟩ = some (.int .u8 code) := fun m => (hX0.drewN m).cell 2
  have ql : ∀ m, (Instr.lookup 57 (.map (some p.bo)) (.int .u32 id) false).run Tryd.prog (w0.drewN m) = .ok (lk) (w0.drewN m) := fun m => by have := lookX (h0.keep ((Keep.refl [] w0).drewN m)).op id; rw [← hlk]; exact this
  clear hlk h0 hk0 h hX0
  go_enter Tryd.func7, Tryd.ntmps7
  go_wp2_with fail
  try clear hw0
  go_quiet (fail)
  go_wp2_with fail
  go_end0
  exact ⟨p, rfl, rfl, HKP.out _ (HK0.out.drewN _), Gone.same (HK0.out.drewN _)⟩
def Lg.rel (S : Lg) (id code : Int) : Lg := if code ≠ 0 then S else match S.M id with | none => S.wrong sRel id | some x => if x.f4 = true then S else S.wrong sRel id
theorem saidRel {W w : World} {p : Pl} {S : Lg} (h : Sd W w p S) (hT : Tab W) {K : Nat} (hO : S.Ok K) (hK : K < 90000) (id code : Int) (hi0 : 0 ≤ id) (hi1 : id ≤ 4294967295) (A : Option Addr) (n c : Nat) :
    Calls Tryd.prog 7 #[ptrTo p.n, .iface PkAk (akV 6 id code A n c)] w (SdPost W w p (S.rel id code)) := by
  unfold Lg.rel
  by_cases hc : code = 0
  · subst hc
    rw [if_neg (by simp)]
    cases hl : AL.get p.l id with
    | none => rw [h.op.none id hl]; exact saidRel_none h hT hO hK id hi0 hi1 A n c hl
    | some qq =>
      obtain ⟨⟨xi, x1, x2, x3, x4, x5⟩, hM, _⟩ := h.op.at_ id qq hl
      rw [hM]
      cases x4
      · exact saidRel_not h hT hO hK id hi0 hi1 A n c qq xi x3 x1 x2 x5 hl hM
      · exact saidRel_came h hT hO hK id hi0 hi1 A n c qq xi x3 x1 x2 x5 hl hM
  · rw [if_pos hc]
    exact saidRel_code h hT hO hK id code hi0 hi1 A n c hc
theorem heardAck {W w : World} {p : Pl} {S : Lg} (h : Sd W w p S) {K : Nat} (hO : S.Ok K) (hK : K < 90000) (kind id code : Int) (hk : kind = 4 ∨ kind = 5 ∨ kind = 6 ∨ kind = 7) (A : Option Addr) (n c : Nat) :
    Calls Tryd.prog 8 #[ptrTo p.n, .iface PkAk (akV kind id code A n c)] w (SdPost W w p (S.heard kind id code)) := by
  have HC := hide (fun (w' : World) (hk' : Keep [] w w') => lHeard (h.keep hk') hO hK kind id code hk A n c)
  have a1 := fun w => asNo Tryd.underlying31 zPb (by decide : PkAk ≠ PkPb) (akV kind id code A n c) 62 w
  have a2 := fun w => asYes Tryd.underlying36 (akV kind id code A n c) 62 w
  clear h
  go_enter Tryd.func8, Tryd.ntmps8
  go_wp2_with fail
  refine (HC.out _ ((Keep.refl [] w).alloc _)).mono ?_
  intro e w3 hp
  obtain ⟨p', rfl, hn', hS, hG⟩ := hp
  go_wp2_with fail
  go_end0
  exact ⟨p', rfl, hn', hS, (Gone.same ((Keep.refl [] w).alloc _)).trans hG⟩
theorem saidCon_there {W w : World} {p : Pl} {S : Lg} (h : Sd W w p S) (code : Int) (A : Option Addr) (n c : Nat) :
    Calls Tryd.prog 7 #[ptrTo p.n, .iface PkCn (.agg #[.bool true, .int .u8 code, .slice A n c])] w (SdPost W w p (S)) := by
  have HKP := hide (fun (w' : World) (hk : Keep [] w w') => h.keep hk)
  have a1 := fun w => asNo Tryd.underlying31 zPb (by decide : PkCn ≠ PkPb) (.agg #[.bool true, .int .u8 code, .slice A n c]) 62 w
  have a2 := fun w => asNo Tryd.underlying36 zAk (by decide : PkCn ≠ PkAk) (.agg #[.bool true, .int .u8 code, .slice A n c]) 62 w
  have a3 := fun w => asYes Tryd.underlying71 (.agg #[.bool true, .int .u8 code, .slice A n c]) 62 w
  clear h
  go_enter Tryd.func7, Tryd.ntmps7
  go_wp2_with fail
  go_end0
  exact ⟨p, rfl, rfl, HKP.out _ ((Keep.refl [] w).alloc _), Gone.same ((Keep.refl [] w).alloc _)⟩
theorem saidCon_new {W w : World} {p : Pl} {S : Lg} (h : Sd W w p S) (code : Int) (A : Option Addr) (n c : Nat) :
    Calls Tryd.prog 7 #[ptrTo p.n, .iface PkCn (.agg #[.bool false, .int .u8 code, .slice A n c])] w (SdPost W w p ({ S with M := fun _ => none, tk := [] })) := by
  have a1 := fun w => asNo Tryd.underlying31 zPb (by decide : PkCn ≠ PkPb) (.agg #[.bool false, .int .u8 code, .slice A n c]) 62 w
  have a2 := fun w => asNo Tryd.underlying36 zAk (by decide : PkCn ≠ PkAk) (.agg #[.bool false, .int .u8 code, .slice A n c]) 62 w
  have a3 := fun w => asYes Tryd.underlying71 (.agg #[.bool false, .int .u8 code, .slice A n c]) 62 w
  have hk0 := (Keep.refl [] w).alloc (.cells #[.bool false, .int .u8 code, .slice A n c] PkCn)
  obtain ⟨w0, hw0⟩ : ∃ w0, w.alloc (.cells #[.bool false, .int .u8 code, .slice A n c] PkCn) = w0 := ⟨_, rfl⟩
  have hX0 : Blk w0 w.heap.size #[.bool false, .int .u8 code, .slice A n c] PkCn := by rw [← hw0]; exact Blk.new _ _ _
  rw [hw0] at hk0
  have h0 := h.keep hk0
  have c0 : w0.cell? ⟨p.n, 0, none⟩ = some (.map (some p.bo)) := h0.box.cell 0
  have x0 : w0.cell? ⟨w.heap.size, 0, none⟩ = some (.bool false) := hX0.cell 0
  have H0 := hide h0
  have HG0 := hide (Gone.same (p := p) hk0)
  clear h hk0 h0 hX0
  go_enter Tryd.func7, Tryd.ntmps7
  go_wp2_with (first | (refine wpList_clear_map rfl _ 57 rfl 22 64 Tryd.underlying57 p.bo p.l rfl H0.out.op.map ?_; intro w1 hM1 hK1 hz1; have h1 := H0.out.clro hK1 hM1; have c1 : w1.cell? ⟨p.n, 2, none⟩ = some (.map (some p.bt)) := h1.1.box.cell 2; have H1 := hide h1; clear h1 hM1 hK1 hz1) | (refine wpList_clear_map rfl _ 58 rfl 22 3 Tryd.underlying58 p.bt S.tk rfl H1.out.1.tk ?_; intro w2 hM2 hK2 hz2; have h2 := H1.out.1.tkp hK2 hM2; have H2 := hide h2; clear h2 hM2 hK2 hz2) | fail)
  go_end0
  exact ⟨{ p with l := [] }, rfl, rfl, H2.out.1, HG0.out.trans (H1.out.2.trans H2.out.2)⟩
end Go.Proofs.YtjhhnidfmoejdaaDoor
