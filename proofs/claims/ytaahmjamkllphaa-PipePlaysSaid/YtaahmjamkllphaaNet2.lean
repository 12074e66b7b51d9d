/- Package pipe: what each call on connections does. -/
import Derived.Test.YtaahmjamkllphaaNet
import Derived.RegionTactic
namespace Go.Proofs.Ytaahmjamkllphaa
open Go.RowKit
set_option maxRecDepth 10000
set_option linter.unusedVariables false
set_option maxHeartbeats 1000000

def Cn.new : Cn := ⟨⟨ByteArray.empty, 0, false⟩, ByteArray.empty, false⟩

theorem new_any (w : World) : Calls Try.prog 15 #[] w (Px fun (x : Nat × Nat) e w' => e = .returned (ptrTo x.1) ∧ NetAt w' x.1 x.2 [] (fun _ => none) ∧ Keep [] w w' ∧ w.heap.size ≤ x.1 ∧ w.heap.size ≤ x.2) := by
  have hmm := @run_makeMap Try.prog
  go_enter Try.func15, Try.ntmps15
  go_wp2
  go_ret
  refine ⟨(_, w.heap.size), rfl, ⟨Blk.new' _ _ (by simp), (MapAt.new w _ _).alloc _, fun k c hk => by simp [AL.get] at hk, fun k _ => rfl, fun k k' c hk => by simp [AL.get] at hk⟩, ((Keep.refl _ _).alloc _).alloc _, ?_, ?_⟩ <;> simp

theorem getErr_cases (M : Int → Option Cn) (k : Int) : getErr M k = 7 ∨ getErr M k = 13 ∨ (getErr M k = 0 ∧ ∃ x, M k = some x ∧ x.hung = false) := by
  unfold getErr
  cases hM : M k with
  | none => exact .inl rfl
  | some x =>
    cases hh : x.hung
    · exact .inr (.inr ⟨by simp [hh], x, rfl, hh⟩)
    · exact .inr (.inl (by simp [hh]))

theorem get_ok (w : World) (n b : Nat) (l : List (Int × Nat)) (M : Int → Option Cn) (h : NetAt w n b l M) (k : Int) (c : Nat) (x : Cn) (hk : AL.get l k = some c) (hM : M k = some x) (hh : x.hung = false) :
    Calls Try.prog 26 #[ptrTo n, .int .i64 k] w fun e w' => e = .returned (.tuple #[ptrTo c, .int .i64 0]) ∧ w' = w := by
  have e1 : getPtr l k = ptrTo c := by unfold getPtr; rw [hk]
  have e2 : getErr M k = 0 := by unfold getErr; rw [hM]; simp [hh]
  have := get_any w n b l M h k
  rw [e1, e2] at this
  exact this

theorem get_bad (w : World) (n b : Nat) (l : List (Int × Nat)) (M : Int → Option Cn) (h : NetAt w n b l M) (k : Int) (E : Int) (hg : getErr M k = E) :
    Calls Try.prog 26 #[ptrTo n, .int .i64 k] w fun e w' => e = .returned (.tuple #[getPtr l k, .int .i64 E]) ∧ w' = w := by
  rw [← hg]; exact get_any w n b l M h k

theorem write_bad (w : World) (n b : Nat) (l : List (Int × Nat)) (M : Int → Option Cn) (h : NetAt w n b l M) (k : Int) (s : ByteArray) (E : Int) (hE : E = 7 ∨ E = 13) (hg : getErr M k = E) :
    Calls Try.prog 17 #[ptrTo n, .int .i64 k, .string s] w fun e w' => e = .returned (.int .i64 E) ∧ w' = w := by
  have H := hide (get_bad w n b l M h k E hg)
  clear hg
  rcases hE with rfl | rfl
  · go_enter Try.func17, Try.ntmps17
    go_wp2_with fail
    refine H.out.mono ?_
    rintro e w1 ⟨rfl, rfl⟩
    go_wp2
    first | go_ret | go_ret2
    exact ⟨rfl, rfl⟩
  · go_enter Try.func17, Try.ntmps17
    go_wp2_with fail
    refine H.out.mono ?_
    rintro e w1 ⟨rfl, rfl⟩
    go_wp2
    first | go_ret | go_ret2
    exact ⟨rfl, rfl⟩

theorem cut_bad (w : World) (n b : Nat) (l : List (Int × Nat)) (M : Int → Option Cn) (h : NetAt w n b l M) (k : Int) (m : Int) (E : Int) (hE : E = 7 ∨ E = 13) (hg : getErr M k = E) :
    Calls Try.prog 20 #[ptrTo n, .int .i64 k, .int .i64 m] w fun e w' => e = .returned (.int .i64 E) ∧ w' = w := by
  have H := hide (get_bad w n b l M h k E hg)
  clear hg
  rcases hE with rfl | rfl
  · go_enter Try.func20, Try.ntmps20
    go_wp2_with fail
    refine H.out.mono ?_
    rintro e w1 ⟨rfl, rfl⟩
    go_wp2
    first | go_ret | go_ret2
    exact ⟨rfl, rfl⟩
  · go_enter Try.func20, Try.ntmps20
    go_wp2_with fail
    refine H.out.mono ?_
    rintro e w1 ⟨rfl, rfl⟩
    go_wp2
    first | go_ret | go_ret2
    exact ⟨rfl, rfl⟩

theorem say_bad (w : World) (n b : Nat) (l : List (Int × Nat)) (M : Int → Option Cn) (h : NetAt w n b l M) (k : Int) (s : ByteArray) (E : Int) (hE : E = 7 ∨ E = 13) (hg : getErr M k = E) :
    Calls Try.prog 24 #[ptrTo n, .int .i64 k, .string s] w fun e w' => e = .returned (.int .i64 E) ∧ w' = w := by
  have H := hide (get_bad w n b l M h k E hg)
  clear hg
  rcases hE with rfl | rfl
  · go_enter Try.func24, Try.ntmps24
    go_wp2_with fail
    refine H.out.mono ?_
    rintro e w1 ⟨rfl, rfl⟩
    go_wp2
    first | go_ret | go_ret2
    exact ⟨rfl, rfl⟩
  · go_enter Try.func24, Try.ntmps24
    go_wp2_with fail
    refine H.out.mono ?_
    rintro e w1 ⟨rfl, rfl⟩
    go_wp2
    first | go_ret | go_ret2
    exact ⟨rfl, rfl⟩

theorem hang_bad (w : World) (n b : Nat) (l : List (Int × Nat)) (M : Int → Option Cn) (h : NetAt w n b l M) (k : Int) (E : Int) (hE : E = 7 ∨ E = 13) (hg : getErr M k = E) :
    Calls Try.prog 25 #[ptrTo n, .int .i64 k] w fun e w' => e = .returned (.int .i64 E) ∧ w' = w := by
  have H := hide (get_bad w n b l M h k E hg)
  clear hg
  rcases hE with rfl | rfl
  · go_enter Try.func25, Try.ntmps25
    go_wp2_with fail
    refine H.out.mono ?_
    rintro e w1 ⟨rfl, rfl⟩
    go_wp2
    first | go_ret | go_ret2
    exact ⟨rfl, rfl⟩
  · go_enter Try.func25, Try.ntmps25
    go_wp2_with fail
    refine H.out.mono ?_
    rintro e w1 ⟨rfl, rfl⟩
    go_wp2
    first | go_ret | go_ret2
    exact ⟨rfl, rfl⟩

theorem write_ok (w : World) (n b : Nat) (l : List (Int × Nat)) (M : Int → Option Cn) (h : NetAt w n b l M) (k : Int) (c : Nat) (x : Cn) (hk : AL.get l k = some c) (hM : M k = some x) (hh : x.hung = false) (s : ByteArray) (hs : x.p.wait.size + s.size < 1000000000) :
    Calls Try.prog 17 #[ptrTo n, .int .i64 k, .string s] w fun e w' => e = .returned (.int .i64 x.p.err) ∧ NetAt w' n b l (upM M k { x with p := x.p.send s }) ∧ Keep [c] w w' := by
  have H := hide (get_ok w n b l M h k c x hk hM hh)
  obtain ⟨y, hy, hC⟩ := h.conn k c hk
  rw [hM] at hy
  cases hy
  have H2 := hide (send_any w c x.p (cnRest x) _ hC s hs)
  have HT := hide (fun (w' : World) (x' : Cn) => NetAt.turn (w' := w') h (x := x') hk)
  clear hk hM hh
  go_enter Try.func17, Try.ntmps17
  go_wp2_with fail
  refine H.out.mono ?_
  rintro e w1 ⟨rfl, rfl⟩
  go_wp2_with fail
  refine H2.out.mono ?_
  rintro e w1 ⟨rfl, hp, hK⟩
  go_wp2
  go_ret
  exact ⟨rfl, HT.out _ _ hK hp, hK⟩

theorem cut_ok (w : World) (n b : Nat) (l : List (Int × Nat)) (M : Int → Option Cn) (h : NetAt w n b l M) (k : Int) (c : Nat) (x : Cn) (hk : AL.get l k = some c) (hM : M k = some x) (hh : x.hung = false) (m : Int) (hs : x.p.wait.size < 1000000000) :
    Calls Try.prog 20 #[ptrTo n, .int .i64 k, .int .i64 m] w fun e w' => e = .returned (.int .i64 0) ∧ NetAt w' n b l (upM M k { x with p := x.p.cut m }) ∧ Keep [c] w w' := by
  have H := hide (get_ok w n b l M h k c x hk hM hh)
  obtain ⟨y, hy, hC⟩ := h.conn k c hk
  rw [hM] at hy
  cases hy
  have H2 := hide (pcut_any w c x.p (cnRest x) _ hC m hs)
  have HT := hide (fun (w' : World) (x' : Cn) => NetAt.turn (w' := w') h (x := x') hk)
  clear hk hM hh
  go_enter Try.func20, Try.ntmps20
  go_wp2_with fail
  refine H.out.mono ?_
  rintro e w1 ⟨rfl, rfl⟩
  go_wp2_with fail
  refine H2.out.mono ?_
  rintro e w1 ⟨rfl, hp, hK⟩
  go_wp2
  go_ret
  exact ⟨rfl, HT.out _ _ hK hp, hK⟩

theorem say_ok (w : World) (n b : Nat) (l : List (Int × Nat)) (M : Int → Option Cn) (h : NetAt w n b l M) (k : Int) (c : Nat) (x : Cn) (hk : AL.get l k = some c) (hM : M k = some x) (hh : x.hung = false) (s : ByteArray) (hs : x.said.size + s.size < 1000000000) :
    Calls Try.prog 24 #[ptrTo n, .int .i64 k, .string s] w fun e w' => e = .returned (.int .i64 0) ∧ NetAt w' n b l (upM M k { x with said := x.said ++ s }) ∧ Keep [c] w w' := by
  have H := hide (get_ok w n b l M h k c x hk hM hh)
  obtain ⟨y, hy, hC⟩ := h.conn k c hk
  rw [hM] at hy
  cases hy
  have c3 := hC.c3
  have f3 := hC.f3
  have hl : ¬ 9223372036854775807 < x.said.size + s.size := by omega
  have HT := hide (fun (w' : World) (x' : Cn) => NetAt.turn (w' := w') h (x := x') hk)
  clear hk hM hh
  go_enter Try.func24, Try.ntmps24
  go_wp2_with fail
  refine H.out.mono ?_
  rintro e w1 ⟨rfl, rfl⟩
  go_wp2
  go_ret
  have hK := (Keep.refl [c] w1).setCell (p := ⟨c, 3, none⟩) (by simp) (.string (x.said ++ s))
  exact ⟨rfl, HT.out _ _ hK (hC.set3 _), hK⟩

theorem hang_ok (w : World) (n b : Nat) (l : List (Int × Nat)) (M : Int → Option Cn) (h : NetAt w n b l M) (k : Int) (c : Nat) (x : Cn) (hk : AL.get l k = some c) (hM : M k = some x) (hh : x.hung = false) :
    Calls Try.prog 25 #[ptrTo n, .int .i64 k] w fun e w' => e = .returned (.int .i64 0) ∧ NetAt w' n b l (upM M k { x with hung := true }) ∧ Keep [c] w w' := by
  have H := hide (get_ok w n b l M h k c x hk hM hh)
  obtain ⟨y, hy, hC⟩ := h.conn k c hk
  rw [hM] at hy
  cases hy
  have c4 := hC.c4
  have f4 := hC.f4
  have HT := hide (fun (w' : World) (x' : Cn) => NetAt.turn (w' := w') h (x := x') hk)
  clear hk hM hh
  go_enter Try.func25, Try.ntmps25
  go_wp2_with fail
  refine H.out.mono ?_
  rintro e w1 ⟨rfl, rfl⟩
  go_wp2
  go_ret
  have hK := (Keep.refl [c] w1).setCell (p := ⟨c, 4, none⟩) (by simp) (.bool true)
  exact ⟨rfl, HT.out _ _ hK (hC.set4 _), hK⟩

theorem read_bad (w : World) (n b : Nat) (l : List (Int × Nat)) (M : Int → Option Cn) (h : NetAt w n b l M) (k : Int) (m : Int) (E : Int) (hE : E = 7 ∨ E = 13) (hg : getErr M k = E) :
    Calls Try.prog 18 #[ptrTo n, .int .i64 k, .int .i64 m] w fun e w' => e = .returned (.tuple #[.string ByteArray.empty, .bool false, .int .i64 E]) ∧ w' = w := by
  have H := hide (get_bad w n b l M h k E hg)
  clear hg
  rcases hE with rfl | rfl
  · go_enter Try.func18, Try.ntmps18
    go_wp2_with fail
    refine H.out.mono ?_
    rintro e w1 ⟨rfl, rfl⟩
    go_wp2
    go_ret3
    exact ⟨rfl, rfl⟩
  · go_enter Try.func18, Try.ntmps18
    go_wp2_with fail
    refine H.out.mono ?_
    rintro e w1 ⟨rfl, rfl⟩
    go_wp2
    go_ret3
    exact ⟨rfl, rfl⟩

theorem read_ok (w : World) (n b : Nat) (l : List (Int × Nat)) (M : Int → Option Cn) (h : NetAt w n b l M) (k : Int) (c : Nat) (x : Cn) (hk : AL.get l k = some c) (hM : M k = some x) (hh : x.hung = false) (m : Int) (hs : x.p.wait.size < 1000000000) (hc : 0 ≤ x.p.came ∧ x.p.came < 1000000000) :
    Calls Try.prog 18 #[ptrTo n, .int .i64 k, .int .i64 m] w fun e w' => e = .returned (.tuple #[.string (x.p.wait.extract 0 (x.p.k m)), .bool (x.p.chunk m).ended, .int .i64 0]) ∧ NetAt w' n b l (upM M k { x with p := x.p.chunk m }) ∧ Keep [c] w w' := by
  have H := hide (get_ok w n b l M h k c x hk hM hh)
  obtain ⟨y, hy, hC⟩ := h.conn k c hk
  rw [hM] at hy
  cases hy
  have H2 := hide (pchunk_any w c x.p (cnRest x) _ hC m hs hc)
  have HT := hide (fun (w' : World) (x' : Cn) => NetAt.turn (w' := w') h (x := x') hk)
  clear hk hM hh hc
  go_enter Try.func18, Try.ntmps18
  go_wp2_with fail
  refine H.out.mono ?_
  rintro e w1 ⟨rfl, rfl⟩
  go_wp2_with fail
  refine H2.out.mono ?_
  rintro e w1 ⟨rfl, hp, hK⟩
  go_wp2_with fail
  refine (ended_any _ c _ _ _ hp).mono ?_
  rintro e w2 ⟨rfl, rfl⟩
  go_wp2
  go_ret3
  exact ⟨rfl, HT.out _ _ hK hp, hK⟩

theorem stat_ok (w : World) (n b : Nat) (l : List (Int × Nat)) (M : Int → Option Cn) (h : NetAt w n b l M) (k : Int) (x : Cn) (c : Nat) (hk : AL.get l k = some c) (hM : M k = some x) :
    Calls Try.prog 19 #[ptrTo n, .int .i64 k] w fun e w' => e = .returned (.complex .f64 (FloatKind.f64.nearest x.p.came) (FloatKind.f64.nearest x.p.wait.size)) ∧ Keep [] w w' := by
  have hn0 := h.blk.cell 0
  simp at hn0
  have hl := run_lookup_map (KeyLaw.int Try.underlying3) Try.underlying58 h.map (zeroConn w) k true
  rw [hk] at hl
  simp only [optV, Option.isSome, if_true] at hl
  obtain ⟨y, hy, hC⟩ := h.conn k c hk
  rw [hM] at hy
  cases hy
  have H2 := hide (pstat_any w c x.p (cnRest x) _ hC)
  clear hk hM
  go_enter Try.func19, Try.ntmps19
  go_wp2_with fail
  refine H2.out.mono ?_
  rintro e w1 ⟨rfl, hK⟩
  go_wp2
  go_ret
  exact ⟨rfl, hK⟩

theorem said_ok (w : World) (n b : Nat) (l : List (Int × Nat)) (M : Int → Option Cn) (h : NetAt w n b l M) (k : Int) (x : Cn) (c : Nat) (hk : AL.get l k = some c) (hM : M k = some x) :
    Calls Try.prog 22 #[ptrTo n, .int .i64 k] w fun e w' => e = .returned (.string x.said) ∧ w' = w := by
  have hn0 := h.blk.cell 0
  simp at hn0
  have hl := run_lookup_map (KeyLaw.int Try.underlying3) Try.underlying58 h.map (zeroConn w) k true
  rw [hk] at hl
  simp only [optV, Option.isSome, if_true] at hl
  obtain ⟨y, hy, hC⟩ := h.conn k c hk
  rw [hM] at hy
  cases hy
  have c3 := hC.c3
  clear hk hM
  go_enter Try.func22, Try.ntmps22
  go_wp2
  go_ret
  exact ⟨rfl, rfl⟩

theorem open_there (w : World) (n b : Nat) (l : List (Int × Nat)) (M : Int → Option Cn) (h : NetAt w n b l M) (k : Int) (x : Cn) (c : Nat) (hk : AL.get l k = some c) (hM : M k = some x) :
    Calls Try.prog 16 #[ptrTo n, .int .i64 k] w fun e w' => e = .returned (.int .i64 8) ∧ w' = w := by
  have hn0 := h.blk.cell 0
  simp at hn0
  have hl := run_lookup_map (KeyLaw.int Try.underlying3) Try.underlying58 h.map (zeroConn w) k true
  rw [hk] at hl
  simp only [optV, Option.isSome, if_true] at hl
  clear hk hM
  go_enter Try.func16, Try.ntmps16
  go_wp2
  go_ret
  exact ⟨rfl, rfl⟩

theorem open_new (w : World) (n b : Nat) (l : List (Int × Nat)) (M : Int → Option Cn) (h : NetAt w n b l M) (k : Int) (hk : AL.get l k = none) :
    Calls Try.prog 16 #[ptrTo n, .int .i64 k] w fun e w' => e = .returned (.int .i64 0) ∧ NetAt w' n b (AL.set l k w.heap.size) (upM M k Cn.new) ∧ Keep [b] w w' := by
  have hn0 := h.blk.cell 0
  simp at hn0
  have hl := run_lookup_map (KeyLaw.int Try.underlying3) Try.underlying58 h.map (zeroConn w) k true
  rw [hk] at hl
  simp only [optV, Option.isSome, if_true] at hl
  have HN := hide h
  have Hk := hide hk
  clear hk
  have hmap := h.map
  go_enter Try.func16, Try.ntmps16
  go_wp2_with (at_mapUpdate; refine wpList_mapUpdate_map rfl _ _ _ 58 rfl 3 61 (KeyLaw.int Try.underlying3) Try.underlying58 b l rfl (hmap.alloc _) k w.heap.size rfl rfl ?_; intro w2 hm2 hk2 hs2)
  go_ret
  have hbw := HN.out.map.lt
  have hnew : CAt w2 w.heap.size Cn.new := (show CAt (w.alloc _) w.heap.size Cn.new from Blk.new w _ _).keep hk2 (by simp; omega)
  refine ⟨rfl, ⟨(HN.out.blk.alloc _).keep hk2 (by simp; exact HN.out.ne), hm2, fun k' c' hc' => ?_, fun k' hk' => ?_, fun k1 k2 c' h1 h2 => ?_⟩, ((Keep.refl [b] w).alloc _).then hk2⟩
  · by_cases e : k' = k
    · subst e
      rw [AL.get_set, if_pos rfl] at hc'
      cases hc'
      exact ⟨_, by simp [upM], hnew⟩
    · rw [AL.get_set, if_neg e] at hc'
      obtain ⟨y, hy, hC⟩ := HN.out.conn k' c' hc'
      have := HN.out.cne hc'
      exact ⟨y, by simp [upM, e, hy], (show CAt (w.alloc _) c' y from Blk.alloc hC _).keep hk2 (by simp; exact this.1)⟩
  · by_cases e : k' = k
    · subst e; rw [AL.get_set, if_pos rfl] at hk'; cases hk'
    · rw [AL.get_set, if_neg e] at hk'
      simp [upM, e, HN.out.none k' hk']
  · have lt : ∀ k3, AL.get l k3 = some w.heap.size → False := fun k3 h3 => by
      obtain ⟨y, _, hC⟩ := HN.out.conn k3 _ h3
      have := hC.lt
      omega
    by_cases e1 : k1 = k
    · by_cases e2 : k2 = k
      · rw [e1, e2]
      · subst e1
        rw [AL.get_set, if_pos rfl] at h1
        cases h1
        rw [AL.get_set, if_neg e2] at h2
        exact (lt _ h2).elim
    · rw [AL.get_set, if_neg e1] at h1
      by_cases e2 : k2 = k
      · subst e2
        rw [AL.get_set, if_pos rfl] at h2
        cases h2
        exact (lt _ h1).elim
      · rw [AL.get_set, if_neg e2] at h2
        exact HN.out.inj _ _ _ h1 h2
end Go.Proofs.Ytaahmjamkllphaa
