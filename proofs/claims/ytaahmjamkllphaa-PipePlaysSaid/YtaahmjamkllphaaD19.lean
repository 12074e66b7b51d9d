/- switchboardlaw19.Does: a call on the net and on the document's list. -/
import Derived.Test.YtaahmjamkllphaaS19
import Derived.Test.YtaahmjamkllphaaL19w
import Derived.Test.YtaahmjamkllphaaL19
namespace Go.Proofs.Ytaahmjamkllphaa
open Go.RowKit Go.Proofs.Ytaahmjamkllphaa.PHang Go.Proofs.YtaahmjamkllphaaW.PrintWords
set_option maxRecDepth 10000
set_option linter.unusedVariables false
set_option maxHeartbeats 2000000

theorem ba_self (b : ByteArray) : (b == b) = true := by
  show (b.data == b.data) = true
  simp

theorem cutS_le (s : ByteArray) : (cutS s 30).size ≤ 30 := by
  unfold cutS; split
  · rw [ByteArray.size_extract]; omega
  · omega

theorem does_any {W w : World} {n : Nat} {v : Value} {l : LConn} {N K : Nat} (h : Mid W w n v l l N K) (hN : N < 100000) (hl : l.length < 900) (kd id m : Int) (s : ByteArray) :
    Calls Try.prog 21 #[ptrTo n, v, .agg #[.int .i64 kd, .int .i64 id, .int .i64 m, .string s]] w (Px fun (x : Value × LConn) e w' => e = .returned (.tuple #[x.1, .bool true]) ∧ Mid W w' n x.1 x.2 x.2 (N + 30) (K + 1) ∧ x.2.length ≤ l.length + 1) := by
  have hc := h.okc
  have hs := cutS_le s
  by_cases k1 : kd = 1
  · subst k1
    obtain ⟨l', f, hp⟩ : ∃ l' f, R19.pOpen l id = (l', f) := ⟨_, _, rfl⟩
    have hlen : l'.length ≤ l.length + 1 := by have := R19.po_len l id; rw [hp] at this; exact this
    have HN := hide (show ∀ w1, Mid W w1 n v l l N K → Calls Try.prog 16 #[ptrTo n, .int .i64 id] w1 fun e w' => e = .returned (.int .i64 f) ∧ Mid W w' n v l l' (N + 30) (K + 1) ∧ ∀ q cs, Blk w1 q cs ActT → Blk w' q cs ActT from fun w1 h1 => by
      have := nOpen h1 id
      rw [hp] at this
      exact this)
    have HR := hide (show ∀ w1, Mid W w1 n v l l' (N + 30) (K + 1) → Calls Try.prog 27 #[v, .int .i64 id] w1 (Px fun v' e w' => e = .returned (.tuple #[v', .int .i64 f]) ∧ Mid W w' n v' l' l' (N + 30) (K + 1)) from fun w1 h1 => by
      have hb := h1.below.size
      refine (rOpen_any v l W.heap.size id w1 h1.own (by omega) (by omega)).mono ?_
      rintro e w' ⟨v', he, hO, hk⟩
      rw [hp] at he hO
      exact ⟨v', he, h1.row hk hO⟩)
    clear hp
    have nf : (f == f) = true := by simp
    go_enter Try.func21, Try.ntmps21
    have hM1 := h.keep ((Keep.refl [] w).alloc (.cells #[.int .i64 1, .int .i64 id, .int .i64 m, .string s] ActT))
    have hX := Blk.new w #[.int .i64 1, .int .i64 id, .int .i64 m, .string s] ActT
    have x0 := hX.cell 0
    have x1 := hX.cell 1
    have x3 := hX.cell 3
    simp at x0 x1 x3
    clear h
    go_wp2_with fail
    refine (cut01_any s 30 _).mono ?_
    rintro e w1 ⟨rfl, rfl⟩
    go_wp2_with fail
    refine (HN.out _ hM1).mono ?_
    rintro e w2 ⟨rfl, hM2, hA2⟩
    have hX2 := hA2 _ _ hX
    have y1 := hX2.cell 1
    simp at y1
    clear hA2 hX x0 x1 x3 hM1
    go_wp2_with fail
    refine (HR.out _ hM2).mono ?_
    rintro e w3 ⟨v', rfl, hM3⟩
    go_wp2_with fail
    go_ret2
    exact ⟨(v', l'), rfl, hM3, hlen⟩
  have k1' : (kd == 1) = false := by simpa using k1
  clear k1
  by_cases k2 : kd = 2
  · subst k2
    obtain ⟨l', f, hp⟩ : ∃ l' f, R19.pWrite l id (cutS s 30) = (l', f) := ⟨_, _, rfl⟩
    have hlen : l'.length ≤ l.length + 1 := by have := R19.pw_len l id (cutS s 30); rw [hp] at this; first | (simp only at this; omega) | omega
    have HN := hide (show ∀ w1, Mid W w1 n v l l N K → Calls Try.prog 17 #[ptrTo n, .int .i64 id, .string (cutS s 30)] w1 fun e w' => e = .returned (.int .i64 f) ∧ Mid W w' n v l l' (N + 30) (K + 1) ∧ ∀ q cs, Blk w1 q cs ActT → Blk w' q cs ActT from fun w1 h1 => by
      have := nWrite h1 (by omega) id (cutS s 30) hs
      rw [hp] at this
      exact this)
    have HR := hide (show ∀ w1, Mid W w1 n v l l' (N + 30) (K + 1) → Calls Try.prog 28 #[v, .int .i64 id, .string (cutS s 30)] w1 (Px fun v' e w' => e = .returned (.tuple #[v', .int .i64 f]) ∧ Mid W w' n v' l' l' (N + 30) (K + 1)) from fun w1 h1 => by
      have hb := h1.below.size
      refine (rWrite_any (cutS s 30) v l W.heap.size id w1 h1.own (by omega) (by omega) (fun c hcm => by have := (hc c hcm).2.2.1; omega)).mono ?_
      rintro e w' ⟨v', he, hO, hk⟩
      rw [hp] at he hO
      exact ⟨v', he, h1.row hk hO⟩)
    clear hp
    have nf : (f == f) = true := by simp
    go_enter Try.func21, Try.ntmps21
    have hM1 := h.keep ((Keep.refl [] w).alloc (.cells #[.int .i64 2, .int .i64 id, .int .i64 m, .string s] ActT))
    have hX := Blk.new w #[.int .i64 2, .int .i64 id, .int .i64 m, .string s] ActT
    have x0 := hX.cell 0
    have x1 := hX.cell 1
    have x3 := hX.cell 3
    simp at x0 x1 x3
    clear h
    go_wp2_with fail
    refine (cut01_any s 30 _).mono ?_
    rintro e w1 ⟨rfl, rfl⟩
    go_wp2_with fail
    refine (HN.out _ hM1).mono ?_
    rintro e w2 ⟨rfl, hM2, hA2⟩
    have hX2 := hA2 _ _ hX
    have y1 := hX2.cell 1
    simp at y1
    clear hA2 hX x0 x1 x3 hM1
    go_wp2_with fail
    refine (HR.out _ hM2).mono ?_
    rintro e w3 ⟨v', rfl, hM3⟩
    go_wp2_with fail
    go_ret2
    exact ⟨(v', l'), rfl, hM3, hlen⟩
  have k2' : (kd == 2) = false := by simpa using k2
  clear k2
  by_cases k3 : kd = 3
  · subst k3
    obtain ⟨l', tx, is, f, hp⟩ : ∃ l' tx is f, R19.pRead l id m = (l', tx, is, f) := ⟨_, _, _, _, rfl⟩
    have hlen : l'.length ≤ l.length + 1 := by have := R19.pr_len l id m; rw [hp] at this; first | (simp only at this; omega) | omega
    have HN := hide (show ∀ w1, Mid W w1 n v l l N K → Calls Try.prog 18 #[ptrTo n, .int .i64 id, .int .i64 m] w1 fun e w' => e = .returned (.tuple #[.string tx, .bool is, .int .i64 f]) ∧ Mid W w' n v l l' (N + 30) (K + 1) ∧ ∀ q cs, Blk w1 q cs ActT → Blk w' q cs ActT from fun w1 h1 => by
      have := nRead h1 (by omega) id m
      rw [hp] at this
      exact this)
    have HR := hide (show ∀ w1, Mid W w1 n v l l' (N + 30) (K + 1) → Calls Try.prog 29 #[v, .int .i64 id, .int .i64 m] w1 (Px fun v' e w' => e = .returned (.tuple #[v', .string tx, .bool is, .int .i64 f]) ∧ Mid W w' n v' l' l' (N + 30) (K + 1)) from fun w1 h1 => by
      have hb := h1.below.size
      refine (rRead_any m v l W.heap.size id w1 h1.own (by omega) (by omega) (fun c hcm => (hc c hcm).mono (by omega))).mono ?_
      rintro e w' ⟨v', he, hO, hk⟩
      rw [hp] at he hO
      exact ⟨v', he, h1.row hk hO⟩)
    clear hp
    have nf : (f == f) = true := by simp
    have nt : (tx == tx) = true := ba_self tx
    have ni : (is == is) = true := by simp
    go_enter Try.func21, Try.ntmps21
    have hM1 := h.keep ((Keep.refl [] w).alloc (.cells #[.int .i64 3, .int .i64 id, .int .i64 m, .string s] ActT))
    have hX := Blk.new w #[.int .i64 3, .int .i64 id, .int .i64 m, .string s] ActT
    have x0 := hX.cell 0
    have x1 := hX.cell 1
    have x2 := hX.cell 2
    have x3 := hX.cell 3
    simp at x0 x1 x2 x3
    clear h
    go_wp2_with fail
    refine (cut01_any s 30 _).mono ?_
    rintro e w1 ⟨rfl, rfl⟩
    go_wp2_with fail
    refine (HN.out _ hM1).mono ?_
    rintro e w2 ⟨rfl, hM2, hA2⟩
    have hX2 := hA2 _ _ hX
    have y1 := hX2.cell 1
    have y2 := hX2.cell 2
    simp at y1 y2
    clear hA2 hX x0 x1 x2 x3 hM1
    go_wp2_with fail
    refine (HR.out _ hM2).mono ?_
    rintro e w3 ⟨v', rfl, hM3⟩
    go_wp2_with fail
    go_ret2
    exact ⟨(v', l'), rfl, hM3, hlen⟩
  have k3' : (kd == 3) = false := by simpa using k3
  clear k3
  by_cases k4 : kd = 4
  · subst k4
    obtain ⟨l', f, hp⟩ : ∃ l' f, R19.pCut l id m = (l', f) := ⟨_, _, rfl⟩
    have hlen : l'.length ≤ l.length + 1 := by have := R19.pc_len l id m; rw [hp] at this; first | (simp only at this; omega) | omega
    have HN := hide (show ∀ w1, Mid W w1 n v l l N K → Calls Try.prog 20 #[ptrTo n, .int .i64 id, .int .i64 m] w1 fun e w' => e = .returned (.int .i64 f) ∧ Mid W w' n v l l' (N + 30) (K + 1) ∧ ∀ q cs, Blk w1 q cs ActT → Blk w' q cs ActT from fun w1 h1 => by
      have := nCut h1 (by omega) id m
      rw [hp] at this
      exact this)
    have HR := hide (show ∀ w1, Mid W w1 n v l l' (N + 30) (K + 1) → Calls Try.prog 30 #[v, .int .i64 id, .int .i64 m] w1 (Px fun v' e w' => e = .returned (.tuple #[v', .int .i64 f]) ∧ Mid W w' n v' l' l' (N + 30) (K + 1)) from fun w1 h1 => by
      have hb := h1.below.size
      refine (rCut_any m v l W.heap.size id w1 h1.own (by omega) (by omega) (fun c hcm => (hc c hcm).mono (by omega))).mono ?_
      rintro e w' ⟨v', he, hO, hk⟩
      rw [hp] at he hO
      exact ⟨v', he, h1.row hk hO⟩)
    clear hp
    have nf : (f == f) = true := by simp
    go_enter Try.func21, Try.ntmps21
    have hM1 := h.keep ((Keep.refl [] w).alloc (.cells #[.int .i64 4, .int .i64 id, .int .i64 m, .string s] ActT))
    have hX := Blk.new w #[.int .i64 4, .int .i64 id, .int .i64 m, .string s] ActT
    have x0 := hX.cell 0
    have x1 := hX.cell 1
    have x2 := hX.cell 2
    have x3 := hX.cell 3
    simp at x0 x1 x2 x3
    clear h
    go_wp2_with fail
    refine (cut01_any s 30 _).mono ?_
    rintro e w1 ⟨rfl, rfl⟩
    go_wp2_with fail
    refine (HN.out _ hM1).mono ?_
    rintro e w2 ⟨rfl, hM2, hA2⟩
    have hX2 := hA2 _ _ hX
    have y1 := hX2.cell 1
    have y2 := hX2.cell 2
    simp at y1 y2
    clear hA2 hX x0 x1 x2 x3 hM1
    go_wp2_with fail
    refine (HR.out _ hM2).mono ?_
    rintro e w3 ⟨v', rfl, hM3⟩
    go_wp2_with fail
    go_ret2
    exact ⟨(v', l'), rfl, hM3, hlen⟩
  have k4' : (kd == 4) = false := by simpa using k4
  clear k4
  by_cases k5 : kd = 5
  · subst k5
    obtain ⟨l', f, hp⟩ : ∃ l' f, R19.pSay l id (cutS s 30) = (l', f) := ⟨_, _, rfl⟩
    have hlen : l'.length ≤ l.length + 1 := by have := R19.ps_len l id (cutS s 30); rw [hp] at this; first | (simp only at this; omega) | omega
    have HN := hide (show ∀ w1, Mid W w1 n v l l N K → Calls Try.prog 24 #[ptrTo n, .int .i64 id, .string (cutS s 30)] w1 fun e w' => e = .returned (.int .i64 f) ∧ Mid W w' n v l l' (N + 30) (K + 1) ∧ ∀ q cs, Blk w1 q cs ActT → Blk w' q cs ActT from fun w1 h1 => by
      have := nSay h1 (by omega) id (cutS s 30) hs
      rw [hp] at this
      exact this)
    have HR := hide (show ∀ w1, Mid W w1 n v l l' (N + 30) (K + 1) → Calls Try.prog 31 #[v, .int .i64 id, .string (cutS s 30)] w1 (Px fun v' e w' => e = .returned (.tuple #[v', .int .i64 f]) ∧ Mid W w' n v' l' l' (N + 30) (K + 1)) from fun w1 h1 => by
      have hb := h1.below.size
      refine (rSay_any (cutS s 30) v l W.heap.size id w1 h1.own (by omega) (by omega) (fun c hcm => by have := (hc c hcm).2.2.2; omega)).mono ?_
      rintro e w' ⟨v', he, hO, hk⟩
      rw [hp] at he hO
      exact ⟨v', he, h1.row hk hO⟩)
    clear hp
    have nf : (f == f) = true := by simp
    go_enter Try.func21, Try.ntmps21
    have hM1 := h.keep ((Keep.refl [] w).alloc (.cells #[.int .i64 5, .int .i64 id, .int .i64 m, .string s] ActT))
    have hX := Blk.new w #[.int .i64 5, .int .i64 id, .int .i64 m, .string s] ActT
    have x0 := hX.cell 0
    have x1 := hX.cell 1
    have x3 := hX.cell 3
    simp at x0 x1 x3
    clear h
    go_wp2_with fail
    refine (cut01_any s 30 _).mono ?_
    rintro e w1 ⟨rfl, rfl⟩
    go_wp2_with fail
    refine (HN.out _ hM1).mono ?_
    rintro e w2 ⟨rfl, hM2, hA2⟩
    have hX2 := hA2 _ _ hX
    have y1 := hX2.cell 1
    simp at y1
    clear hA2 hX x0 x1 x3 hM1
    go_wp2_with fail
    refine (HR.out _ hM2).mono ?_
    rintro e w3 ⟨v', rfl, hM3⟩
    go_wp2_with fail
    go_ret2
    exact ⟨(v', l'), rfl, hM3, hlen⟩
  have k5' : (kd == 5) = false := by simpa using k5
  clear k5
  by_cases k6 : kd = 6
  · subst k6
    obtain ⟨l', f, hp⟩ : ∃ l' f, R19.pHang l id = (l', f) := ⟨_, _, rfl⟩
    have hlen : l'.length ≤ l.length + 1 := by have := R19.ph_len l id; rw [hp] at this; first | (simp only at this; omega) | omega
    have HN := hide (show ∀ w1, Mid W w1 n v l l N K → Calls Try.prog 25 #[ptrTo n, .int .i64 id] w1 fun e w' => e = .returned (.int .i64 f) ∧ Mid W w' n v l l' (N + 30) (K + 1) ∧ ∀ q cs, Blk w1 q cs ActT → Blk w' q cs ActT from fun w1 h1 => by
      have := nHang h1 (by omega) id
      rw [hp] at this
      exact this)
    have HR := hide (show ∀ w1, Mid W w1 n v l l' (N + 30) (K + 1) → Calls Try.prog 32 #[v, .int .i64 id] w1 (Px fun v' e w' => e = .returned (.tuple #[v', .int .i64 f]) ∧ Mid W w' n v' l' l' (N + 30) (K + 1)) from fun w1 h1 => by
      have hb := h1.below.size
      refine (rHang_any v l W.heap.size id w1 h1.own (by omega) (by omega)).mono ?_
      rintro e w' ⟨v', he, hO, hk⟩
      rw [hp] at he hO
      exact ⟨v', he, h1.row hk hO⟩)
    clear hp
    have nf : (f == f) = true := by simp
    go_enter Try.func21, Try.ntmps21
    have hM1 := h.keep ((Keep.refl [] w).alloc (.cells #[.int .i64 6, .int .i64 id, .int .i64 m, .string s] ActT))
    have hX := Blk.new w #[.int .i64 6, .int .i64 id, .int .i64 m, .string s] ActT
    have x0 := hX.cell 0
    have x1 := hX.cell 1
    have x3 := hX.cell 3
    simp at x0 x1 x3
    clear h
    go_wp2_with fail
    refine (cut01_any s 30 _).mono ?_
    rintro e w1 ⟨rfl, rfl⟩
    go_wp2_with fail
    refine (HN.out _ hM1).mono ?_
    rintro e w2 ⟨rfl, hM2, hA2⟩
    have hX2 := hA2 _ _ hX
    have y1 := hX2.cell 1
    simp at y1
    clear hA2 hX x0 x1 x3 hM1
    go_wp2_with fail
    refine (HR.out _ hM2).mono ?_
    rintro e w3 ⟨v', rfl, hM3⟩
    go_wp2_with fail
    go_ret2
    exact ⟨(v', l'), rfl, hM3, hlen⟩
  have k6' : (kd == 6) = false := by simpa using k6
  clear k6
  have hX := Blk.new w #[.int .i64 kd, .int .i64 id, .int .i64 m, .string s] ActT
  have x0 := hX.cell 0
  have x3 := hX.cell 3
  simp at x0 x3
  go_enter Try.func21, Try.ntmps21
  have hM1 := h.keep ((Keep.refl [] w).alloc (.cells #[.int .i64 kd, .int .i64 id, .int .i64 m, .string s] ActT))
  clear h hX
  go_wp2_with fail
  refine (cut01_any s 30 _).mono ?_
  rintro e w1 ⟨rfl, rfl⟩
  go_wp2_with fail
  go_ret2
  exact ⟨(v, l), rfl, hM1.mono (by omega) (by omega), Nat.le_succ _⟩
end Go.Proofs.Ytaahmjamkllphaa
