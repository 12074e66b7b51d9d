/- Layer 19: each call of package pipe goes with the document's list (plain facts and the net's contracts joined). -/
import Derived.Test.YtaahmjamkllphaaL19r
import Derived.Test.YtaahmjamkllphaaNet2
namespace Go.Proofs.Ytaahmjamkllphaa
open Go.RowKit Go.Proofs.Ytaahmjamkllphaa.PHang Go.Proofs.YtaahmjamkllphaaW.PrintWords
set_option maxRecDepth 10000
set_option linter.unusedVariables false
set_option maxHeartbeats 2000000

abbrev LConn := List R19.One

namespace R19
theorem ba_size (a : ByteArray) (i : Nat) : (a.extract i a.size).size = a.size - i := by rw [ByteArray.size_extract]; omega

theorem ba_app (a s : ByteArray) (i : Nat) (h : i ≤ a.size) : (a ++ s).extract i (a ++ s).size = a.extract i a.size ++ s := by
  rw [ByteArray.extract_append, ByteArray.size_append, show i - a.size = 0 by omega, show a.size + s.size - a.size = s.size by omega, ByteArray.extract_zero_size]
  congr 1
  have e : a.size = a.data.size := rfl
  apply ByteArray.ext
  rw [ByteArray.data_extract, ByteArray.data_extract]
  apply Array.ext
  · simp; try omega
  · intro k h1 h2; simp

theorem ba_ext (a : ByteArray) (i m : Nat) (h : i + m ≤ a.size) : (a.extract i a.size).extract 0 m = a.extract i (i + m) := by
  rw [ByteArray.extract_extract]; congr 1; omega

theorem ba_drop (a : ByteArray) (i m : Nat) : (a.extract i a.size).extract m (a.extract i a.size).size = a.extract (i + m) a.size := by
  rw [ByteArray.extract_extract, ba_size]
  by_cases h : i ≤ a.size
  · congr 1; omega
  · apply ByteArray.ext
    rw [ByteArray.data_extract, ByteArray.data_extract]
    have e : a.size = a.data.size := rfl
    apply Array.ext
    · simp; omega
    · intro k h1 h2; simp at h1; omega

theorem ba_pre (a : ByteArray) (i m : Nat) (h : i + m ≤ a.size) : (a.extract 0 (i + m)).extract i (a.extract 0 (i + m)).size = a.extract i (i + m) := by
  rw [ByteArray.extract_extract, ByteArray.size_extract]
  congr 1 <;> omega

theorem k_kk {N : Nat} {c : One} (h : Okc N c) (m : Int) : ((cn c).p.k m : Int) = kk c m ∧ c.f2.toNat + (cn c).p.k m ≤ c.f1.size ∧ (c.f2 + kk c m).toNat = c.f2.toNat + (cn c).p.k m := by
  obtain ⟨h1, h2, _⟩ := h
  have hs := ba_size c.f1 c.f2.toNat
  have e : ((cn c).p.k m : Int) = kk c m := by
    unfold Pp.k kk
    show (((max 0 (min m ((c.f1.extract c.f2.toNat c.f1.size).size : Int))).toNat : Nat) : Int) = _
    rw [hs]
    omega
  have : kk c m ≤ c.f1.size - c.f2 := by unfold kk; omega
  exact ⟨e, by omega, by omega⟩

theorem cn_write {N : Nat} {c : One} (h : Okc N c) (hc : c.f3 = false) (s : ByteArray) : cn ⟨c.f0, c.f1 ++ s, c.f2, c.f3, c.f4, c.f5⟩ = { cn c with p := (cn c).p.send s } := by
  obtain ⟨h1, h2, _⟩ := h
  unfold cn Pp.send
  simp only [hc, Bool.false_eq_true, if_false]
  rw [ba_app c.f1 s c.f2.toNat (by omega)]

theorem cn_cut {N : Nat} {c : One} (h : Okc N c) (m : Int) : cn ⟨c.f0, c.f1.extract 0 (c.f2 + kk c m).toNat, c.f2, true, c.f4, c.f5⟩ = { cn c with p := (cn c).p.cut m } := by
  obtain ⟨e1, e2, e3⟩ := k_kk h m
  rw [e3]
  show Cn.mk ⟨(c.f1.extract 0 (c.f2.toNat + (cn c).p.k m)).extract c.f2.toNat (c.f1.extract 0 (c.f2.toNat + (cn c).p.k m)).size, c.f2, true⟩ c.f4 c.f5 = Cn.mk ⟨(c.f1.extract c.f2.toNat c.f1.size).extract 0 ((cn c).p.k m), c.f2, true⟩ c.f4 c.f5
  rw [ba_pre _ _ _ e2, ba_ext _ _ _ e2]

theorem cn_read {N : Nat} {c : One} (h : Okc N c) (m : Int) : cn ⟨c.f0, c.f1, c.f2 + kk c m, c.f3, c.f4, c.f5⟩ = { cn c with p := (cn c).p.chunk m } := by
  obtain ⟨e1, e2, e3⟩ := k_kk h m
  show Cn.mk ⟨c.f1.extract (c.f2 + kk c m).toNat c.f1.size, c.f2 + kk c m, c.f3⟩ c.f4 c.f5 = Cn.mk ⟨(c.f1.extract c.f2.toNat c.f1.size).extract ((cn c).p.k m) (c.f1.extract c.f2.toNat c.f1.size).size, c.f2 + ((cn c).p.k m : Int), c.f3⟩ c.f4 c.f5
  rw [ba_drop, e3, e1]

theorem read_text {N : Nat} {c : One} (h : Okc N c) (m : Int) : (cn c).p.wait.extract 0 ((cn c).p.k m) = c.f1.extract c.f2.toNat (c.f2 + kk c m).toNat := by
  obtain ⟨e1, e2, e3⟩ := k_kk h m
  rw [e3]
  exact ba_ext _ _ _ e2

theorem read_end {N : Nat} {c : One} (h : Okc N c) (m : Int) : ((cn c).p.chunk m).ended = (c.f3 && decide (c.f2 + kk c m = c.f1.size)) := by
  obtain ⟨e1, e2, e3⟩ := k_kk h m
  obtain ⟨h1, h2, _⟩ := h
  show (c.f3 && decide (((c.f1.extract c.f2.toNat c.f1.size).extract ((cn c).p.k m) (c.f1.extract c.f2.toNat c.f1.size).size).size = 0)) = _
  congr 1
  rw [ba_drop, ba_size]
  apply decide_eq_decide.2
  omega

theorem ok_write {N : Nat} {c : One} (h : Okc N c) (s : ByteArray) (hs : s.size ≤ 30) : Okc (N + 30) ⟨c.f0, c.f1 ++ s, c.f2, c.f3, c.f4, c.f5⟩ := by
  obtain ⟨h1, h2, h3, h4⟩ := h
  have := ByteArray.size_append (a := c.f1) (b := s)
  exact ⟨h1, by simp only; omega, by simp only; omega, by simp only; omega⟩

theorem ok_say {N : Nat} {c : One} (h : Okc N c) (s : ByteArray) (hs : s.size ≤ 30) : Okc (N + 30) ⟨c.f0, c.f1, c.f2, c.f3, c.f4 ++ s, c.f5⟩ := by
  obtain ⟨h1, h2, h3, h4⟩ := h
  have := ByteArray.size_append (a := c.f4) (b := s)
  exact ⟨h1, by simp only; omega, by simp only; omega, by simp only; omega⟩

theorem ok_cut {N : Nat} {c : One} (h : Okc N c) (m : Int) : Okc N ⟨c.f0, c.f1.extract 0 (c.f2 + kk c m).toNat, c.f2, true, c.f4, c.f5⟩ := by
  obtain ⟨e1, e2, e3⟩ := k_kk h m
  obtain ⟨h1, h2, h3, h4⟩ := h
  have : (c.f1.extract 0 (c.f2.toNat + (cn c).p.k m)).size = c.f2.toNat + (cn c).p.k m := by rw [ByteArray.size_extract]; omega
  rw [e3]
  exact ⟨h1, by simp only; omega, by simp only; omega, h4⟩

theorem ok_read {N : Nat} {c : One} (h : Okc N c) (m : Int) : Okc N ⟨c.f0, c.f1, c.f2 + kk c m, c.f3, c.f4, c.f5⟩ := by
  obtain ⟨e1, e2, e3⟩ := k_kk h m
  obtain ⟨h1, h2, h3, h4⟩ := h
  exact ⟨by simp only; omega, by simp only; omega, h3, h4⟩

theorem wait_le {N : Nat} {c : One} (h : Okc N c) : (cn c).p.wait.size ≤ N := by
  obtain ⟨h1, h2, h3, h4⟩ := h
  show (c.f1.extract c.f2.toNat c.f1.size).size ≤ N
  rw [ba_size]; omega
end R19

/-- The net at n in step with the list l; the document's row is v, of the list lv. -/
structure Mid (W w : World) (n : Nat) (v : Value) (lv l : LConn) (N K : Nat) : Prop where
  own : Own kC ConnT W.heap.size w v lv
  below : Below W.heap.size W w
  hn : W.heap.size ≤ n
  net : ∃ b L M, NetAt w n b L M ∧ R19.Same M l N ∧ W.heap.size ≤ b ∧ (∀ k c, AL.get L k = some c → W.heap.size ≤ c) ∧ L.length ≤ K

section
variable {W w w' : World} {n : Nat} {v v' : Value} {lv l l' : LConn} {N K N' K' : Nat}

theorem Mid.mono (h : Mid W w n v lv l N K) (h1 : N ≤ N') (h2 : K ≤ K') : Mid W w n v lv l N' K' := by
  obtain ⟨a, b, c, bb, L, M, h3, h4, h5, h6, h7⟩ := h
  exact ⟨a, b, c, bb, L, M, h3, h4.mono h1, h5, h6, by omega⟩

/-- The world went on, no old block has changed. -/
theorem Mid.keep (h : Mid W w n v lv l N K) (hk : Keep [] w w') : Mid W w' n v lv l N K := by
  obtain ⟨a, b, c, bb, L, M, h3, h4, h5, h6, h7⟩ := h
  exact ⟨a.keep hk (by simp), Keep.below_of b hk (by simp), c, bb, L, M, h3.keep hk (by simp) (by simp) (by simp), h4, h5, h6, h7⟩

theorem Mid.row (h : Mid W w n v lv l N K) (hk : Keep [] w w') (ho : Own kC ConnT W.heap.size w' v' l) : Mid W w' n v' l l N K := by
  obtain ⟨a, b, c, bb, L, M, h3, h4, h5, h6, h7⟩ := h.keep hk
  exact ⟨ho, b, c, bb, L, M, h3, h4, h5, h6, h7⟩

theorem Mid.turn (h : Mid W w n v lv l N K) {b : Nat} {L : List (Int × Nat)} {M M' : Int → Option Cn} {c : Nat} {k : Int} (hC : AL.get L k = some c) (h3 : NetAt w n b L M) (h5 : W.heap.size ≤ b) (h6 : ∀ k c, AL.get L k = some c → W.heap.size ≤ c) (h7 : L.length ≤ K') (hk : Keep [c] w w') (h3' : NetAt w' n b L M') (h4 : R19.Same M' l' N') : Mid W w' n v lv l' N' K' := by
  obtain ⟨x, _, hx⟩ := h3.conn k c hC
  exact ⟨h.own.keep hk (by simp; exact not_of_blk hx (by decide)), Keep.below_of h.below hk (by simp; exact h6 k c hC), h.hn, b, L, M', h3', h4, h5, h6, h7⟩
end

theorem netNone {w : World} {n b : Nat} {l : List (Int × Nat)} {M : Int → Option Cn} (h : NetAt w n b l M) {k : Int} (hM : M k = none) : AL.get l k = none := by
  cases hk : AL.get l k with
  | none => rfl
  | some c =>
    obtain ⟨x, hx, _⟩ := h.conn k c hk
    rw [hM] at hx
    cases hx

theorem netSome {w : World} {n b : Nat} {l : List (Int × Nat)} {M : Int → Option Cn} (h : NetAt w n b l M) {k : Int} {x : Cn} (hM : M k = some x) : ∃ c, AL.get l k = some c := by
  cases hk : AL.get l k with
  | none =>
    have := h.none k hk
    rw [hM] at this
    cases this
  | some c => exact ⟨c, rfl⟩

theorem upM_eq (M : Int → Option Cn) (k : Int) (x : Cn) (h : M k = some x) : upM M k x = M := by
  funext k'
  unfold upM
  by_cases e : k' = k
  · rw [if_pos e, e, h]
  · rw [if_neg e]

abbrev ActT : Nat := 50

theorem act_c {w w' : World} {n b : Nat} {L : List (Int × Nat)} {M : Int → Option Cn} {c : Nat} {k : Int} (h3 : NetAt w n b L M) (hC : AL.get L k = some c) (hk : Keep [c] w w') : ∀ q cs, Blk w q cs ActT → Blk w' q cs ActT := by
  intro q cs hq
  obtain ⟨x, _, hx⟩ := h3.conn k c hC
  refine hq.keep hk ?_
  simp
  rintro rfl
  obtain ⟨lo, hi, h1, _⟩ := hq
  obtain ⟨lo', hi', h2, _⟩ := hx
  rw [h1] at h2
  simp only [Option.some.injEq] at h2
  injection h2 with _ e _
  exact absurd e (by decide)

theorem act_b {w w' : World} {n b : Nat} {L : List (Int × Nat)} {M : Int → Option Cn} (h3 : NetAt w n b L M) (hk : Keep [b] w w') : ∀ q cs, Blk w q cs ActT → Blk w' q cs ActT := by
  intro q cs hq
  exact hq.keep hk (by simp; exact h3.map.ne_blk hq)

theorem getErr_none {M : Int → Option Cn} {k : Int} (h : M k = none) : getErr M k = 7 := by unfold getErr; rw [h]
theorem getErr_hung {M : Int → Option Cn} {k : Int} {x : Cn} (h : M k = some x) (hh : x.hung = true) : getErr M k = 13 := by unfold getErr; rw [h]; simp [hh]

theorem nWrite {W w : World} {n : Nat} {v : Value} {l : LConn} {N K : Nat} (h : Mid W w n v l l N K) (hN : N < 1000000) (id : Int) (s : ByteArray) (hs : s.size ≤ 30) :
    Calls Try.prog 17 #[ptrTo n, .int .i64 id, .string s] w fun e w' => e = .returned (.int .i64 (R19.pWrite l id s).2) ∧ Mid W w' n v l (R19.pWrite l id s).1 (N + 30) (K + 1) ∧ ∀ q cs, Blk w q cs ActT → Blk w' q cs ActT := by
  obtain ⟨b, L, M, h3, h4, h5, h6, h7⟩ := h.net
  cases hk : R19.lk l id with
  | none =>
    have hp : R19.pWrite l id s = (l, 7) := by unfold R19.pWrite; rw [hk]
    have hM : M id = none := by rw [h4.look, hk]; rfl
    rw [hp]
    refine (write_bad w n b L M h3 id s 7 (.inl rfl) (getErr_none hM)).mono ?_
    rintro e w' ⟨rfl, rfl⟩
    exact ⟨rfl, h.mono (by omega) (by omega), fun _ _ h => h⟩
  | some c =>
    have hM : M id = some (R19.cn c) := by rw [h4.look, hk]; rfl
    obtain ⟨hmem, hid⟩ := R19.lk_mem hk
    have hok := h4.ok c hmem
    have hw := R19.wait_le hok
    have hsd : (R19.cn c).said.size ≤ N := hok.2.2.2
    obtain ⟨q, hq⟩ := netSome h3 hM
    cases hh : c.f5 with
    | true =>
      have hp : R19.pWrite l id s = (l, 13) := by unfold R19.pWrite; simp only [hk, hh, if_true]
      rw [hp]
      refine (write_bad w n b L M h3 id s 13 (.inr rfl) (getErr_hung hM hh)).mono ?_
      rintro e w' ⟨rfl, rfl⟩
      exact ⟨rfl, h.mono (by omega) (by omega), fun _ _ h => h⟩
    | false =>
      cases hc : c.f3 with
      | true =>
        have hp : R19.pWrite l id s = (l, 13) := by unfold R19.pWrite; simp only [hk, hh, hc, Bool.false_eq_true, if_false, if_true]
        rw [hp]
        refine (write_ok w n b L M h3 id q (R19.cn c) hq hM hh s (by omega)).mono ?_
        rintro e w' ⟨rfl, h', hk'⟩
        have he : (R19.cn c).p.err = 13 := by show (if c.f3 = true then (13 : Int) else 0) = 13; rw [hc]; rfl
        have hs' : (R19.cn c).p.send s = (R19.cn c).p := by unfold Pp.send; exact if_pos hc
        have hu : upM M id { R19.cn c with p := (R19.cn c).p.send s } = M := by rw [hs']; exact upM_eq M id (R19.cn c) hM
        rw [hu] at h'
        exact ⟨by rw [he], h.turn hq h3 h5 h6 (by omega) hk' h' (h4.mono (by omega)), act_c h3 hq hk'⟩
      | false =>
      have he : (R19.cn c).p.err = 0 := by show (if c.f3 = true then (13 : Int) else 0) = 0; rw [hc]; rfl
      have hp : R19.pWrite l id s = (R19.rep l id ⟨c.f0, c.f1 ++ s, c.f2, c.f3, c.f4, c.f5⟩, 0) := by unfold R19.pWrite; simp only [hk, hh, hc, Bool.false_eq_true, if_false]
      rw [hp]
      refine (write_ok w n b L M h3 id q (R19.cn c) hq hM hh s (by omega)).mono ?_
      rintro e w' ⟨rfl, h', hk'⟩
      exact ⟨by rw [he], h.turn hq h3 h5 h6 (by omega) hk' h' ((h4.mono (Nat.le_add_right N 30)).rep (d := ⟨c.f0, c.f1 ++ s, c.f2, c.f3, c.f4, c.f5⟩) hk hid (R19.ok_write hok s hs) _ (R19.cn_write hok hc s)), act_c h3 hq hk'⟩
theorem nSay {W w : World} {n : Nat} {v : Value} {l : LConn} {N K : Nat} (h : Mid W w n v l l N K) (hN : N < 1000000) (id : Int) (s : ByteArray) (hs : s.size ≤ 30) :
    Calls Try.prog 24 #[ptrTo n, .int .i64 id, .string s] w fun e w' => e = .returned (.int .i64 (R19.pSay l id s).2) ∧ Mid W w' n v l (R19.pSay l id s).1 (N + 30) (K + 1) ∧ ∀ q cs, Blk w q cs ActT → Blk w' q cs ActT := by
  obtain ⟨b, L, M, h3, h4, h5, h6, h7⟩ := h.net
  cases hk : R19.lk l id with
  | none =>
    have hp : R19.pSay l id s = (l, 7) := by unfold R19.pSay; rw [hk]
    have hM : M id = none := by rw [h4.look, hk]; rfl
    rw [hp]
    refine (say_bad w n b L M h3 id s 7 (.inl rfl) (getErr_none hM)).mono ?_
    rintro e w' ⟨rfl, rfl⟩
    exact ⟨rfl, h.mono (by omega) (by omega), fun _ _ h => h⟩
  | some c =>
    have hM : M id = some (R19.cn c) := by rw [h4.look, hk]; rfl
    obtain ⟨hmem, hid⟩ := R19.lk_mem hk
    have hok := h4.ok c hmem
    have hw := R19.wait_le hok
    have hsd : (R19.cn c).said.size ≤ N := hok.2.2.2
    obtain ⟨q, hq⟩ := netSome h3 hM
    cases hh : c.f5 with
    | true =>
      have hp : R19.pSay l id s = (l, 13) := by unfold R19.pSay; simp only [hk, hh, if_true]
      rw [hp]
      refine (say_bad w n b L M h3 id s 13 (.inr rfl) (getErr_hung hM hh)).mono ?_
      rintro e w' ⟨rfl, rfl⟩
      exact ⟨rfl, h.mono (by omega) (by omega), fun _ _ h => h⟩
    | false =>
      have hp : R19.pSay l id s = (R19.rep l id ⟨c.f0, c.f1, c.f2, c.f3, c.f4 ++ s, c.f5⟩, 0) := by unfold R19.pSay; simp only [hk, hh, Bool.false_eq_true, if_false]
      rw [hp]
      refine (say_ok w n b L M h3 id q (R19.cn c) hq hM hh s (by omega)).mono ?_
      rintro e w' ⟨rfl, h', hk'⟩
      exact ⟨rfl, h.turn hq h3 h5 h6 (by omega) hk' h' ((h4.mono (Nat.le_add_right N 30)).rep (d := ⟨c.f0, c.f1, c.f2, c.f3, c.f4 ++ s, c.f5⟩) hk hid (R19.ok_say hok s hs) _ (by unfold R19.cn; rfl)), act_c h3 hq hk'⟩
theorem nHang {W w : World} {n : Nat} {v : Value} {l : LConn} {N K : Nat} (h : Mid W w n v l l N K) (hN : N < 1000000) (id : Int) :
    Calls Try.prog 25 #[ptrTo n, .int .i64 id] w fun e w' => e = .returned (.int .i64 (R19.pHang l id).2) ∧ Mid W w' n v l (R19.pHang l id).1 (N + 30) (K + 1) ∧ ∀ q cs, Blk w q cs ActT → Blk w' q cs ActT := by
  obtain ⟨b, L, M, h3, h4, h5, h6, h7⟩ := h.net
  cases hk : R19.lk l id with
  | none =>
    have hp : R19.pHang l id = (l, 7) := by unfold R19.pHang; rw [hk]
    have hM : M id = none := by rw [h4.look, hk]; rfl
    rw [hp]
    refine (hang_bad w n b L M h3 id 7 (.inl rfl) (getErr_none hM)).mono ?_
    rintro e w' ⟨rfl, rfl⟩
    exact ⟨rfl, h.mono (by omega) (by omega), fun _ _ h => h⟩
  | some c =>
    have hM : M id = some (R19.cn c) := by rw [h4.look, hk]; rfl
    obtain ⟨hmem, hid⟩ := R19.lk_mem hk
    have hok := h4.ok c hmem
    have hw := R19.wait_le hok
    have hsd : (R19.cn c).said.size ≤ N := hok.2.2.2
    obtain ⟨q, hq⟩ := netSome h3 hM
    cases hh : c.f5 with
    | true =>
      have hp : R19.pHang l id = (l, 13) := by unfold R19.pHang; simp only [hk, hh, if_true]
      rw [hp]
      refine (hang_bad w n b L M h3 id 13 (.inr rfl) (getErr_hung hM hh)).mono ?_
      rintro e w' ⟨rfl, rfl⟩
      exact ⟨rfl, h.mono (by omega) (by omega), fun _ _ h => h⟩
    | false =>
      have hp : R19.pHang l id = (R19.rep l id ⟨c.f0, c.f1, c.f2, c.f3, c.f4, true⟩, 0) := by unfold R19.pHang; simp only [hk, hh, Bool.false_eq_true, if_false]
      rw [hp]
      refine (hang_ok w n b L M h3 id q (R19.cn c) hq hM hh).mono ?_
      rintro e w' ⟨rfl, h', hk'⟩
      exact ⟨rfl, h.turn hq h3 h5 h6 (by omega) hk' h' ((h4.rep (d := ⟨c.f0, c.f1, c.f2, c.f3, c.f4, true⟩) hk hid hok _ (by unfold R19.cn; rfl)).mono (Nat.le_add_right N 30)), act_c h3 hq hk'⟩
theorem nCut {W w : World} {n : Nat} {v : Value} {l : LConn} {N K : Nat} (h : Mid W w n v l l N K) (hN : N < 1000000) (id : Int) (m : Int) :
    Calls Try.prog 20 #[ptrTo n, .int .i64 id, .int .i64 m] w fun e w' => e = .returned (.int .i64 (R19.pCut l id m).2) ∧ Mid W w' n v l (R19.pCut l id m).1 (N + 30) (K + 1) ∧ ∀ q cs, Blk w q cs ActT → Blk w' q cs ActT := by
  obtain ⟨b, L, M, h3, h4, h5, h6, h7⟩ := h.net
  cases hk : R19.lk l id with
  | none =>
    have hp : R19.pCut l id m = (l, 7) := by unfold R19.pCut; rw [hk]
    have hM : M id = none := by rw [h4.look, hk]; rfl
    rw [hp]
    refine (cut_bad w n b L M h3 id m 7 (.inl rfl) (getErr_none hM)).mono ?_
    rintro e w' ⟨rfl, rfl⟩
    exact ⟨rfl, h.mono (by omega) (by omega), fun _ _ h => h⟩
  | some c =>
    have hM : M id = some (R19.cn c) := by rw [h4.look, hk]; rfl
    obtain ⟨hmem, hid⟩ := R19.lk_mem hk
    have hok := h4.ok c hmem
    have hw := R19.wait_le hok
    have hsd : (R19.cn c).said.size ≤ N := hok.2.2.2
    obtain ⟨q, hq⟩ := netSome h3 hM
    cases hh : c.f5 with
    | true =>
      have hp : R19.pCut l id m = (l, 13) := by unfold R19.pCut; simp only [hk, hh, if_true]
      rw [hp]
      refine (cut_bad w n b L M h3 id m 13 (.inr rfl) (getErr_hung hM hh)).mono ?_
      rintro e w' ⟨rfl, rfl⟩
      exact ⟨rfl, h.mono (by omega) (by omega), fun _ _ h => h⟩
    | false =>
      have hp : R19.pCut l id m = (R19.rep l id ⟨c.f0, c.f1.extract 0 (c.f2 + R19.kk c m).toNat, c.f2, true, c.f4, c.f5⟩, 0) := by unfold R19.pCut; simp only [hk, hh, Bool.false_eq_true, if_false]
      rw [hp]
      refine (cut_ok w n b L M h3 id q (R19.cn c) hq hM hh m (by omega)).mono ?_
      rintro e w' ⟨rfl, h', hk'⟩
      exact ⟨rfl, h.turn hq h3 h5 h6 (by omega) hk' h' ((h4.rep (d := ⟨c.f0, c.f1.extract 0 (c.f2 + R19.kk c m).toNat, c.f2, true, c.f4, c.f5⟩) hk hid (R19.ok_cut hok m) _ (R19.cn_cut hok m)).mono (Nat.le_add_right N 30)), act_c h3 hq hk'⟩
theorem nRead {W w : World} {n : Nat} {v : Value} {l : LConn} {N K : Nat} (h : Mid W w n v l l N K) (hN : N < 1000000) (id : Int) (m : Int) :
    Calls Try.prog 18 #[ptrTo n, .int .i64 id, .int .i64 m] w fun e w' => e = .returned (.tuple #[.string (R19.pRead l id m).2.1, .bool (R19.pRead l id m).2.2.1, .int .i64 (R19.pRead l id m).2.2.2]) ∧ Mid W w' n v l (R19.pRead l id m).1 (N + 30) (K + 1) ∧ ∀ q cs, Blk w q cs ActT → Blk w' q cs ActT := by
  obtain ⟨b, L, M, h3, h4, h5, h6, h7⟩ := h.net
  cases hk : R19.lk l id with
  | none =>
    have hp : R19.pRead l id m = (l, ⟨#[]⟩, false, 7) := by unfold R19.pRead; rw [hk]
    have hM : M id = none := by rw [h4.look, hk]; rfl
    rw [hp]
    refine (read_bad w n b L M h3 id m 7 (.inl rfl) (getErr_none hM)).mono ?_
    rintro e w' ⟨rfl, rfl⟩
    exact ⟨rfl, h.mono (by omega) (by omega), fun _ _ h => h⟩
  | some c =>
    have hM : M id = some (R19.cn c) := by rw [h4.look, hk]; rfl
    obtain ⟨hmem, hid⟩ := R19.lk_mem hk
    have hok := h4.ok c hmem
    have hw := R19.wait_le hok
    have hsd : (R19.cn c).said.size ≤ N := hok.2.2.2
    obtain ⟨q, hq⟩ := netSome h3 hM
    cases hh : c.f5 with
    | true =>
      have hp : R19.pRead l id m = (l, ⟨#[]⟩, false, 13) := by unfold R19.pRead; simp only [hk, hh, if_true]
      rw [hp]
      refine (read_bad w n b L M h3 id m 13 (.inr rfl) (getErr_hung hM hh)).mono ?_
      rintro e w' ⟨rfl, rfl⟩
      exact ⟨rfl, h.mono (by omega) (by omega), fun _ _ h => h⟩
    | false =>
      have hp : R19.pRead l id m = (R19.rep l id ⟨c.f0, c.f1, c.f2 + R19.kk c m, c.f3, c.f4, c.f5⟩, c.f1.extract c.f2.toNat (c.f2 + R19.kk c m).toNat, c.f3 && decide (c.f2 + R19.kk c m = c.f1.size), 0) := by unfold R19.pRead; simp only [hk, hh, Bool.false_eq_true, if_false]
      rw [hp]
      refine (read_ok w n b L M h3 id q (R19.cn c) hq hM hh m (by omega) ⟨hok.1, by have := hok.2.1; have := hok.2.2.1; show c.f2 < _; omega⟩).mono ?_
      rintro e w' ⟨rfl, h', hk'⟩
      exact ⟨by rw [R19.read_text hok, R19.read_end hok], h.turn hq h3 h5 h6 (by omega) hk' h' ((h4.rep (d := ⟨c.f0, c.f1, c.f2 + R19.kk c m, c.f3, c.f4, c.f5⟩) hk hid (R19.ok_read hok m) _ (R19.cn_read hok m)).mono (Nat.le_add_right N 30)), act_c h3 hq hk'⟩

theorem nOpen {W w : World} {n : Nat} {v : Value} {l : LConn} {N K : Nat} (h : Mid W w n v l l N K) (id : Int) :
    Calls Try.prog 16 #[ptrTo n, .int .i64 id] w fun e w' => e = .returned (.int .i64 (R19.pOpen l id).2) ∧ Mid W w' n v l (R19.pOpen l id).1 (N + 30) (K + 1) ∧ ∀ q cs, Blk w q cs ActT → Blk w' q cs ActT := by
  obtain ⟨b, L, M, h3, h4, h5, h6, h7⟩ := h.net
  cases hk : R19.lk l id with
  | none =>
    have hp : R19.pOpen l id = (R19.ins l id, 0) := by unfold R19.pOpen; rw [hk]
    have hM : M id = none := by rw [h4.look, hk]; rfl
    rw [hp]
    refine (open_new w n b L M h3 id (netNone h3 hM)).mono ?_
    rintro e w' ⟨rfl, h', hk'⟩
    refine ⟨rfl, ⟨h.own.keep hk' (by simp; exact not_of_map h3.map _), Keep.below_of h.below hk' (by simp; exact h5), h.hn, b, _, _, h', (h4.ins hk).mono (by omega), h5, fun k c hc => ?_, ?_⟩, act_b h3 hk'⟩
    · rw [AL.get_set] at hc
      split at hc
      · cases hc; exact h.below.size
      · exact h6 k c hc
    · rw [AL.length_set]; split <;> omega
  | some c =>
    have hp : R19.pOpen l id = (l, 8) := by unfold R19.pOpen; rw [hk]
    have hM : M id = some (R19.cn c) := by rw [h4.look, hk]; rfl
    obtain ⟨q, hq⟩ := netSome h3 hM
    rw [hp]
    refine (open_there w n b L M h3 id _ q hq hM).mono ?_
    rintro e w' ⟨rfl, rfl⟩
    exact ⟨rfl, h.mono (by omega) (by omega), fun _ _ h => h⟩


theorem R19.pw_len (l : LConn) (id : Int) (s : ByteArray) : (R19.pWrite l id s).1.length = l.length := by
  unfold R19.pWrite; split
  · rfl
  · split
    · rfl
    · split
      · rfl
      · exact R19.rep_len _ _ _
theorem R19.ps_len (l : LConn) (id : Int) (s : ByteArray) : (R19.pSay l id s).1.length = l.length := by
  unfold R19.pSay; split
  · rfl
  · split
    · rfl
    · exact R19.rep_len _ _ _
theorem R19.ph_len (l : LConn) (id : Int) : (R19.pHang l id).1.length = l.length := by
  unfold R19.pHang; split
  · rfl
  · split
    · rfl
    · exact R19.rep_len _ _ _
theorem R19.pc_len (l : LConn) (id m : Int) : (R19.pCut l id m).1.length = l.length := by
  unfold R19.pCut; split
  · rfl
  · split
    · rfl
    · exact R19.rep_len _ _ _
theorem R19.pr_len (l : LConn) (id m : Int) : (R19.pRead l id m).1.length = l.length := by
  unfold R19.pRead; split
  · rfl
  · split
    · rfl
    · exact R19.rep_len _ _ _
theorem R19.po_len (l : LConn) (id : Int) : (R19.pOpen l id).1.length ≤ l.length + 1 := by
  unfold R19.pOpen; split
  · exact Nat.le_of_eq (R19.ins_len _ _)
  · exact Nat.le_succ _

theorem Mid.okc {W w : World} {n : Nat} {v : Value} {lv l : LConn} {N K : Nat} (h : Mid W w n v lv l N K) : ∀ c ∈ l, R19.Okc N c := by
  obtain ⟨_, _, _, b, L, M, _, h4, _⟩ := h
  exact h4.ok
end Go.Proofs.Ytaahmjamkllphaa
