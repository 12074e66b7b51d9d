/- What came and what waits is what was sent: the walk. -/
import Derived.Test.YtaahmjamkllphaaL19h
namespace Go.Proofs.Ytaahmjamkllphaa
open Go.RowKit
set_option maxRecDepth 10000
set_option linter.unusedVariables false
set_option maxHeartbeats 1000000

theorem Pp.k_le (x : Pp) (n : Int) : x.k n ≤ x.wait.size := by unfold Pp.k; omega

/-- A connection that neither ended nor was hung up: C bytes came, W wait. -/
def Run (x : Cn) (C W : Nat) : Prop := x.hung = false ∧ x.p.closed = false ∧ x.p.came = C ∧ x.p.wait.size = W

theorem st_writeR (w0 w : World) (n b c : Nat) (k : Int) (x : Cn) (h : St w0 w n b c k x) (C W : Nat) (hR : Run x C W) (s : ByteArray) (hs : W + s.size < 1000000000) :
    Calls Try.prog 17 #[ptrTo n, .int .i64 k, .string s] w (Px fun (x' : Cn) e w' => e = .returned (.int .i64 0) ∧ St w0 w' n b c k x' ∧ Run x' C (W + s.size)) := by
  obtain ⟨h1, h2, h3, h4⟩ := hR
  refine (st_write w0 w n b c k x h h1 s (by omega)).mono ?_
  rintro e w1 ⟨rfl, hS⟩
  refine ⟨_, by unfold Pp.err; rw [h2]; rfl, hS, h1, ?_, ?_, ?_⟩ <;> simp [Pp.send, h2, h3, h4]

theorem st_readR (w0 w : World) (n b c : Nat) (k : Int) (x : Cn) (h : St w0 w n b c k x) (C W : Nat) (hR : Run x C W) (m : Int) (hs : W < 1000000000) (hc : C < 1000000000) :
    Calls Try.prog 18 #[ptrTo n, .int .i64 k, .int .i64 m] w (Px fun (y : ByteArray × Bool × Cn) e w' => e = .returned (.tuple #[.string y.1, .bool y.2.1, .int .i64 0]) ∧ St w0 w' n b c k y.2.2 ∧ y.1.size ≤ W ∧ Run y.2.2 (C + y.1.size) (W - y.1.size)) := by
  obtain ⟨h1, h2, h3, h4⟩ := hR
  refine (st_read w0 w n b c k x h h1 m (by omega) (by omega)).mono ?_
  rintro e w1 ⟨rfl, hS⟩
  have hk := x.p.k_le m
  have e1 : (x.p.wait.extract 0 (x.p.k m)).size = x.p.k m := by simp; omega
  refine ⟨(x.p.wait.extract 0 (x.p.k m), _, _), rfl, hS, ?_, h1, h2, ?_, ?_⟩
  · show (x.p.wait.extract 0 (x.p.k m)).size ≤ W
    rw [e1]; omega
  · show (x.p.chunk m).came = ((C + (x.p.wait.extract 0 (x.p.k m)).size : Nat) : Int)
    rw [e1]; simp [Pp.chunk, h3]
  · show (x.p.chunk m).wait.size = W - (x.p.wait.extract 0 (x.p.k m)).size
    rw [e1]; simp [Pp.chunk]; omega

def sumRel (w : World) (n b c : Nat) (len : Nat) (sent came i : Value) (wr : World) : Prop :=
  ∃ (k C W : Nat) (x : Cn), i = .int .i64 k ∧ sent = .int .i64 (C + W : Nat) ∧ came = .int .i64 C ∧ k ≤ len ∧ k ≤ 20 ∧ C + W ≤ 30 * k ∧ Run x C W ∧ St w wr n b c 2 x

theorem fltI (a : Int) (h : 0 ≤ a) : FloatKind.f64.format.order (FloatKind.f64.nearest a) (floatOfInt FloatKind.f64 a) = some .eq := flt_self a h

theorem sums_walk (a0 : Option Addr) (len0 cap0 : Nat) (z0 : List ByteArray) (a1 : Option Addr) (len1 cap1 : Nat) (z1 : List Int) (w : World) (r0 : Sh.Rd w (.slice .str) z0 [.slice a0 len0 cap0]) (r1 : Sh.Rd w (.slice (.int .i64)) z1 [.slice a1 len1 cap1]) :
    Calls Try.prog 4 #[.slice a0 len0 cap0, .slice a1 len1 cap1] w fun e w' => e = .returned (.bool true) ∧ Below w.heap.size w w' := by
  go_enter Try.func4, Try.ntmps4
  go_wp2_with fail
  refine (awake19 _).mono ?_
  rintro e w2 ⟨rfl, hK2⟩
  go_wp2_with fail
  refine (new_any _).mono ?_
  rintro e w3 ⟨⟨n, b⟩, rfl, hN, hK3, hn, hb⟩
  have hsz2 := hK2.size
  go_wp2_with fail
  refine (st_open w w3 n b hN (hK2.then hK3) (by omega) (by omega) 2).mono ?_
  rintro e w4 ⟨c, rfl, h4⟩
  clear hN hK3 hn hb
  go_wp2_with fail
  go_loopw [6, 7, 8] (fun st cm i wr => sumRel w n b c len0 st cm i wr) (fun _ _ i _ => 20 - (intOf i).toNat)
  case atStart => exact ⟨0, 0, 0, _, rfl, rfl, rfl, by omega, by omega, by omega, ⟨rfl, rfl, rfl, rfl⟩, h4⟩
  case round =>
    obtain ⟨k, C, W, x, rfl, rfl, rfl, hk1, hk2, hCW, hR, hS⟩ := hrel
    clear h4
    have HR := hide hR
    clear hR
    by_cases hlt : k < len0 ∧ k < 20
    · obtain ⟨hlt, h10⟩ := hlt
      obtain ⟨bb, off, rfl, hbb, hc⟩ := slice_str r0 (by omega)
      have hcell := (hS.kp.cell (p := ⟨bb, off + k, none⟩) hbb (by simp)).trans (hc k hlt)
      clear hc
      generalize List.getD z0 k ByteArray.empty = s at hcell
      have hcs := cutS_size s 30
      obtain ⟨s', hs'⟩ : ∃ s', cutS s 30 = s' := ⟨_, rfl⟩
      have HS' := hide hs'
      rw [hs'] at hcs
      clear hs'
      by_cases hk3 : k < len1
      · obtain ⟨b2, off2, rfl, hb2, hc2⟩ := Sh.slice_int r1 (by omega)
        obtain ⟨hcell2, _⟩ := hc2 k hk3
        clear hc2
        generalize List.getD z1 k 0 = m at hcell2
        have HC := hide hcell2
        clear hcell2
        go_wp2_with fail
        refine (cut01_any s 30 _).mono ?_
        rintro e w5 ⟨rfl, rfl⟩
        rw [HS'.out]
        go_wp2_with fail
        refine (st_writeR _ _ _ _ _ _ x hS C W HR.out s' (by omega)).mono ?_
        rintro e w6 ⟨x6, rfl, h6, R6⟩
        have HR6 := hide R6
        clear R6
        have hcell6 := (h6.kp.cell (p := ⟨b2, off2 + k, none⟩) hb2 (by simp)).trans HC.out
        go_wp2_with fail
        refine (st_readR _ _ _ _ _ _ x6 h6 C (W + s'.size) HR6.out m (by omega) (by omega)).mono ?_
        rintro e w7 ⟨⟨t, en, x7⟩, rfl, h7, ht, R7⟩
        simp only at h7 ht R7
        have HR7 := hide R7
        clear R7
        go_wp2_with fail
        refine (st_stat _ _ _ _ _ _ x7 h7).mono ?_
        rintro e w8 ⟨rfl, h8⟩
        rw [HR7.out.2.2.1, HR7.out.2.2.2]
        rw [show ((C + t.size : Nat) : Int) = (C : Int) + t.size by omega, show ((W + s'.size - t.size : Nat) : Int) = (C : Int) + W + s'.size - ((C : Int) + t.size) by omega]
        have hcmp1 := fltI ((C : Int) + t.size) (by omega)
        have hcmp2 := fltI ((C : Int) + W + s'.size - ((C : Int) + t.size)) (by omega)
        go_wp2_with fail
        refine ⟨⟨k + 1, C + t.size, W + s'.size - t.size, x7, rfl, ?_, rfl, by omega, by omega, by omega, HR7.out, h8⟩, by simp [intOf] <;> omega⟩
        congr 1; omega
      · go_wp2_with fail
        refine (cut01_any s 30 _).mono ?_
        rintro e w5 ⟨rfl, rfl⟩
        rw [HS'.out]
        go_wp2_with fail
        refine (st_writeR _ _ _ _ _ _ x hS C W HR.out s' (by omega)).mono ?_
        rintro e w6 ⟨x6, rfl, h6, R6⟩
        have HR6 := hide R6
        clear R6
        go_wp2_with fail
        refine (st_stat _ _ _ _ _ _ x6 h6).mono ?_
        rintro e w8 ⟨rfl, h8⟩
        rw [HR6.out.2.2.1, HR6.out.2.2.2]
        rw [show ((W + s'.size : Nat) : Int) = (C : Int) + W + s'.size - (C : Int) by omega]
        have hcmp1 := fltI (C : Int) (by omega)
        have hcmp2 := fltI ((C : Int) + W + s'.size - (C : Int)) (by omega)
        go_wp2_with fail
        refine ⟨⟨k + 1, C, W + s'.size, x6, rfl, ?_, rfl, by omega, by omega, by omega, HR6.out, h8⟩, by simp [intOf] <;> omega⟩
        congr 1; omega
    · have hW := HR.out.2.2.2
      have hck : (x.p.cut 3).wait.size = x.p.k 3 := by have := x.p.k_le 3; simp [Pp.cut]; omega
      have hck2 : (x.p.cut 3).came = C := HR.out.2.2.1
      have hk3 : ((x.p.k 3 : Nat) : Int) = min 3 ((C : Int) + W - C) := by unfold Pp.k; omega
      have hcmp1 := fltI (C : Int) (by omega)
      clear hW
      by_cases hA : k < len0
      · have h10 : ¬ k < 20 := by omega
        go_wp2_with fail
        refine (st_cut _ _ _ _ _ _ x hS HR.out.1 3 (by rw [HR.out.2.2.2]; omega)).mono ?_
        rintro e w5 ⟨rfl, h5⟩
        go_wp2_with fail
        refine (st_stat _ _ _ _ _ _ _ h5).mono ?_
        rintro e w6 ⟨rfl, h6⟩
        simp only [hck, hck2]
        go_wp2_with fail
        go_ret
        refine ⟨?_, h6.kp.below⟩
        rw [hk3]
        show Ending.returned (.bool (_ == _)) = _
        rw [fltI _ (by omega)]
        rfl
      · go_wp2_with fail
        refine (st_cut _ _ _ _ _ _ x hS HR.out.1 3 (by rw [HR.out.2.2.2]; omega)).mono ?_
        rintro e w5 ⟨rfl, h5⟩
        go_wp2_with fail
        refine (st_stat _ _ _ _ _ _ _ h5).mono ?_
        rintro e w6 ⟨rfl, h6⟩
        simp only [hck, hck2]
        go_wp2_with fail
        go_ret
        refine ⟨?_, h6.kp.below⟩
        rw [hk3]
        show Ending.returned (.bool (_ == _)) = _
        rw [fltI _ (by omega)]
        rfl
end Go.Proofs.Ytaahmjamkllphaa
