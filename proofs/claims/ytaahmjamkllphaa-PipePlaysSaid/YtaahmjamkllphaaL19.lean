/- Layer 19: what the laws share. -/
import Derived.Test.YtaahmjamkllphaaOne
namespace Go.Proofs.Ytaahmjamkllphaa
open Go.RowKit
set_option maxRecDepth 10000
set_option linter.unusedVariables false
set_option maxHeartbeats 1000000

def cutS (s : ByteArray) (n : Nat) : ByteArray := if s.size > n then s.extract 0 n else s

theorem cutS_size (s : ByteArray) (n : Nat) : (cutS s n).size ≤ n := by
  unfold cutS
  split
  · simp; omega
  · omega

theorem cut01_any (s : ByteArray) (n : Nat) (w : World) : Calls Try.prog 9 #[.string s, .int .i64 n] w fun e w' => e = .returned (.string (cutS s n)) ∧ w' = w := by
  by_cases h : (s.size : Int) > n
  · have e := hide (show cutS s n = s.extract 0 n by unfold cutS; rw [if_pos (by omega)])
    go_enter Try.func9, Try.ntmps9
    go_wp2
    go_ret
    rw [e.out]
    exact ⟨rfl, rfl⟩
  · have e := hide (show cutS s n = s by unfold cutS; rw [if_neg (by omega)])
    go_enter Try.func9, Try.ntmps9
    go_wp2
    go_ret
    rw [e.out]
    exact ⟨rfl, rfl⟩

/-- The states that awake goes through. -/
def aw1 : Cn := { Cn.new with p := Cn.new.p.send ⟨#[97, 98, 99]⟩ }
def aw2 : Cn := { aw1 with p := aw1.p.cut 2 }
def aw3 : Cn := { aw2 with p := aw2.p.chunk 9 }

theorem binC (a c : Int) (h : 0 ≤ a) (h' : 0 ≤ c) (w : World) :
    (binOp .eql 32 (.complex .f64 (FloatKind.f64.nearest a) (FloatKind.f64.nearest c)) (.complex .f64 (FloatKind.f64.nearest a) (FloatKind.f64.nearest c))).run Try.prog w = .ok (.bool true) w := by
  simp [binOp, Op.complexOp, Op.Complex.cmp, run_cmp_flt, h, h', Result.andThen, asBool]

theorem awake19 (w : World) : Calls Try.prog 8 #[] w fun e w' => e = .returned (.bool true) ∧ Keep [] w w' := by
  go_enter Try.func8, Try.ntmps8
  go_wp2_with fail
  refine (new_any _).mono ?_
  rintro e w1 ⟨⟨n, b⟩, rfl, hN, hK, hn, hb⟩
  go_wp2_with fail
  refine (st_open w w1 n b hN hK hn hb 1).mono ?_
  rintro e w2 ⟨c, rfl, h2⟩
  go_wp2_with fail
  refine (st_write _ _ _ _ _ _ _ h2 rfl ⟨#[97, 98, 99]⟩ (by decide)).mono ?_
  rintro e w3 ⟨rfl, h3⟩
  have e3 : (Cn.new).p.err = 0 := rfl
  go_wp2_with fail
  refine (st_cut _ _ _ _ _ _ aw1 h3 rfl 2 (by decide)).mono ?_
  rintro e w4 ⟨rfl, h4⟩
  go_wp2_with fail
  refine (st_read _ _ _ _ _ _ aw2 h4 rfl 9 (by decide) (by decide)).mono ?_
  rintro e w5 ⟨rfl, h5⟩
  have e5 : aw2.p.wait.extract 0 (aw2.p.k 9) = ⟨#[97, 98]⟩ := by decide
  have e6 : (aw2.p.chunk 9).ended = true := by decide
  rw [e5, e6]
  go_wp2_with fail
  refine (st_stat _ _ _ _ _ _ aw3 h5).mono ?_
  rintro e w6 ⟨rfl, h6⟩
  have e7 : FloatKind.f64.nearest aw3.p.came = 4611686018427387904 := by kernel_rfl
  have e8 : FloatKind.f64.nearest aw3.p.wait.size = 0 := by kernel_rfl
  have e9 := binC aw3.p.came aw3.p.wait.size (by decide) (by decide) w6
  rw [e7, e8] at e9 ⊢
  clear e7 e8
  go_wp2_with fail
  refine (st_live _ _ _ _ _ _ aw3 h6).mono ?_
  rintro e w7 ⟨⟨p, cp⟩, rfl, h7⟩
  rw [show (if aw3.hung = true then 0 else 1) = 1 from rfl]
  go_wp2_with fail
  refine (st_there _ _ _ _ _ _ aw3 h7).mono ?_
  rintro e w8 ⟨rfl, h8⟩
  go_wp2
  go_ret
  exact ⟨rfl, h8.kp⟩
end Go.Proofs.Ytaahmjamkllphaa
