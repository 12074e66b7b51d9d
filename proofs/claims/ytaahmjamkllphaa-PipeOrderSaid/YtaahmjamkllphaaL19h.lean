/- Behind a hang-up nothing comes: the walk. -/
import Derived.Test.YtaahmjamkllphaaL19
import Derived.Test.YtaahmjamkllphaaIn
namespace Go.Proofs.Ytaahmjamkllphaa
open Go.RowKit
set_option maxRecDepth 10000
set_option linter.unusedVariables false
set_option maxHeartbeats 1000000

theorem slice_str {w : World} {z : List ByteArray} {a : Option Addr} {len cap : Nat} (r : Sh.Rd w (.slice .str) z [.slice a len cap]) (hl : 0 < len) :
    ∃ b off, a = some ⟨b, off, none⟩ ∧ b < w.heap.size ∧ ∀ i, i < len → w.cell? ⟨b, off + i, none⟩ = some (.string (z.getD i ByteArray.empty)) := by
  obtain ⟨rfl, _⟩ := Sh.slice_len r
  obtain ⟨b, off, ha, h⟩ := Sh.slice_at r hl
  have H : ∀ i, i < z.length → w.cell? ⟨b, off + i, none⟩ = some (.string (z.getD i ByteArray.empty)) := by
    intro i hi
    obtain ⟨c, h1, h2, h3⟩ := h i z[i] (List.getElem?_eq_getElem hi)
    obtain rfl : c = [.string z[i]] := h3.1
    have := h2 0 (by simp [Sh.size])
    rw [List.getD_eq_getElem?_getD, List.getElem?_eq_getElem hi]
    simpa [Sh.size] using this
  exact ⟨b, off, ha, World.block_lt_of_cell? _ _ (H 0 hl), H⟩

def hungRel (w : World) (n b c : Nat) (len : Nat) (want i : Value) (wr : World) : Prop :=
  ∃ (k : Nat) (x : Cn), i = .int .i64 k ∧ want = .string x.said ∧ k ≤ len ∧ k ≤ 10 ∧ x.said.size ≤ 30 * k ∧ x.hung = false ∧ x.p = Cn.new.p ∧ St w wr n b c 4 x

theorem hung_walk (a0 : Option Addr) (len0 cap0 : Nat) (z0 : List ByteArray) (a1 : ByteArray) (w : World) (r0 : Sh.Rd w (.slice .str) z0 [.slice a0 len0 cap0]) (w1 : a1.size ≤ maxLen) :
    Calls Try.prog 6 #[.slice a0 len0 cap0, .string a1] w fun e w' => e = .returned (.bool true) ∧ Below w.heap.size w w' := by
  go_enter Try.func6, Try.ntmps6
  go_wp2_with fail
  refine (awake19 _).mono ?_
  rintro e w2 ⟨rfl, hK2⟩
  go_wp2_with fail
  refine (new_any _).mono ?_
  rintro e w3 ⟨⟨n, b⟩, rfl, hN, hK3, hn, hb⟩
  have hsz2 := hK2.size
  go_wp2_with fail
  refine (st_open w w3 n b hN (hK2.then hK3) (by omega) (by omega) 4).mono ?_
  rintro e w4 ⟨c, rfl, h4⟩
  clear hN hK3 hn hb
  go_wp2_with fail
  go_loopw [6, 7] (fun wt i wr => hungRel w n b c len0 wt i wr) (fun _ i _ => 10 - (intOf i).toNat)
  case atStart => exact ⟨0, _, rfl, rfl, by omega, by omega, by simp [Cn.new], rfl, rfl, h4⟩
  case round =>
    obtain ⟨k, x, rfl, rfl, hk1, hk2, hsz, hhg, hxp, hS⟩ := hrel
    clear h4
    by_cases hlt : k < len0 ∧ k < 10
    · obtain ⟨hlt, h10⟩ := hlt
      obtain ⟨bb, off, rfl, hbb, hc⟩ := slice_str r0 (by omega)
      have hcell := (hS.kp.cell (p := ⟨bb, off + k, none⟩) hbb (by simp)).trans (hc k hlt)
      clear hc
      generalize List.getD z0 k ByteArray.empty = s at hcell
      have hcs := cutS_size s 30
      have hl : ¬ 9223372036854775807 < x.said.size + (cutS s 30).size := by omega
      have hXP := hide hxp
      have hHG := hide hhg
      clear hxp hhg
      go_wp2_with fail
      refine (cut01_any s 30 _).mono ?_
      rintro e w5 ⟨rfl, rfl⟩
      go_wp2_with fail
      refine (st_say _ _ _ _ _ _ x hS hHG.out (cutS s 30) (by omega)).mono ?_
      rintro e w6 ⟨rfl, h6⟩
      go_wp2_with fail
      refine ⟨⟨k + 1, { x with said := x.said ++ cutS s 30 }, rfl, rfl, by omega, by omega, ?_, hHG.out, hXP.out, h6⟩, by simp [intOf] <;> omega⟩
      show (x.said ++ cutS s 30).size ≤ _
      rw [ByteArray.size_append]; omega
    · have hXP := hide hxp
      have hHG := hide hhg
      have hcs := cutS_size a1 30
      clear hxp hhg
      by_cases hA : k < len0
      · have h10 : ¬ k < 10 := by omega
        go_wp2_with fail
        refine (cut01_any a1 30 _).mono ?_
        rintro e w5 ⟨rfl, rfl⟩
        go_wp2_with fail
        refine (st_write _ _ _ _ _ _ x hS hHG.out (cutS a1 30) (by rw [hXP.out]; simp [Cn.new]; omega)).mono ?_
        rintro e w6 ⟨rfl, h6⟩
        go_wp2_with fail
        refine (st_hang _ _ _ _ _ _ _ h6 hHG.out).mono ?_
        rintro e w7 ⟨rfl, h7⟩
        go_wp2_with fail
        refine (st_hang13 _ _ _ _ _ _ _ h7 rfl).mono ?_
        rintro e w8 ⟨rfl, h8⟩
        go_wp2_with fail
        refine (st_say13 _ _ _ _ _ _ _ h8 rfl _).mono ?_
        rintro e w9 ⟨rfl, h9⟩
        go_wp2_with fail
        refine (st_write13 _ _ _ _ _ _ _ h9 rfl _).mono ?_
        rintro e wa ⟨rfl, ha⟩
        go_wp2_with fail
        refine (st_cut13 _ _ _ _ _ _ _ ha rfl _).mono ?_
        rintro e wb ⟨rfl, hb⟩
        go_wp2_with fail
        refine (st_read13 _ _ _ _ _ _ _ hb rfl _).mono ?_
        rintro e wc ⟨rfl, hc⟩
        go_wp2_with fail
        refine (st_said _ _ _ _ _ _ _ hc).mono ?_
        rintro e wd ⟨rfl, hd⟩
        go_wp2_with fail
        refine (st_live _ _ _ _ _ _ _ hd).mono ?_
        rintro e we ⟨⟨p, cp⟩, rfl, he⟩
        simp only [if_true]
        go_wp2_with fail
        refine (st_there _ _ _ _ _ _ _ he).mono ?_
        rintro e wf ⟨rfl, hf⟩
        go_wp2
        go_ret
        exact ⟨rfl, hf.kp.below⟩
      · go_wp2_with fail
        refine (cut01_any a1 30 _).mono ?_
        rintro e w5 ⟨rfl, rfl⟩
        go_wp2_with fail
        refine (st_write _ _ _ _ _ _ x hS hHG.out (cutS a1 30) (by rw [hXP.out]; simp [Cn.new]; omega)).mono ?_
        rintro e w6 ⟨rfl, h6⟩
        go_wp2_with fail
        refine (st_hang _ _ _ _ _ _ _ h6 hHG.out).mono ?_
        rintro e w7 ⟨rfl, h7⟩
        go_wp2_with fail
        refine (st_hang13 _ _ _ _ _ _ _ h7 rfl).mono ?_
        rintro e w8 ⟨rfl, h8⟩
        go_wp2_with fail
        refine (st_say13 _ _ _ _ _ _ _ h8 rfl _).mono ?_
        rintro e w9 ⟨rfl, h9⟩
        go_wp2_with fail
        refine (st_write13 _ _ _ _ _ _ _ h9 rfl _).mono ?_
        rintro e wa ⟨rfl, ha⟩
        go_wp2_with fail
        refine (st_cut13 _ _ _ _ _ _ _ ha rfl _).mono ?_
        rintro e wb ⟨rfl, hb⟩
        go_wp2_with fail
        refine (st_read13 _ _ _ _ _ _ _ hb rfl _).mono ?_
        rintro e wc ⟨rfl, hc⟩
        go_wp2_with fail
        refine (st_said _ _ _ _ _ _ _ hc).mono ?_
        rintro e wd ⟨rfl, hd⟩
        go_wp2_with fail
        refine (st_live _ _ _ _ _ _ _ hd).mono ?_
        rintro e we ⟨⟨p, cp⟩, rfl, he⟩
        simp only [if_true]
        go_wp2_with fail
        refine (st_there _ _ _ _ _ _ _ he).mono ?_
        rintro e wf ⟨rfl, hf⟩
        go_wp2
        go_ret
        exact ⟨rfl, hf.kp.below⟩
end Go.Proofs.Ytaahmjamkllphaa
