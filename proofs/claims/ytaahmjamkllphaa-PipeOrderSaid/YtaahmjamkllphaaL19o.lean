/- What comes is a beginning of what was sent: the walk. -/
import Derived.Test.YtaahmjamkllphaaL19s
namespace Go.Proofs.Ytaahmjamkllphaa
open Go.RowKit
set_option maxRecDepth 10000
set_option linter.unusedVariables false
set_option maxHeartbeats 1000000

def OrdI (S Cm : ByteArray) (m : Int) (x : Pp) : Prop :=
  x.came = Cm.size ∧ ((m < 0 ∧ x.closed = false ∧ Cm ++ x.wait = S) ∨ (0 ≤ m ∧ x.closed = true ∧ Cm ++ x.wait = S.extract 0 m.toNat ∧ m.toNat ≤ S.size))

theorem split_at (b : ByteArray) (k : Nat) (h : k ≤ b.size) : b.extract 0 k ++ b.extract k b.size = b := by
  rw [ByteArray.extract_append_extract]
  have e1 : min 0 k = 0 := by omega
  have e2 : max k b.size = b.size := by omega
  rw [e1, e2, ByteArray.extract_zero_size]

theorem take_append (a b : ByteArray) (k : Nat) : (a ++ b).extract 0 (a.size + k) = a ++ b.extract 0 k := by
  apply ByteArray.ext
  simp [ByteArray.data_extract, ByteArray.data_append]
  have h1 : a.data.extract 0 (a.size + k) = a.data := Array.extract_eq_self_of_le (by have : a.size = a.data.size := rfl; omega)
  rw [h1]

theorem OrdI.send {S Cm : ByteArray} {m : Int} {x : Pp} (h : OrdI S Cm m x) (hm : m < 0) (s : ByteArray) : OrdI (S ++ s) Cm m (x.send s) := by
  obtain ⟨h1, ⟨h2, h3, h4⟩ | ⟨h2, _⟩⟩ := h
  · refine ⟨by simp [Pp.send, h3, h1], .inl ⟨h2, by simp [Pp.send, h3], ?_⟩⟩
    simp only [Pp.send, h3]
    rw [← h4]
    simp [ByteArray.append_assoc]
  · omega

theorem OrdI.sendC {S Cm : ByteArray} {m : Int} {x : Pp} (h : OrdI S Cm m x) (hm : 0 ≤ m) (s : ByteArray) : OrdI S Cm m (x.send s) := by
  obtain ⟨h1, ⟨h2, _⟩ | ⟨h2, h3, h4⟩⟩ := h
  · omega
  · have : x.send s = x := by simp [Pp.send, h3]
    rw [this]
    exact ⟨h1, .inr ⟨h2, h3, h4⟩⟩

theorem OrdI.err {S Cm : ByteArray} {m : Int} {x : Pp} (h : OrdI S Cm m x) : (m < 0 → x.err = 0) ∧ (0 ≤ m → x.err = 13) := by
  obtain ⟨h1, ⟨h2, h3, _⟩ | ⟨h2, h3, h4⟩⟩ := h
  · exact ⟨fun _ => by unfold Pp.err; rw [h3]; rfl, fun _ => by omega⟩
  · exact ⟨fun _ => by omega, fun _ => by unfold Pp.err; rw [h3]; rfl⟩

theorem OrdI.sizes {S Cm : ByteArray} {m : Int} {x : Pp} (h : OrdI S Cm m x) : Cm.size + x.wait.size ≤ S.size ∧ (m < 0 → Cm.size + x.wait.size = S.size) := by
  obtain ⟨h1, ⟨h2, h3, h4⟩ | ⟨h2, h3, h4, h5⟩⟩ := h
  · have := congrArg ByteArray.size h4; rw [ByteArray.size_append] at this; omega
  · have := congrArg ByteArray.size h4; rw [ByteArray.size_append, ByteArray.size_extract] at this; omega

theorem OrdI.cut {S Cm : ByteArray} {m : Int} {x : Pp} (h : OrdI S Cm m x) (hm : m < 0) (n : Int) : OrdI S Cm (Cm.size + x.k n) (x.cut n) := by
  have hs := h.sizes
  have hk := x.k_le n
  obtain ⟨h1, ⟨h2, h3, h4⟩ | ⟨h2, _⟩⟩ := h
  · refine ⟨h1, .inr ⟨by omega, rfl, ?_, by have := hs.2 hm; omega⟩⟩
    rw [show ((Cm.size : Int) + x.k n).toNat = Cm.size + x.k n by omega, ← h4, take_append]
    rfl
  · omega

theorem OrdI.chunk {S Cm : ByteArray} {m : Int} {x : Pp} (h : OrdI S Cm m x) (n : Int) : OrdI S (Cm ++ x.wait.extract 0 (x.k n)) m (x.chunk n) := by
  have hk := x.k_le n
  have e : (Cm ++ x.wait.extract 0 (x.k n)) ++ (x.chunk n).wait = Cm ++ x.wait := by
    rw [ByteArray.append_assoc]
    show Cm ++ (x.wait.extract 0 (x.k n) ++ x.wait.extract (x.k n) x.wait.size) = _
    rw [split_at _ _ hk]
  refine ⟨?_, ?_⟩
  · show x.came + x.k n = _
    rw [h.1, ByteArray.size_append, ByteArray.size_extract]
    omega
  · rw [e]
    exact h.2

theorem nearest0 : FloatKind.f64.nearest 0 = 0 := by decide

theorem f64zero : FloatKind.f64.format.order (FloatKind.f64.nearest 0) 0 = some .eq := by
  have h := flt_self 0 (by omega)
  rw [nearest0] at h ⊢
  exact h

def ordRel (w : World) (c len : Nat) (at' : Int) (sent came most i : Value) (wr : World) : Prop :=
  ∃ (k : Nat) (S Cm : ByteArray) (m : Int) (x : Pp), i = .int .i64 k ∧ sent = .string S ∧ came = .string Cm ∧ most = .int .i64 m ∧ k ≤ len ∧ k ≤ 20 ∧ S.size ≤ 30 * k ∧ OrdI S Cm m x ∧ (0 ≤ m → at' < k) ∧ m < 100000 ∧ -100000 < m ∧ PAt wr c x [] 26 ∧ Keep [] w wr ∧ w.heap.size ≤ c
theorem order_walk (a0 : Option Addr) (len0 cap0 : Nat) (z0 : List ByteArray) (a1 : Option Addr) (len1 cap1 : Nat) (z1 : List Int) (a2 a3 : Int) (w : World) (r0 : Sh.Rd w (.slice .str) z0 [.slice a0 len0 cap0]) (r1 : Sh.Rd w (.slice (.int .i64)) z1 [.slice a1 len1 cap1]) :
    Calls Try.prog 3 #[.slice a0 len0 cap0, .slice a1 len1 cap1, .int .i64 a2, .int .i64 a3] w fun e w' => e = .returned (.bool true) ∧ Below w.heap.size w w' := by
  go_enter Try.func3, Try.ntmps3
  go_wp2_with fail
  refine (awake19 _).mono ?_
  rintro e w2 ⟨rfl, hK2⟩
  have hsz2 := hK2.size
  go_wp2_with fail
  go_loopw [10, 11, 12, 13] (fun st cm mo i wr => ordRel w w2.heap.size len0 a3 st cm mo i wr) (fun _ _ _ i _ => 20 - (intOf i).toNat)
  case atStart =>
    refine ⟨0, ByteArray.empty, ByteArray.empty, -1, ⟨ByteArray.empty, 0, false⟩, rfl, rfl, rfl, rfl, by omega, by omega, by simp, ⟨rfl, .inl ⟨by omega, rfl, by simp⟩⟩, by omega, by omega, by omega, ?_, hK2.alloc _, hsz2⟩
    exact Blk.new w2 _ _
  case round =>
    obtain ⟨k, S, Cm, m, x, rfl, rfl, rfl, rfl, hk1, hk2, hS, hI, hat, hmx, hmn, hP, hK, hcc⟩ := hrel
    have HI := hide hI
    have hz := hI.sizes
    have hz1 := hz.1
    have HZ := hide hz.2
    clear hI hz
    by_cases hlt : k < len0 ∧ k < 20
    · obtain ⟨hlt, h10⟩ := hlt
      obtain ⟨bb, off, rfl, hbb, hc⟩ := slice_str r0 (by omega)
      have hcell := (hK.cell (p := ⟨bb, off + k, none⟩) hbb (by simp)).trans (hc k hlt)
      clear hc
      generalize List.getD z0 k ByteArray.empty = s at hcell
      have hcs := cutS_size s 30
      obtain ⟨s', hs'⟩ : ∃ s', cutS s 30 = s' := ⟨_, rfl⟩
      have HS' := hide hs'
      rw [hs'] at hcs
      clear hs'
      by_cases hka : (k : Int) = a3
      · have hm0 : m < 0 := by have := hat; omega
        subst hka
        go_wp2_with fail
        refine (cut01_any s 30 _).mono ?_
        rintro e w5 ⟨rfl, rfl⟩
        rw [HS'.out]
        have hxk := x.k_le a2
        have hzz := HZ.out hm0
        have hkk := hide (show ((x.k a2 : Nat) : Int) = min (max a2 0) ((S.size : Int) - Cm.size) by unfold Pp.k; omega)
        have HIC := hide (HI.out.cut hm0 a2)
        rw [hkk.out] at HIC
        go_wp2_with fail
        refine (pcut_any _ _ _ _ _ hP a2 (by omega)).mono ?_
        rintro e w5c ⟨rfl, hPc, hKc⟩
        have hKc' : Keep [] w w5c := hK.trans hKc (by simp) (by simp; omega)
        have hm1 : 0 ≤ (Cm.size : Int) + min (max a2 0) ((S.size : Int) - Cm.size) := by omega
        go_wp2_with fail
        refine (send_any _ _ _ _ _ hPc s' (by have := HIC.out.sizes; omega)).mono ?_
        rintro e w6 ⟨rfl, hP6, hK6⟩
        rw [(HIC.out.err).2 hm1]
        have HI6 := hide (HIC.out.sendC hm1 s')
        have hK6' : Keep [] w w6 := hKc'.trans hK6 (by simp) (by simp; omega)
        have hz6 := HI6.out.sizes.1
        have hcm := hide HI6.out.1
        clear hK6
        by_cases hk3 : k < len1
        · obtain ⟨b2, off2, rfl, hb2, hc2⟩ := Sh.slice_int r1 (by omega)
          obtain ⟨hcell2, _⟩ := hc2 k hk3
          have hcell6 := (hK6'.cell (p := ⟨b2, off2 + k, none⟩) hb2 (by simp)).trans hcell2
          clear hc2 hcell2
          generalize List.getD z1 k 0 = mc at hcell6
          go_wp2_with fail
          refine (pchunk_any _ _ _ _ _ hP6 mc (by omega) (by rw [hcm.out]; omega)).mono ?_
          rintro e w7 ⟨rfl, hP7, hK7⟩
          have HI7 := hide (HI6.out.chunk mc)
          obtain ⟨t, ht⟩ : ∃ t, ((x.cut a2).send s').wait.extract 0 (((x.cut a2).send s').k mc) = t := ⟨_, rfl⟩
          have HT := hide ht
          rw [ht] at HI7 ⊢
          clear ht
          have hz7 := HI7.out.sizes.1
          rw [ByteArray.size_append] at hz7
          have hl2 : ¬ 9223372036854775807 < Cm.size + t.size := by omega
          go_wp2_with fail
          exact ⟨⟨k + 1, _, _, _, _, rfl, rfl, rfl, rfl, by omega, by omega, by first | omega | (rw [ByteArray.size_append]; omega), HI7.out, by omega, by omega, by omega, hP7, hK6'.trans hK7 (by simp) (by simp; omega), hcc⟩, by simp [intOf] <;> omega⟩
        · go_wp2_with fail
          exact ⟨⟨k + 1, _, _, _, _, rfl, rfl, rfl, rfl, by omega, by omega, by first | omega | (rw [ByteArray.size_append]; omega), HI6.out, by omega, by omega, by omega, hP6, hK6', hcc⟩, by simp [intOf] <;> omega⟩
      · by_cases hm0 : m < 0
        · go_wp2_with fail
          refine (cut01_any s 30 _).mono ?_
          rintro e w5 ⟨rfl, rfl⟩
          rw [HS'.out]
          have hl : ¬ 9223372036854775807 < S.size + s'.size := by omega
          have hss : (S ++ s').size = S.size + s'.size := ByteArray.size_append
          go_wp2_with fail
          refine (send_any _ _ _ _ _ hP s' (by have := HI.out.sizes; omega)).mono ?_
          rintro e w6 ⟨rfl, hP6, hK6⟩
          rw [(HI.out.err).1 hm0]
          have HI6 := hide (HI.out.send hm0 s')
          have hK6' : Keep [] w w6 := hK.trans hK6 (by simp) (by simp; omega)
          have hz6 := HI6.out.sizes.1
          have hcm := hide HI6.out.1
          clear hK6
          by_cases hk3 : k < len1
          · obtain ⟨b2, off2, rfl, hb2, hc2⟩ := Sh.slice_int r1 (by omega)
            obtain ⟨hcell2, _⟩ := hc2 k hk3
            have hcell6 := (hK6'.cell (p := ⟨b2, off2 + k, none⟩) hb2 (by simp)).trans hcell2
            clear hc2 hcell2
            generalize List.getD z1 k 0 = mc at hcell6
            go_wp2_with fail
            refine (pchunk_any _ _ _ _ _ hP6 mc (by omega) (by rw [hcm.out]; omega)).mono ?_
            rintro e w7 ⟨rfl, hP7, hK7⟩
            have HI7 := hide (HI6.out.chunk mc)
            obtain ⟨t, ht⟩ : ∃ t, ((x).send s').wait.extract 0 (((x).send s').k mc) = t := ⟨_, rfl⟩
            have HT := hide ht
            rw [ht] at HI7 ⊢
            clear ht
            have hz7 := HI7.out.sizes.1
            rw [ByteArray.size_append] at hz7
            have hl2 : ¬ 9223372036854775807 < Cm.size + t.size := by omega
            go_wp2_with fail
            exact ⟨⟨k + 1, _, _, _, _, rfl, rfl, rfl, rfl, by omega, by omega, by first | omega | (rw [ByteArray.size_append]; omega), HI7.out, by omega, by omega, by omega, hP7, hK6'.trans hK7 (by simp) (by simp; omega), hcc⟩, by simp [intOf] <;> omega⟩
          · go_wp2_with fail
            exact ⟨⟨k + 1, _, _, _, _, rfl, rfl, rfl, rfl, by omega, by omega, by first | omega | (rw [ByteArray.size_append]; omega), HI6.out, by omega, by omega, by omega, hP6, hK6', hcc⟩, by simp [intOf] <;> omega⟩
        · go_wp2_with fail
          refine (cut01_any s 30 _).mono ?_
          rintro e w5 ⟨rfl, rfl⟩
          rw [HS'.out]
          have hm1 : 0 ≤ m := by omega
          go_wp2_with fail
          refine (send_any _ _ _ _ _ hP s' (by have := HI.out.sizes; omega)).mono ?_
          rintro e w6 ⟨rfl, hP6, hK6⟩
          rw [(HI.out.err).2 hm1]
          have HI6 := hide (HI.out.sendC hm1 s')
          have hK6' : Keep [] w w6 := hK.trans hK6 (by simp) (by simp; omega)
          have hz6 := HI6.out.sizes.1
          have hcm := hide HI6.out.1
          clear hK6
          by_cases hk3 : k < len1
          · obtain ⟨b2, off2, rfl, hb2, hc2⟩ := Sh.slice_int r1 (by omega)
            obtain ⟨hcell2, _⟩ := hc2 k hk3
            have hcell6 := (hK6'.cell (p := ⟨b2, off2 + k, none⟩) hb2 (by simp)).trans hcell2
            clear hc2 hcell2
            generalize List.getD z1 k 0 = mc at hcell6
            go_wp2_with fail
            refine (pchunk_any _ _ _ _ _ hP6 mc (by omega) (by rw [hcm.out]; omega)).mono ?_
            rintro e w7 ⟨rfl, hP7, hK7⟩
            have HI7 := hide (HI6.out.chunk mc)
            obtain ⟨t, ht⟩ : ∃ t, ((x).send s').wait.extract 0 (((x).send s').k mc) = t := ⟨_, rfl⟩
            have HT := hide ht
            rw [ht] at HI7 ⊢
            clear ht
            have hz7 := HI7.out.sizes.1
            rw [ByteArray.size_append] at hz7
            have hl2 : ¬ 9223372036854775807 < Cm.size + t.size := by omega
            go_wp2_with fail
            exact ⟨⟨k + 1, _, _, _, _, rfl, rfl, rfl, rfl, by omega, by omega, by first | omega | (rw [ByteArray.size_append]; omega), HI7.out, by omega, by omega, by omega, hP7, hK6'.trans hK7 (by simp) (by simp; omega), hcc⟩, by simp [intOf] <;> omega⟩
          · go_wp2_with fail
            exact ⟨⟨k + 1, _, _, _, _, rfl, rfl, rfl, rfl, by omega, by omega, by first | omega | (rw [ByteArray.size_append]; omega), HI6.out, by omega, by omega, by omega, hP6, hK6', hcc⟩, by simp [intOf] <;> omega⟩
    · have hcm := hide HI.out.1
      have hkN : x.k 1073741824 = x.wait.size := by unfold Pp.k; omega
      have hy0 : (x.chunk 1073741824).wait.size = 0 := by simp [Pp.chunk, hkN]
      have hy1 : (x.chunk 1073741824).came = Cm.size + x.wait.size := by simp [Pp.chunk, hkN, hcm.out]
      have hex : x.wait.extract 0 (x.k 1073741824) = x.wait := by rw [hkN]; exact ByteArray.extract_zero_size
      have hl2 : ¬ 9223372036854775807 < Cm.size + x.wait.size := by omega
      have HEX := hide hex
      have HY0 := hide hy0
      have HY1 := hide hy1
      clear hkN hy0 hy1 hex
      by_cases hm0 : m < 0
      · have hT : Cm ++ x.wait = S := by
          obtain ⟨_, ⟨_, _, h4⟩ | ⟨h2, _⟩⟩ := HI.out
          · exact h4
          · omega
        have hEn := hide (show (x.chunk 1073741824).ended = false by
          obtain ⟨_, ⟨_, h3, h4⟩ | ⟨h2, _⟩⟩ := HI.out
          · simp [Pp.ended, Pp.chunk, h3]
          · omega)
        have HTT := hide hT
        clear hT
        by_cases hA : k < len0
        · have h10 : ¬ k < 20 := by omega
          go_wp2_with fail
          refine (pchunk_any _ _ _ _ _ hP 1073741824 (by omega) (by rw [hcm.out]; omega)).mono ?_
          rintro e w7 ⟨rfl, hP7, hK7⟩
          rw [HEX.out]
          have hT := HTT.out
          go_wp2_with fail
          refine (ended_any _ _ _ _ _ hP7).mono ?_
          rintro e w8 ⟨rfl, rfl⟩
          rw [hEn.out]
          go_wp2_with fail
          go_ret
          exact ⟨rfl, (hK.trans hK7 (by simp) (by simp; omega)).below⟩
        · go_wp2_with fail
          refine (pchunk_any _ _ _ _ _ hP 1073741824 (by omega) (by rw [hcm.out]; omega)).mono ?_
          rintro e w7 ⟨rfl, hP7, hK7⟩
          rw [HEX.out]
          have hT := HTT.out
          go_wp2_with fail
          refine (ended_any _ _ _ _ _ hP7).mono ?_
          rintro e w8 ⟨rfl, rfl⟩
          rw [hEn.out]
          go_wp2_with fail
          go_ret
          exact ⟨rfl, (hK.trans hK7 (by simp) (by simp; omega)).below⟩
      · obtain ⟨M, rfl⟩ : ∃ M : Nat, m = M := ⟨m.toNat, by omega⟩
        have hT : Cm ++ x.wait = S.extract 0 M ∧ M ≤ S.size := by
          obtain ⟨_, ⟨h2, _⟩ | ⟨_, _, h4, h5⟩⟩ := HI.out
          · omega
          · simpa using ⟨h4, h5⟩
        have hEn := hide (show (x.chunk 1073741824).ended = true by
          obtain ⟨_, ⟨h2, _⟩ | ⟨_, h3, h4⟩⟩ := HI.out
          · omega
          · unfold Pp.ended
            rw [HY0.out]
            simp [Pp.chunk, h3])
        have hMS := hT.2
        have HM := hide (show Cm.size + x.wait.size = M by
          have := congrArg ByteArray.size hT.1
          rw [ByteArray.size_append, ByteArray.size_extract] at this
          omega)
        have HTT := hide hT.1
        clear hT
        have F1 := hide (fltI (M : Int) (by omega))
        have hMs : (M : Int) ≤ S.size := by omega
        clear hat hmx hmn
        by_cases hA : k < len0
        · have h10 : ¬ k < 20 := by omega
          go_wp2_with fail
          refine (pchunk_any _ _ _ _ _ hP 1073741824 (by omega) (by rw [hcm.out]; omega)).mono ?_
          rintro e w7 ⟨rfl, hP7, hK7⟩
          rw [HEX.out]
          have hT := HTT.out
          go_wp2_with fail
          refine (ended_any _ _ _ _ _ hP7).mono ?_
          rintro e w8 ⟨rfl, rfl⟩
          rw [hEn.out]
          go_wp2_with fail
          refine (pstat_any _ _ _ _ _ hP7).mono ?_
          rintro e w9 ⟨rfl, hK9⟩
          rw [HY0.out, HY1.out, show ((Cm.size : Int) + x.wait.size) = M by have := HM.out; omega, show ((0 : Nat) : Int) = 0 from rfl]
          have f1 := F1.out
          have f2 := f64zero
          go_wp2_with fail
          go_ret
          exact ⟨rfl, ((hK.trans hK7 (by simp) (by simp; omega)).then hK9).below⟩
        · go_wp2_with fail
          refine (pchunk_any _ _ _ _ _ hP 1073741824 (by omega) (by rw [hcm.out]; omega)).mono ?_
          rintro e w7 ⟨rfl, hP7, hK7⟩
          rw [HEX.out]
          have hT := HTT.out
          go_wp2_with fail
          refine (ended_any _ _ _ _ _ hP7).mono ?_
          rintro e w8 ⟨rfl, rfl⟩
          rw [hEn.out]
          go_wp2_with fail
          refine (pstat_any _ _ _ _ _ hP7).mono ?_
          rintro e w9 ⟨rfl, hK9⟩
          rw [HY0.out, HY1.out, show ((Cm.size : Int) + x.wait.size) = M by have := HM.out; omega, show ((0 : Nat) : Int) = 0 from rfl]
          have f1 := F1.out
          have f2 := f64zero
          go_wp2_with fail
          go_ret
          exact ⟨rfl, ((hK.trans hK7 (by simp) (by simp; omega)).then hK9).below⟩
end Go.Proofs.Ytaahmjamkllphaa
