/- WillOrder: the walk. -/
import Derived.Test.YtegnmdnflmlioaaL22o
import Derived.Outline
namespace Go.Proofs.Ytegnmdnflmlioaa
open Go.RowKit Go.Shelf Go.Proofs.Ytegnmdnflmlioaa.PWillPlays Go.Proofs.YtegnmdnflmlioaaW.PrintWords Go.Proofs.YtegnmdnflmlioaaW.PrintLast
set_option maxRecDepth 10000
set_option linter.unusedVariables false
set_option maxHeartbeats 4000000

def o1Rel (W : World) (nw b tn tb n : Nat) (z : List Int) (i : Value) (wr : World) : Prop := ∃ (k : Nat) (hs : List (BA × Hd)), i = .int .i64 k ∧ k ≤ n ∧ Ws W wr nw b tn tb hs [] k ∧ OrdH hs k z ∧ Below W.heap.size W wr
def o2Rel (W : World) (nw b tn tb n : Nat) (z : List Int) (hs : List (BA × Hd)) (i : Value) (wr : World) : Prop := ∃ (m : Int) (j : Nat) (r : List En), i = .int .i64 m ∧ m = (j : Int) - 1 ∧ j ≤ n ∧ Ws W wr nw b tn tb hs r (n + (n - j)) ∧ OrdR r j n z ∧ Below W.heap.size W wr
def o3Rel (w7 : World) (n : Nat) (i : Value) (wr : World) : Prop := ∃ k : Nat, i = .int .i64 ((k : Int) + 1) ∧ (k + 1 ≤ n ∨ k = 0) ∧ Keep [] w7 wr

theorem ix_run (i : Nat) (hi : i < 26) (w : World) : (Instr.index 9 (.string (ch i)) (.int .i64 0)).run Try.prog w = .ok (.int .u8 (97 + (i : Int))) w := by
  have h : (Instr.index 9 (.string (ch i)) (.int .i64 0)).run Try.prog w = .ok (.int .u8 ((UInt8.ofNat (97 + i)).toNat : Int)) w := by rfl
  rw [h, ch_byte i hi]

theorem order_walk (a0 : Option Addr) (len0 cap0 : Nat) (z0 : Sh.T (.slice (.int .u32))) (w : World) (r0 : Sh.Rd w (.slice (.int .u32)) z0 [.slice a0 len0 cap0]) :
    Calls Try.prog 3 #[.slice a0 len0 cap0] w fun e w' => e = .returned (.bool true) ∧ Below w.heap.size w w' := by
  have hl0 : len0 ≤ maxLen := by obtain ⟨_, h1, h2⟩ := Sh.slice_len r0; omega
  unfold maxLen at hl0
  obtain ⟨z, hz⟩ : ∃ z : List Int, z0 = z := ⟨z0, rfl⟩
  obtain ⟨n, hn⟩ : ∃ n : Nat, min (len0 : Int) 20 = (n : Int) := ⟨(min (len0 : Int) 20).toNat, by omega⟩
  have hn0 : n ≤ len0 := by omega
  have hn1 : n ≤ 20 := by omega
  have HR0 := hide r0
  clear r0
  go_enter Try.func3, Try.ntmps3
  go_wp2_with fail
  refine (awake22 _).mono ?_
  rintro e wa ⟨rfl, hka⟩
  go_wp2_with fail
  refine (wNew (W := w) hka.size).mono ?_
  rintro e w2 ⟨⟨nw, b, tn, tb⟩, rfl, h2, hk2⟩
  simp only at h2
  have hB2 := (hka.then hk2).below
  clear hka hk2
  go_wp2_with fail
  go_loopw [5] (fun i wr => o1Rel w nw b tn tb n z i wr) (fun i _ => n - (intOf i).toNat)
  case atStart => exact ⟨0, [], rfl, by omega, h2, OrdH.nil z, hB2⟩
  case round =>
    clear hB2 h2
    obtain ⟨k, hs, rfl, hk, hW, hO, hB⟩ := hrel
    by_cases hlt : k < n
    · obtain ⟨b0, off, rfl, hb0, hc⟩ := Sh.slice_int HR0.out (by omega)
      obtain ⟨c0, wf⟩ := hc k (by omega)
      rw [hz] at c0 wf
      obtain ⟨zk, hzk⟩ : ∃ zk, z.getD k 0 = zk := ⟨_, rfl⟩
      rw [hzk] at c0 wf
      have hdk : dl z k = zk % 50 := by unfold dl; rw [hzk]
      have hz0 : 0 ≤ zk := by
        simp [Lit.wf, IntKind.min, IntKind.max, IntKind.signed, IntKind.bits] at wf; omega
      have hz1 : zk ≤ 4294967295 := by
        simp [Lit.wf, IntKind.min, IntKind.max, IntKind.signed, IntKind.bits] at wf; omega
      have d0 : wr.cell? ⟨b0, off + k, none⟩ = some (.int .u32 zk) := (hB.cell (p := ⟨b0, off + k, none⟩) hb0).trans c0
      have hch := chr_run k (by omega)
      have hwr : IntKind.i32.wrap (97 + (k : Int)) = 97 + (k : Int) := by
        unfold IntKind.wrap; simp [IntKind.signed, IntKind.bits]; omega
      have hlt' : (k : Int) < (n : Int) := by omega
      have hlt2 : (k : Int) < (len0 : Int) := by omega
      have HD := hide hdk
      have HLT := hide hlt
      have HN := hide hn
      clear c0 wf hc hzk hz hdk hlt hn
      go_wp2_with fail
      refine (wHold (W := w) (hW.keep ((Keep.refl [] wr).alloc _)) (ch k) (ch k) se 0 false (Own.onePr wr ⟨24, zk % 50, se, se⟩) (by simp) (by show 0 ≤ zk % 50 ∧ zk % 50 ≤ 4294967295; omega)).mono ?_
      rintro e w3 ⟨v, rfl, h3, hk3⟩
      have e2 : rmE [] (ch k) = [] := rfl
      rw [e2] at h3
      have hOn := hO.step (by omega) (⟨⟨ch k, 0, 0, false, noWD [⟨24, zk % 50, se, se⟩], ch k, se⟩, v, numPr [⟨24, zk % 50, se, se⟩] 24 0⟩ : Hd) rfl (by rw [HD.out]; rfl)
      have hB3 := hk3.below (Keep.below_of hB ((Keep.refl [] wr).alloc _) (by simp))
      clear e2 hk3
      go_wp2_with fail
      have hlt5 := HLT.out
      exact ⟨⟨k + 1, _, by simp, by omega, h3, hOn, hB3⟩, by simp [intOf] <;> omega⟩
    · obtain rfl : k = n := by omega
      have hnk : ¬ (k : Int) < (k : Int) := by omega
      go_wp2_with fail
      go_loopw [7] (fun i wr => o2Rel w nw b tn tb k z hs i wr) (fun i _ => (intOf i + 1).toNat)
      case atStart => exact ⟨_, k, [], rfl, rfl, by omega, by simpa using hW, OrdR.nil k z, hB⟩
      case round =>
        clear hW hB
        obtain ⟨m, j, r, rfl, hm, hj, hW, hR, hB⟩ := hrel
        have HM := hide hm
        have HN := hide hn
        have HZ := hide hz
        by_cases h0 : j = 0
        · obtain rfl : m = -1 := by omega
          subst h0
          clear hm hn hz
          go_wp2_with fail
          refine (wDue hW 1000 (by omega)).mono ?_
          rintro e w7 ⟨v7, rfl, hO7, h7, hk7⟩
          have f1 : r.filter (fun p => decide (p.2 ≤ 1000)) = r := List.filter_eq_self.2 fun p hp => by
            obtain ⟨i, _, _, rfl⟩ := hR.mem p hp
            have := dl_bd z i
            simp; omega
          have f2 : r.filter (fun p => decide (1000 < p.2)) = [] := List.filter_eq_nil_iff.2 fun p hp => by
            obtain ⟨i, _, _, rfl⟩ := hR.mem p hp
            have := dl_bd z i
            simp; omega
          rw [f1] at hO7 h7
          rw [f2] at h7
          rw [hO.gone (fun i hi => ⟨_, hR.all i (by omega) hi, rfl⟩)] at h7
          have hsrt := hW.tim.sorted
          have hrl := hR.len
          have hTop : ∀ i a, r[i]? = some (ch a, dl z a) → a < k → ∃ x : SM, (r.map (msgAt hs 1000))[i]? = some x ∧ x.f5 = ch a := fun i a hi ha => by
            obtain ⟨x, h1, h2, _⟩ := hO.at hn1 ha
            refine ⟨_, by rw [List.getElem?_map, hi]; rfl, ?_⟩
            simp only [msgAt, h1, Option.getD_some]
            exact h2
          obtain ⟨ms, hms⟩ : ∃ ms, r.map (msgAt hs 1000) = ms := ⟨_, rfl⟩
          rw [hms] at hO7 hTop
          have hml : ms.length = k := by rw [← hms, List.length_map]; omega
          have hLen := wLen h7
          obtain ⟨A7, c7, hv7⟩ := hO7.slice
          rw [hml] at hv7
          subst hv7
          have hBf := hk7.below hB
          have HLen := hide hLen
          have HO7 := hide hO7
          have HR := hide hR
          have HS := hide hsrt
          have HT := hide hTop
          have HML := hide hml
          have hb1 : ((k : Int) != (k : Int)) = false := by simp
          clear f1 f2 hms hml hLen hO7 hTop hsrt hR hk7 hW hB hO
          go_wp2_with fail
          refine HLen.out.mono ?_
          rintro e w8 ⟨rfl, rfl⟩
          go_wp2_with fail
          go_loopw [9] (fun i wr => o3Rel w7 k i wr) (fun i _ => k - (intOf i).toNat)
          case atStart => exact ⟨0, rfl, by omega, Keep.refl _ _⟩
          case round =>
            obtain ⟨q, rfl, hq, hK⟩ := hrel
            by_cases hlt : q + 1 < k
            · obtain ⟨a, b', ha, hb', ea, eb, hab⟩ := HR.out.lt HS.out hn1 (i := q) (by have := HR.out.len; omega)
              have hrl := HR.out.len
              obtain ⟨xa, h1, h2⟩ := HT.out q a (by rw [List.getElem?_eq_getElem (by omega), ea]) ha
              obtain ⟨xb, h3, h4⟩ := HT.out (q + 1) b' (by rw [List.getElem?_eq_getElem (by omega), eb]) hb'
              have hml := HML.out
              obtain ⟨g, cap, _, _, hv, _, hg, _, _, _, _, _, x5, _, _, _⟩ := own_ms_at (HO7.out.keep hK (by simp)) (j := q) (by omega)
              obtain ⟨g', cap', _, _, hv', _, _, _, _, _, _, _, y5, _, _, _⟩ := own_ms_at (HO7.out.keep hK (by simp)) (j := q + 1) (by omega)
              obtain rfl : A7 = some ⟨g, 0, none⟩ := by injection hv
              obtain rfl : g = g' := by injection hv' with h1; injection h1 with h1; injection h1
              rw [List.getElem?_eq_getElem (by omega)] at h1 h3
              injection h1 with h1
              injection h3 with h3
              rw [h1, h2] at x5
              rw [h3, h4] at y5
              obtain ⟨b0, off, rfl, hb0, hc⟩ := Sh.slice_int HR0.out (by omega)
              obtain ⟨ca, wfa⟩ := hc a (by omega)
              obtain ⟨cb, wfb⟩ := hc b' (by omega)
              rw [HZ.out] at ca wfa cb wfb
              have hBr := Keep.below_of hBf hK (by simp)
              have da := (hBr.cell (p := ⟨b0, off + a, none⟩) hb0).trans ca
              have db := (hBr.cell (p := ⟨b0, off + b', none⟩) hb0).trans cb
              obtain ⟨za, hza⟩ : ∃ za, z.getD a 0 = za := ⟨_, rfl⟩
              obtain ⟨zb, hzb⟩ : ∃ zb, z.getD b' 0 = zb := ⟨_, rfl⟩
              have hxa : dl z a = za % 50 := by unfold dl; rw [hza]
              have hxb : dl z b' = zb % 50 := by unfold dl; rw [hzb]
              rw [hza] at da wfa
              rw [hzb] at db wfb
              have hza0 : 0 ≤ za := by simp [Lit.wf, IntKind.min, IntKind.max, IntKind.signed, IntKind.bits] at wfa; omega
              have hzb0 : 0 ≤ zb := by simp [Lit.wf, IntKind.min, IntKind.max, IntKind.signed, IntKind.bits] at wfb; omega
              have hta : za.tmod 50 = dl z a := by rw [hxa, Int.tmod_eq_emod_of_nonneg hza0]
              have htb : zb.tmod 50 = dl z b' := by rw [hxb, Int.tmod_eq_emod_of_nonneg hzb0]
              have hea : za % 50 = dl z a := hxa.symm
              have heb : zb % 50 = dl z b' := hxb.symm
              have dba := dl_bd z a
              have dbb := dl_bd z b'
              obtain ⟨va, hva⟩ : ∃ va, dl z a = va := ⟨_, rfl⟩
              obtain ⟨vb, hvb⟩ : ∃ vb, dl z b' = vb := ⟨_, rfl⟩
              rw [hva] at hta hea dba hab
              rw [hvb] at htb heb dbb hab
              have ixa := ix_run a (by omega)
              have ixb := ix_run b' (by omega)
              have hqk : (q : Int) + 1 < (k : Int) := by omega
              have hqk0 : (q : Int) < (k : Int) := by omega
              have q0 : (0 : Int) ≤ (q : Int) := by omega
              have q1 : (0 : Int) ≤ (q : Int) + 1 := by omega
              have a0' : (0 : Int) ≤ (a : Int) := by omega
              have b0' : (0 : Int) ≤ (b' : Int) := by omega
              have al : (a : Int) < (len0 : Int) := by omega
              have bl : (b' : Int) < (len0 : Int) := by omega
              have s1 : IntKind.i64.wrap ((q : Int) + 1 - 1) = (q : Int) := by rw [show (q : Int) + 1 - 1 = q by omega]; exact IntWalk.i64_in _ (by omega)
              have s2 : ((q : Int) + 1).toNat = q + 1 := by omega
              have s3 : IntKind.u8.wrap (97 + (a : Int) - 97) = (a : Int) := by unfold IntKind.wrap; simp [IntKind.signed, IntKind.bits]; omega
              have s4 : IntKind.u8.wrap (97 + (b' : Int) - 97) = (b' : Int) := by unfold IntKind.wrap; simp [IntKind.signed, IntKind.bits]; omega
              have HQK := hide (show q + 1 < k from hlt)
              have HKK := hide hK
              have HAB := hide hab
              have HDA := hide (And.intro dba dbb)
              have HH := hide (And.intro ha hb')
              clear h1 h2 h3 h4 hv hv' ca cb wfa wfb hc hza hzb hxa hxb hva hvb hBr hab dba dbb hK ha hb'
              have g1 : decide (vb < va) = false := by have := HAB.out; simp; omega
              by_cases e1 : va = vb
              · have e2 : (va == vb) = true := by simpa using e1
                have e3 : decide ((b' : Int) ≤ (a : Int)) = false := by have := HAB.out; simp; omega
                have e4 : decide (b' ≤ a) = false := by have := HAB.out; simp; omega
                have e5 : a < b' := by have := HAB.out; omega
                clear e1
                go_wp2_with fail
                go_quiet (fail)
                go_wp2_with fail
                go_quiet (fail)
                go_wp2_with fail
                exact ⟨⟨q + 1, by simp, .inl (by have := HQK.out; clear s1 s2 s3 s4 hta htb hea heb; omega), HKK.out.drewN _⟩, by have := HQK.out; clear s1 s2 s3 s4 hta htb hea heb; simp [intOf]; omega⟩
              · have e2 : (va == vb) = false := by simpa using e1
                clear e1
                go_wp2_with fail
                go_quiet (fail)
                go_wp2_with fail
                go_quiet (fail)
                go_wp2_with fail
                exact ⟨⟨q + 1, by simp, .inl (by have := HQK.out; clear s1 s2 s3 s4 hta htb hea heb; omega), HKK.out.drewN _⟩, by have := HQK.out; clear s1 s2 s3 s4 hta htb hea heb; simp [intOf]; omega⟩
            · have hnq : ¬ ((q : Int) + 1 < (k : Int)) := by omega
              have hbb := Keep.below_of hBf hK (by simp)
              go_wp2_with fail
              go_ret
              exact ⟨rfl, hbb⟩
        · obtain ⟨j', rfl⟩ : ∃ j', j = j' + 1 := ⟨j - 1, by omega⟩
          obtain rfl : m = (j' : Int) := by omega
          have hch := chr_run j' (by omega)
          have hwr : IntKind.i32.wrap (97 + (j' : Int)) = 97 + (j' : Int) := by
            unfold IntKind.wrap; simp [IntKind.signed, IntKind.bits]; omega
          have hj0 : (0 : Int) ≤ (j' : Int) := by omega
          have hj20 : (j' : Int) ≤ 20 := by omega
          have HJ := hide hj
          clear hm hn hz h0 hj
          go_wp2_with fail
          ((with_reducible refine (wEnd hW (ch j') 0 1000 (by simp [ch, ByteArray.size]) (by decide) (by decide) (by decide) (by decide)).mono ?_))
          rintro e w3 ⟨rfl, h3, hk3⟩
          have hjj := HJ.out
          have he : endW hs r (ch j') 0 1000 = insE (rmE r (ch j')) (ch j', dl z j') := by
            obtain ⟨x, h1, _, h2⟩ := hO.at hn1 (show j' < k by omega)
            have := dl_bd z j'
            unfold endW
            simp only [h1, h2]
            rw [show (0 : Int) + min (dl z j') 1000 = dl z j' by omega]
          rw [he] at h3
          have hRn := hR.step (by omega) hn1
          have hB3 := hk3.below hB
          clear he hk3
          go_wp2_with fail
          exact ⟨⟨_, j', _, rfl, rfl, by omega, h3.mono (by omega), hRn, hB3⟩, by simp [intOf]⟩
end Go.Proofs.Ytegnmdnflmlioaa
