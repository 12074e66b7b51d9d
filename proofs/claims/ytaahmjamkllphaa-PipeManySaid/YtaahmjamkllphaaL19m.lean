/- Connections have nothing to do with each other: the walk (under way). -/
import Derived.Test.YtaahmjamkllphaaL19
import Derived.IntWalk
namespace Go.Proofs.Ytaahmjamkllphaa
open Go.RowKit
set_option maxRecDepth 10000
set_option linter.unusedVariables false
set_option maxHeartbeats 1000000

/-- The first k connections, as new. -/
def MK (k : Nat) : Int → Option Cn := fun i => if 0 ≤ i ∧ i < k then some Cn.new else none

theorem MK_step (k : Nat) : upM (MK k) k Cn.new = MK (k + 1) := by
  funext i
  unfold upM MK
  by_cases h : i = (k : Int)
  · rw [if_pos h, if_pos (by omega)]
  · rw [if_neg h]
    by_cases h2 : 0 ≤ i ∧ i < (k : Int)
    · rw [if_pos h2, if_pos (by omega)]
    · rw [if_neg h2, if_neg (by omega)]

def manyRel (w : World) (n b : Nat) (i : Value) (wr : World) : Prop :=
  ∃ (k : Nat) (l : List (Int × Nat)), i = .int .i64 k ∧ k ≤ 4 ∧ l.length = k ∧ NetAt wr n b l (MK k) ∧ Keep [] w wr ∧ w.heap.size ≤ n ∧ w.heap.size ≤ b ∧ ∀ q c, AL.get l q = some c → w.heap.size ≤ c

theorem get_of_M {w : World} {n b : Nat} {l : List (Int × Nat)} {M : Int → Option Cn} (h : NetAt w n b l M) {k : Int} (hM : M k = none) : AL.get l k = none := by
  cases hk : AL.get l k with
  | none => rfl
  | some c =>
    obtain ⟨x, hx, _⟩ := h.conn k c hk
    rw [hM] at hx
    cases hx

theorem get_of_M' {w : World} {n b : Nat} {l : List (Int × Nat)} {M : Int → Option Cn} (h : NetAt w n b l M) {k : Int} {x : Cn} (hM : M k = some x) : ∃ c, AL.get l k = some c := by
  cases hk : AL.get l k with
  | none =>
    have := h.none k hk
    rw [hM] at this
    cases this
  | some c => exact ⟨c, rfl⟩

theorem and3 (a : Int) : 0 ≤ bits BinOp.and .i64 a 3 ∧ bits BinOp.and .i64 a 3 < 4 := by
  simp only [bits]
  have h : (BitVec.ofInt IntKind.i64.bits a &&& BitVec.ofInt IntKind.i64.bits 3).toNat ≤ 3 := by
    rw [BitVec.toNat_and]
    exact Nat.le_trans Nat.and_le_right (by decide)
  rw [IntWalk.i64_in _ (by omega)]
  omega

theorem MK_at (k : Nat) (i : Int) (h : 0 ≤ i ∧ i < k) : MK k i = some Cn.new := by unfold MK; rw [if_pos h]

theorem upM2 (M : Int → Option Cn) (k : Int) (x y : Cn) : upM (upM M k x) k y = upM M k y := by
  funext k'
  unfold upM
  by_cases h : k' = k
  · rw [if_pos h, if_pos h]
  · rw [if_neg h, if_neg h, if_neg h]

theorem newChunk : (⟨Cn.new.p.chunk 100, Cn.new.said, Cn.new.hung⟩ : Cn) = Cn.new := rfl

theorem upM_id (M : Int → Option Cn) (k : Int) (x : Cn) (h : M k = some x) : upM M k x = M := by
  funext k'
  unfold upM
  by_cases e : k' = k
  · rw [if_pos e, e, h]
  · rw [if_neg e]

/-- The state of Q. -/
def yQ (s t : ByteArray) (done : Bool) : Cn := ⟨if done then (Cn.new.p.send s).chunk 100 else Cn.new.p.send s, t, false⟩

def readRel (w : World) (n b : Nat) (l : List (Int × Nat)) (Q : Int) (s t : ByteArray) (i : Value) (wr : World) : Prop :=
  ∃ k : Nat, i = .int .i64 k ∧ k ≤ 4 ∧ NetAt wr n b l (upM (MK 4) Q (yQ s t (decide (Q < k)))) ∧ Keep [] w wr

theorem many_walk (a0 : Int) (a1 a2 : ByteArray) (w : World) (w0 : (Lit.int .i64 a0).wf = true) (w1 : a1.size ≤ maxLen) (w2 : a2.size ≤ maxLen) :
    Calls Try.prog 7 #[.int .i64 a0, .string a1, .string a2] w fun e w' => e = .returned (.bool true) ∧ Below w.heap.size w w' := by
  go_enter Try.func7, Try.ntmps7
  go_wp2_with fail
  refine (cut01_any a1 30 _).mono ?_
  rintro e wa ⟨rfl, rfl⟩
  go_wp2_with fail
  refine (cut01_any a2 30 _).mono ?_
  rintro e wb ⟨rfl, rfl⟩
  go_wp2_with fail
  refine (awake19 _).mono ?_
  rintro e wc ⟨rfl, hK2⟩
  go_wp2_with fail
  refine (new_any _).mono ?_
  rintro e wd ⟨⟨n, b⟩, rfl, hN, hK3, hn, hb⟩
  have hsz2 := hK2.size
  have hbl := hN.map.lt
  go_wp2_with fail
  go_loopw [20] (fun i wr => manyRel wb n b i wr) (fun i _ => 4 - (intOf i).toNat)
  case atStart =>
    refine ⟨0, [], rfl, by omega, rfl, ?_, hK2.then hK3, by omega, by omega, fun q c h => by simp [AL.get] at h⟩
    have e : MK 0 = fun _ => none := by funext i; unfold MK; rw [if_neg (by omega)]
    rw [e]; exact hN
  case round =>
    obtain ⟨k, l, rfl, hk, hl, hNk, hKk, hnn, hbb, hcc⟩ := hrel
    by_cases hlt : k < 4
    · have hg := get_of_M hNk (k := (k : Int)) (by unfold MK; rw [if_neg (by omega)])
      have HG := hide hg
      clear hg
      go_wp2_with fail
      refine (open_new _ n b l _ hNk k HG.out).mono ?_
      rintro e we ⟨rfl, hN2, hK5⟩
      rw [MK_step] at hN2
      have hsk := hKk.size
      go_wp2_with fail
      refine ⟨⟨k + 1, _, rfl, by omega, ?_, hN2, hKk.trans hK5 (by simp) (by simp; omega), hnn, hbb, ?_⟩, by simp [intOf] <;> omega⟩
      · have hi : AL.idx l (k : Int) = none := by
          have := HG.out
          rw [AL.get_idx] at this
          simpa using this
        rw [set_of_none _ hi]
        simp [hl]
      · intro q c hc
        rw [AL.get_set] at hc
        split at hc
        · cases hc; exact hsk
        · exact hcc q c hc
    · have hk4 : k = 4 := by omega
      subst hk4
      have hQ := and3 a0
      have hcs := cutS_size a1 30
      have hct := cutS_size a2 30
      go_wp2_with fail
      obtain ⟨Q, eQ⟩ : ∃ Q, bits BinOp.and IntKind.i64 a0 3 = Q := ⟨_, rfl⟩
      rw [eQ] at hQ ⊢
      clear eQ
      obtain ⟨s, es⟩ : ∃ s, cutS a1 30 = s := ⟨_, rfl⟩
      obtain ⟨t, et⟩ : ∃ t, cutS a2 30 = t := ⟨_, rfl⟩
      rw [es] at hcs ⊢
      rw [et] at hct ⊢
      clear es et
      obtain ⟨c, hc⟩ := get_of_M' hNk (MK_at 4 Q (by omega))
      have hcw := hcc Q c hc
      refine (write_ok _ n b l _ hNk Q c _ hc (MK_at 4 Q (by omega)) rfl s (by simp [Cn.new]; omega)).mono ?_
      rintro e we ⟨rfl, hN5, hK5⟩
      go_wp2_with fail
      refine (say_ok _ n b l _ hN5 Q c _ hc (by unfold upM; rw [if_pos rfl]) rfl t (by simp [Cn.new]; omega)).mono ?_
      rintro e wf ⟨rfl, hN6, hK6⟩
      rw [upM2] at hN6
      have hKk5 : Keep [] wb we := hKk.trans hK5 (by simp) (by simp; omega)
      have hKk6 : Keep [] wb wf := hKk5.trans hK6 (by simp) (by simp; omega)
      go_wp2_with fail
      go_loopw [37] (fun i wr => readRel wb n b l Q s t i wr) (fun i _ => 4 - (intOf i).toNat)
      case atStart =>
        refine ⟨0, rfl, by omega, ?_, hKk6⟩
        have e : yQ s t (decide (Q < ((0 : Nat) : Int))) = ⟨Cn.new.p.send s, ByteArray.empty ++ t, false⟩ := by
          rw [show decide (Q < ((0 : Nat) : Int)) = false by simp; omega]
          simp [yQ]
        rw [e]
        exact hN6
      case round =>
        obtain ⟨k, rfl, hk', hNr, hKr⟩ := hrel
        have HN := hide hNr
        clear hNk hN5 hN6 hNr
        by_cases hlt : k < 4
        · by_cases hkq : (k : Int) = Q
          · have hne : (Q == Q) = true := by simp
            subst hkq
            have hy : decide ((k : Int) < (k : Int)) = false := by simp
            have HR := hide HN.out
            rw [hy] at HR
            have hM1 : upM (MK 4) (k : Int) (yQ s t false) (k : Int) = some (yQ s t false) := by unfold upM; rw [if_pos rfl]
            have hkk : (Cn.new.p.send s).k 100 = s.size := by
              have : (Cn.new.p.send s).wait.size = s.size := by simp [Pp.send, Cn.new]
              unfold Pp.k; rw [this]; omega
            have hsw : (Cn.new.p.send s).wait = s := by simp [Pp.send, Cn.new]
            have hx : (Cn.new.p.send s).wait.extract 0 ((Cn.new.p.send s).k 100) = s := by rw [hkk, hsw, ByteArray.extract_zero_size]
            have hen : ((Cn.new.p.send s).chunk 100).ended = false := by simp [Pp.ended, Pp.chunk, Pp.send, Cn.new]
            have HX := hide hx
            have HEN := hide hen
            clear hx hen hkk hsw hy
            go_wp2_with fail
            refine (read_ok _ n b l _ HR.out k c _ hc hM1 rfl 100 (by simp [yQ, Pp.send, Cn.new]; omega) (by simp [yQ, Pp.send, Cn.new])).mono ?_
            rintro e w6 ⟨rfl, hN7, hK7⟩
            rw [upM2] at hN7
            rw [show (yQ s t false).p.wait.extract 0 ((yQ s t false).p.k 100) = s from HX.out, show ((yQ s t false).p.chunk 100).ended = false from HEN.out]
            have hM2 : upM (MK 4) (k : Int) { yQ s t false with p := (yQ s t false).p.chunk 100 } (k : Int) = some { yQ s t false with p := (yQ s t false).p.chunk 100 } := by unfold upM; rw [if_pos rfl]
            go_wp2_with fail
            refine (said_ok _ n b l _ hN7 k _ c hc hM2).mono ?_
            rintro e w7 ⟨rfl, rfl⟩
            rw [show (Cn.said { yQ s t false with p := (yQ s t false).p.chunk 100 }) = t from rfl]
            go_wp2_with fail
            refine ⟨⟨k + 1, rfl, by omega, ?_, hKr.trans hK7 (by simp) (by simp; omega)⟩, by simp [intOf] <;> omega⟩
            rw [show decide ((k : Int) < ((k + 1 : Nat) : Int)) = true by simp; omega]
            exact hN7
          · by_cases ht0 : t = ByteArray.empty
            · have hne : ((k : Int) == Q) = false := by simpa using hkq
              have hM1 : upM (MK 4) Q (yQ s t (decide (Q < (k : Int)))) (k : Int) = some Cn.new := by
                unfold upM; rw [if_neg hkq]; exact MK_at 4 k (by omega)
              obtain ⟨c', hc'⟩ := get_of_M' HN.out hM1
              have hcw' := hcc _ _ hc'
              have hHid := hide hM1
              have hd : decide (Q < (k : Int)) = decide (Q < ((k + 1 : Nat) : Int)) := by
                by_cases h : Q < (k : Int)
                · rw [decide_eq_true h, decide_eq_true (by omega)]
                · rw [decide_eq_false h, decide_eq_false (by omega)]
              have HD := hide hd
              clear hd hM1
              subst ht0
              go_wp2_with fail
              refine (read_ok _ n b l _ HN.out k c' _ hc' hHid.out rfl 100 (by simp [Cn.new]) (by simp [Cn.new])).mono ?_
              rintro e w6 ⟨rfl, hN7, hK7⟩
              rw [show Cn.new.p.wait.extract 0 (Cn.new.p.k 100) = ByteArray.empty from rfl, show (Cn.new.p.chunk 100).ended = false from rfl]
              rw [show (⟨Cn.new.p.chunk 100, Cn.new.said, Cn.new.hung⟩ : Cn) = Cn.new from newChunk, upM_id _ _ _ hHid.out] at hN7
              go_wp2_with fail
              refine (said_ok _ n b l _ hN7 k _ c' hc' hHid.out).mono ?_
              rintro e w7 ⟨rfl, rfl⟩
              rw [show Cn.new.said = ByteArray.empty from rfl]
              go_wp2_with fail
              refine (said_ok _ n b l _ hN7 k _ c' hc' hHid.out).mono ?_
              rintro e w8 ⟨rfl, rfl⟩
              rw [show Cn.new.said = ByteArray.empty from rfl]
              go_wp2_with fail
              refine ⟨⟨k + 1, rfl, by omega, ?_, hKr.trans hK7 (by simp) (by simp; omega)⟩, by simp [intOf] <;> omega⟩
              rw [← HD.out]; exact hN7
            · have hne : ((k : Int) == Q) = false := by simpa using hkq
              have hM1 : upM (MK 4) Q (yQ s t (decide (Q < (k : Int)))) (k : Int) = some Cn.new := by
                unfold upM; rw [if_neg hkq]; exact MK_at 4 k (by omega)
              obtain ⟨c', hc'⟩ := get_of_M' HN.out hM1
              have hcw' := hcc _ _ hc'
              have hHid := hide hM1
              have hd : decide (Q < (k : Int)) = decide (Q < ((k + 1 : Nat) : Int)) := by
                by_cases h : Q < (k : Int)
                · rw [decide_eq_true h, decide_eq_true (by omega)]
                · rw [decide_eq_false h, decide_eq_false (by omega)]
              have HD := hide hd
              clear hd hM1
              have ht1 : ¬ t.toList = [] := fun h => ht0 (by rw [ByteArray.toList_eq] at h; cases t with | mk d => cases d with | mk l => simp at h; subst h; rfl)
              go_wp2_with fail
              refine (read_ok _ n b l _ HN.out k c' _ hc' hHid.out rfl 100 (by simp [Cn.new]) (by simp [Cn.new])).mono ?_
              rintro e w6 ⟨rfl, hN7, hK7⟩
              rw [show Cn.new.p.wait.extract 0 (Cn.new.p.k 100) = ByteArray.empty from rfl, show (Cn.new.p.chunk 100).ended = false from rfl]
              rw [show (⟨Cn.new.p.chunk 100, Cn.new.said, Cn.new.hung⟩ : Cn) = Cn.new from newChunk, upM_id _ _ _ hHid.out] at hN7
              go_wp2_with fail
              refine (said_ok _ n b l _ hN7 k _ c' hc' hHid.out).mono ?_
              rintro e w7 ⟨rfl, rfl⟩
              rw [show Cn.new.said = ByteArray.empty from rfl]
              go_wp2_with fail
              refine (said_ok _ n b l _ hN7 k _ c' hc' hHid.out).mono ?_
              rintro e w8 ⟨rfl, rfl⟩
              rw [show Cn.new.said = ByteArray.empty from rfl]
              go_wp2_with fail
              refine ⟨⟨k + 1, rfl, by omega, ?_, hKr.trans hK7 (by simp) (by simp; omega)⟩, by simp [intOf] <;> omega⟩
              rw [← HD.out]; exact hN7
        · have hk4 : k = 4 := by omega
          subst hk4
          have hdd : decide (Q < ((4 : Nat) : Int)) = true := by simp; omega
          rw [hdd] at HN
          clear hdd
          obtain ⟨y, ey⟩ : ∃ y, yQ s t true = y := ⟨_, rfl⟩
          have hyh : y.hung = false := by rw [← ey]; rfl
          have hyt : y.said = t := by rw [← ey]; rfl
          rw [ey] at HN
          clear ey
          have hM1 : upM (MK 4) Q y Q = some y := by unfold upM; rw [if_pos rfl]
          go_wp2_with fail
          refine (hang_ok _ n b l _ HN.out Q c _ hc hM1 hyh).mono ?_
          rintro e w6 ⟨rfl, hN7, hK7⟩
          rw [upM2] at hN7
          have hK8 : Keep [] wb w6 := hKr.trans hK7 (by simp) (by simp; omega)
          obtain ⟨y', ey'⟩ : ∃ y' : Cn, ({ y with hung := true } : Cn) = y' := ⟨_, rfl⟩
          have hyh' : y'.hung = true := by rw [← ey']
          have hyt' : y'.said = t := by rw [← ey']; exact hyt
          rw [ey'] at hN7
          clear ey'
          have hM2 : upM (MK 4) Q y' Q = some y' := by unfold upM; rw [if_pos rfl]
          have hlv : ∀ i : Int, 0 ≤ i ∧ i < 4 → liveK (upM (MK 4) Q y') i = !decide (i = Q) := by
            intro i hi
            unfold liveK upM
            by_cases e : i = Q
            · rw [if_pos e]; simp [hyh', e]
            · rw [if_neg e, MK_at 4 i (by omega)]; simp [e, Cn.new]
          have HLV := hide hlv
          have HN7 := hide hN7
          clear hlv hN7 hM1
          go_wp2_with fail
          refine (live_any _ n b l _ HN7.out (sorts_short _ (by omega)) (by omega)).mono ?_
          rintro e w7 ⟨⟨v, L⟩, rfl, hKo, hrow, hK9⟩
          simp only at hKo hrow
          have hmem : ∀ q ∈ L, 0 ≤ q ∧ q < 4 := by
            intro q hq
            have h1 := (hKo.2.1 q).1 hq
            have h2 : (AL.get l q).isSome = true := AL.get_isSome.2 h1
            cases hg : AL.get l q with
            | none => rw [hg] at h2; cases h2
            | some c2 =>
              obtain ⟨x2, hx2, _⟩ := HN7.out.conn q c2 hg
              unfold upM at hx2
              by_cases e : q = Q
              · omega
              · rw [if_neg e] at hx2
                unfold MK at hx2
                by_cases e2 : 0 ≤ q ∧ q < ((4 : Nat) : Int)
                · omega
                · rw [if_neg e2] at hx2; cases hx2
          have hlen : L.length = 4 := by rw [hKo.2.2, hl]
          have hL : L = [0, 1, 2, 3] := by
            have hp := hKo.1
            match L, hlen with
            | [p0, p1, p2, p3], _ =>
              simp at hp hmem
              have h0 : p0 = 0 := by omega
              have h1 : p1 = 1 := by omega
              have h2 : p2 = 2 := by omega
              have h3 : p3 = 3 := by omega
              rw [h0, h1, h2, h3]
          have hcount : (L.filter (liveK (upM (MK 4) Q y'))).length = 3 := by
            rw [hL]
            simp only [List.filter, HLV.out 0 (by omega), HLV.out 1 (by omega), HLV.out 2 (by omega), HLV.out 3 (by omega)]
            have : Q = 0 ∨ Q = 1 ∨ Q = 2 ∨ Q = 3 := by omega
            rcases this with rfl | rfl | rfl | rfl <;> decide
          rw [hcount] at hrow
          rcases hrow.2 with ⟨_, h0⟩ | ⟨g, cap, cur, hv, _⟩
          · cases h0
          · subst hv
            have HN8 := hide (HN7.out.keep hK9 (by simp) (by simp) (by simp))
            clear hrow hcount hL hlen hmem hKo
            go_wp2_with fail
            refine (said_ok _ n b l _ HN8.out Q _ c hc hM2).mono ?_
            rintro e w8 ⟨rfl, rfl⟩
            rw [hyt']
            go_wp2_with fail
            go_ret
            exact ⟨rfl, (hK8.then hK9).below⟩
end Go.Proofs.Ytaahmjamkllphaa
