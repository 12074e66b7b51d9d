import Derived.Test.YtjhhnidfmoejdaaDoorLg
import Derived.Test.YtjhhnidfmoejdaaDoorLayL
import Derived.Lib.LaidTab
import Derived.Lib.AppendIntMem
import Derived.Lib.ItoaLen
import Derived.IntWalk
import Derived.Deep.RegionHeld3
import Derived.Deep.DeepFit
import Derived.RegionTactic
namespace Go.Proofs.YtjhhnidfmoejdaaDoor
open Go.RowKit Go.Proofs.YtjhhnidfmoejdaaDoor.PLedgerPlays Go.Proofs.YtjhhnidfmoejdaaDoorW.PrintWords Go.Proofs.YtjhhnidfmoejdaaDoorW.PrintLast
set_option maxRecDepth 10000
set_option linter.unusedVariables false
set_option maxHeartbeats 1000000
def Tab (W : World) : Prop := Lib.TabBelow Tryd.prog W.heap.size W "internal/strconv.uint64pow10" .u64 Lib.pow10Tab
theorem laid_tail {P : Program} {W : World} {x : String × DataW Unit} {rest : List (String × DataW Unit)} (h : laidMet P (x :: rest) W) : laidMet P rest W := by
  obtain ⟨ps, ⟨g, t, cs, fuel, p, q, h1, h2, h3, h4, h5, rfl⟩, hn, hc⟩ := h
  exact ⟨q, h5, (List.nodup_append.1 hn).2.1, fun b off hm => hc b off (List.mem_append_right _ hm)⟩
def dig (n : Int) : BA := ⟨(Lib.itoa n).toArray⟩
def msg (s : BA) (n : Int) : BA := (s ++ ⟨#[32]⟩) ++ dig n
theorem dig_size (n : Int) (h0 : 0 ≤ n) (h1 : n ≤ 4294967295) : (dig n).size ≤ 21 := by
  have := Lib.itoa_length_le n (by omega) (by omega)
  unfold dig
  simpa [ByteArray.size] using this
theorem itoa_any {W w : World} (hT : Tab W) (hB : Below W.heap.size W w) (n : Int) (h0 : 0 ≤ n) (h1 : n ≤ 4294967295) : Calls Tryd.prog 29 #[.int .i64 n] w fun e w' => e = .returned (.string (dig n)) ∧ Keep [] w w' := by
  refine (Any.strconv_Itoa Tryd.itoa n (by omega) (by omega) w (hT w hB)).mono ?_
  rintro e w' ⟨rfl, k, os, rfl⟩
  exact ⟨rfl, Keep.of_below (Lib.below_grow _ w (Nat.le_refl _) k os)⟩
theorem lWrong {W w : World} {p : Pl} {S : Lg} (hT : Tab W) (h : Sd W w p S) (s : BA) (hs : s.size ≤ 100) (id : Int) (h0 : 0 ≤ id) (h1 : id ≤ 4294967295) (hl : S.er.length < 100000) :
    Calls Tryd.prog 16 #[ptrTo p.n, .string s, .int .u32 id] w (Px fun (v : Value) e w' => e = .returned (.tuple #[]) ∧ Sd W w' { p with ev := v } { S with er := S.er ++ [msg s id] } ∧ Gone p { p with ev := v } w w') := by
  have HH := hide h
  have hsz := h.bel.size
  obtain ⟨A, c, hA⟩ := h.er.slice
  have HS := hide (fun (w' : World) (hk : Keep [] w w') => show w'.cell? ⟨p.n, 4, none⟩ = some (.slice A S.er.length c) from by rw [← hA]; exact (h.box.keep hk (by simp)).cell 4)
  have HF := hide (fun (w' : World) (hk : Keep [] w w') => show w'.frozen? ⟨p.n, 4, none⟩ = false from (h.box.keep hk (by simp)).frozen 4 (by simp))
  have ew : IntKind.i64.wrap id = id := IntWalk.i64_in _ (by omega)
  have HI := hide (fun (w' : World) (hk : Keep [] w w') => show Calls Tryd.prog 29 #[.int .i64 (IntKind.i64.wrap id)] w' fun e w'' => e = .returned (.string (dig id)) ∧ Keep [] w' w'' from by rw [ew]; exact itoa_any hT (h.keep hk).bel id h0 h1)
  have HO := hide (fun (w' : World) (hk : Keep [] w w') => show Own Kd.string StrT W.heap.size w' (.slice A S.er.length c) S.er from hA ▸ (h.keep hk).er)
  have hnlt := h.box.lt
  have HNE := hide (show ∀ k, (Value.slice A S.er.length c).ownBlock = some k → k ≠ p.n from fun k hk => (h.ene (by rw [hA]; exact hk)).1)
  have HA := hide hA
  obtain ⟨n, hn⟩ : ∃ n, p.n = n := ⟨_, rfl⟩
  obtain ⟨er, hE⟩ : ∃ er, S.er = er := ⟨_, rfl⟩
  rw [hn] at HS HF HNE hnlt
  rw [hE] at HS HO HNE hl HA
  have HN := hide hn
  have HE := hide hE
  have hd := dig_size id h0 h1
  have g1 : ¬ 9223372036854775807 < s.size + 1 := by omega
  have g2 : ¬ 9223372036854775807 < (s ++ ⟨#[32]⟩).size + (dig id).size := by
    rw [ByteArray.size_append]; show ¬ 9223372036854775807 < s.size + 1 + _; omega
  have g3 : ¬ 9223372036854775807 < s.size + 1 + (dig id).size := by omega
  have g4 : ¬ 9223372036854775807 < s.size + ByteArray.size ⟨#[32]⟩ + (dig id).size := by show ¬ 9223372036854775807 < s.size + 1 + _; omega
  have HM := hide (show (s ++ ⟨#[32]⟩) ++ dig id = msg s id from rfl)
  obtain ⟨di, hdi⟩ : ∃ di, dig id = di := ⟨_, rfl⟩
  rw [hdi] at g2 g3 g4 HI HM
  have c4 := HS.out w (Keep.refl _ _)
  have hc0 : Keep [] w w.drew := (Keep.refl _ _).drew
  rw [hn, hE]
  clear h hn hE hA hd hdi ew
  go_enter Tryd.func16, Tryd.ntmps16
  go_wp2_with fail
  have d4 : w.drew.cell? ⟨n, 4, none⟩ = some (.slice A er.length c) := c4
  go_region_law
    (first
      | (go_simp; go_at_call 29; (with_reducible refine (HI.out _ (by assumption)).mono ?_); rintro e wm ⟨rfl, hk⟩; have hc : Keep [] w wm := Keep.then (by assumption) hk; have hsm := hc.size; have m4 := HS.out _ hc; have m4a := fun o => HS.out _ (hc.alloc o))
      | (refine Own.append_step2 Kd.string fltS (W := wm) W.heap.size (by simp [Region.wanted]) (.tmp 10) (.tmp 17) StrsT StrT _ _ rfl Tryd.underlying39 infoS rfl (by decide) (by decide) (.slice A er.length c) er ((s ++ ⟨#[32]⟩) ++ di) _ (by simp [Act.eval]) wm.heap.size (by simp) (by simp [Act.eval]) (by exact rfl) (HO.out _ hc) (by omega) (by omega) ?_; intro v1 w7 hO2 hg2 hr2; obtain ⟨A7, c7, rfl⟩ := hO2.slice; rw [show (er ++ [(s ++ ⟨#[32]⟩) ++ di]).length = er.length + 1 by simp] at hO2 hr2 ⊢; have HO2 := hide hO2; clear hO2; have hB7 := hg2.block n (by omega) (fun e => HNE.out n e.symm rfl); have hc7 : w7.cell? ⟨n, 4, none⟩ = some (.slice A er.length c) := (World.cell?_of_block (w := wm) hB7).trans (HS.out _ hc); have hf7 : w7.frozen? ⟨n, 4, none⟩ = false := (World.frozen?_of_block (w := wm) hB7).trans (HF.out _ hc); have HG := hide hg2; have HR := hide hr2; clear hg2 hr2)
      | (fail))
  all_goals go_wp2_with fail
  all_goals
    go_end0
    rw [HM.out] at HO2
    have hfin := HH.out.evp hc (by rw [HA.out]; exact HG.out) HO2.out (by rw [HA.out]; exact HR.out)
    rw [HN.out] at hfin
    exact ⟨_, rfl, hfin⟩
end Go.Proofs.YtjhhnidfmoejdaaDoor
