import Derived.Test.YtegnmdnflmlioaaTm
import Derived.Deep.RegionLaw
import Derived.BigRegion
namespace Go.Proofs.Ytegnmdnflmlioaa
open Go.RowKit Go.Shelf Go.Proofs.YtegnmdnflmlioaaW.PrintWords Go.Proofs.YtegnmdnflmlioaaW.PrintLast
set_option maxRecDepth 100000
set_option linter.unusedVariables false
set_option maxHeartbeats 1000000
attribute [local go_sem] Oper.semAt_some
def EntsOf (xs l : List En) : Prop := xs.Perm l ∧ xs.Pairwise ltE
theorem get_mem {l : List En} (h : (l.map (·.1)).Nodup) {p : En} (hp : p ∈ l) : AL.get l p.1 = some p.2 := by
  induction l with
  | nil => simp at hp
  | cons a t ih =>
    obtain ⟨k, v⟩ := a
    simp only [List.map_cons, List.nodup_cons] at h
    simp only [AL.get]
    rcases List.mem_cons.1 hp with rfl | hp
    · simp
    · rw [if_neg (by intro e; exact h.1 (e ▸ List.mem_map_of_mem hp))]
      exact ih h.2 hp
theorem ents_perm {L : List BA} {l : List En} (h : L.Perm (l.map (·.1))) (hn : (l.map (·.1)).Nodup) : (L.map fun k => (k, (AL.get l k).getD 0)).Perm l := by
  have h1 := h.map (fun k => (k, (AL.get l k).getD 0))
  refine h1.trans ?_
  rw [List.map_map]
  have : l.map ((fun k => (k, (AL.get l k).getD 0)) ∘ fun p : En => p.1) = l.map id := by
    refine List.map_congr_left fun p hp => ?_
    show (p.1, (AL.get l p.1).getD 0) = p
    rw [get_mem hn hp]; rfl
  rw [this, List.map_id]
theorem entsOf_of {xs l : List En} (h : xs.Perm l) (hn : (l.map (·.1)).Nodup) (hs : xs.Pairwise (fun a b => ¬ ltE b a)) : EntsOf xs l := by
  refine ⟨h, ?_⟩
  have hn' : (xs.map (·.1)).Nodup := (h.map (·.1)).nodup_iff.2 hn
  have hnd := List.pairwise_map.1 hn'
  refine (hs.and hnd).imp fun {a b} ⟨h1, h2⟩ => ?_
  rcases ltE.total a b with h3 | h3 | h3
  · exact h3
  · exact absurd (by rw [h3]) h2
  · exact absurd h3 h1
def RowBox (w : World) (B base : Nat) (xs : List En) : Prop := ∃ v, Blk w B #[v] EntsT ∧ Own kE EntT base w v xs
theorem infoE : (Try.prog.info? EntT).map (fun i => (i.zero, i.size, i.bytes)) = some (some (.agg #[.string ByteArray.empty, .int .i64 0]), 2, 24) := by kernel_rfl
theorem flatS : Flat Kd.string (fun x : BA => [Value.string x]) where
  len _ := rfl
  M := Iff.rfl
theorem own_strs {w : World} {base : Nat} {v : Value} {L : List BA} (h : w.ownsRow base StrT 1 v L.length (L.map Value.string)) : Own Kd.string StrT base w v L :=
  Own.of_flat flatS (by
    have : L.flatMap (fun x : BA => [Value.string x]) = L.map Value.string := by clear h; induction L with | nil => rfl | cons a t ih => rw [List.flatMap_cons, ih]; rfl
    rw [this]; exact h)
theorem own_str_at {base : Nat} {w : World} {v : Value} {l : List BA} (h : Own Kd.string StrT base w v l) {j : Nat} (hj : j < l.length) :
    ∃ g cap, v = .slice (some ⟨g, 0, none⟩) l.length cap ∧ g < w.heap.size ∧ w.cell? ⟨g, j, none⟩ = some (.string l[j]) := by
  obtain ⟨g, cap, hv, _, hg⟩ := h.form (by omega)
  obtain ⟨A, c, hv', _, hC⟩ := h.reads
  rw [hv] at hv'
  cases hv'
  obtain ⟨ad, c1, e, hc1, hK, hcell⟩ := Kd.C_get hC ByteArray.empty (j : Int) (by omega) (by omega)
  cases e
  have hK' : c1 = [.string (l.getD (j : Int).toNat ByteArray.empty)] := hK
  subst hK'
  have := hcell 0 _ rfl
  rw [show (j : Int).toNat = j by omega, add_plain, show (Kd.string).sz = 1 from rfl] at this
  refine ⟨g, _, hv, hg, ?_⟩
  simpa [List.getD, hj] using this
theorem own_ent_at {e base : Nat} {w : World} {v : Value} {l : List En} (h : Own kE e base w v l) {j : Nat} (hj : j < l.length) :
    ∃ g cap, v = .slice (some ⟨g, 0, none⟩) l.length cap ∧ base ≤ g ∧ g < w.heap.size ∧ w.cell? ⟨g, j * 2, none⟩ = some (.string l[j].1) ∧ w.cell? ⟨g, j * 2 + 1, none⟩ = some (.int .i64 l[j].2) := by
  obtain ⟨g, cap, hv, hb, hg⟩ := h.form (by omega)
  obtain ⟨A, c, hv', _, hC⟩ := h.reads
  rw [hv] at hv'
  cases hv'
  obtain ⟨ad, c1, e, hc1, hK, hcell⟩ := Kd.C_get hC (ByteArray.empty, 0) (j : Int) (by omega) (by omega)
  cases e
  have hl : l.getD (j : Int).toNat (ByteArray.empty, 0) = l[j] := by
    rw [show (j : Int).toNat = j by omega]; simp [List.getD, hj]
  rw [hl] at hK
  obtain ⟨x1, x2, rfl, h1, h2⟩ := hK
  have h1' : x1 = [.string l[j].1] := h1
  have h2' : x2 = [.int .i64 l[j].2] := h2
  subst h1' h2'
  have q0 := hcell 0 _ rfl
  have q1 := hcell 1 _ rfl
  rw [show (j : Int).toNat = j by omega, add_plain, show kE.sz = 2 from rfl] at q0 q1
  refine ⟨g, _, hv, hb, hg, ?_, ?_⟩
  · simpa using q0
  · simpa using q1
def allRel (wS : World) (B : Nat) (l : List En) (L : List BA) (i : Value) (wr : World) : Prop := ∃ (j : Nat) (v : Value), i = .int .i64 j ∧ j ≤ L.length ∧ Blk wr B #[v] EntsT ∧ Own kE EntT wS.heap.size wr v ((L.take j).map fun k => (k, (AL.get l k).getD 0)) ∧ Keep [B] wS wr
theorem timAll_any (n b : Nat) (l : List En) (w : World) (h : TimAt w n b l) (hs : ∀ p ∈ l, p.1.size ≤ maxLen) (hl : l.length < 1000000) :
    Calls Try.prog 39 #[ptrTo n] w (Px fun (xs : List En) e w' => e = .returned (.func (.func 45) #[] #[ptrTo w.heap.size]) ∧ EntsOf xs l ∧ RowBox w' w.heap.size (w.heap.size + 1) xs ∧ Keep [] w w') := by
  obtain ⟨hB, hM⟩ := h
  have hnd := hM.nodup
  have c0 : w.cell? ⟨n, 0, none⟩ = some (.map (some b)) := hB.cell 0
  have hlt := hB.lt
  go_enter Try.func39, Try.ntmps39
  have hM1 := hM.alloc (.cells #[.slice none 0 0] EntsT)
  have hBx := Blk.new w #[.slice none 0 0] EntsT
  have hK1 := (Keep.refl [] w).alloc (.cells #[.slice none 0 0] EntsT)
  have hz1 : (w.alloc (.cells #[.slice none 0 0] EntsT)).heap.size = w.heap.size + 1 := by simp
  go_wp2_with fail
  refine (keysS_any b _).mono ?_
  rintro e w1 ⟨rfl, rfl⟩
  go_wp2_with fail
  have hsrt := sortedS_any (w.alloc (.cells #[.slice none 0 0] EntsT)) b l hM1 hs hl
  rw [hz1] at hsrt
  refine hsrt.mono ?_
  clear hsrt
  rintro e wS ⟨⟨vk, L⟩, rfl, hrow, ⟨hp, hris⟩, hKS⟩
  simp only at hrow hp hris hKS
  have hKw := hK1.then (((Keep.refl [] _).alloc (.cells #[.map (some b)] MapT)).then hKS)
  have hMS := hM.keep hKw (by simp)
  have hBS := hB.keep hKw (by simp)
  have hBxS := (hBx.alloc (.cells #[.map (some b)] MapT)).keep hKS (by simp)
  have hLl : L.length < 1000000 := by have := hp.length_eq; simp at this; omega
  have hOk := own_strs hrow
  obtain ⟨Ak, capk, rfl⟩ := hOk.slice
  clear hM1 hK1 hBx hrow hKS c0 hris
  go_wp2_with fail
  go_loopw [13] (fun i wr => allRel wS w.heap.size l L i wr) (fun i _ => L.length - (intOf i).toNat)
  case atStart => exact ⟨0, _, rfl, by omega, hBxS, Kd.R_nil _ _ _ _ _, Keep.refl _ _⟩
  case round =>
    obtain ⟨j, v, rfl, hj, hBv, hO, hK⟩ := hrel
    have hcb : wr.cell? ⟨w.heap.size, 0, none⟩ = some v := hBv.cell 0
    have hfb : wr.frozen? ⟨w.heap.size, 0, none⟩ = false := hBv.frozen 0 (by simp)
    by_cases hlt2 : j < L.length
    · obtain ⟨g, cap, hv, hg, ck⟩ := own_str_at (hOk.keep hK (by simp; exact not_of_blk hBxS (by decide))) hlt2
      have hA : Ak = some ⟨g, 0, none⟩ := by injection hv
      subst hA
      clear hv
      have ht : L.take (j + 1) = L.take j ++ [L[j]] := by rw [List.take_succ_eq_append_getElem hlt2]
      obtain ⟨k, hk⟩ : ∃ k, L[j] = k := ⟨_, rfl⟩
      rw [hk] at ck ht
      have hMr := hMS.keep hK (by simp; exact fun e => hMS.ne_blk hBxS e.symm)
      have hBr := hBS.keep hK (by simp; omega)
      have HT := hide ht
      have hlt3 : (j : Int) < (L.length : Int) := by omega
      have hsz := hK.size
      clear hk ht
      go_wp2_with fail
      obtain ⟨w2, hw2⟩ : ∃ w2, wr.drew = w2 := ⟨_, rfl⟩
      have HO := hide (show Own kE EntT wS.heap.size wr.drew v _ from hO)
      have HK := hide (show Keep [w.heap.size] wS wr.drew from hK.drew)
      have HB := hide (show Blk wr.drew w.heap.size #[v] EntsT from hBv)
      have look := lookS1 wr.drew b l hMr k
      have hBlt : w.heap.size < wS.heap.size := hBxS.lt
      have hcn : wr.cell? ⟨n, 0, none⟩ = some (.map (some b)) := hBr.cell 0
      have hcb1 := fun cs => (hBv.alloc (.cells cs EntT)).cell 0
      clear hw2 hO hK hMr hBr hBv ck
      obtain ⟨at0, hat⟩ : ∃ x, (AL.get l k).getD 0 = x := ⟨_, rfl⟩
      rw [hat] at look
      have HAT := hide hat
      clear hat
      have hcb2 := hcb1 #[.string k, .int .i64 at0]
      clear hcb1
      simp only [List.getElem?_toArray, List.getElem?_cons_zero] at hcb2
      go_region_law (refine Own.append_step kE (W := wr.drew) wS.heap.size (by simp [Region.wanted]) (.tmp 17) (.tmp 26) EntsT EntT _ _ rfl Try.underlying76 infoE rfl (by decide) (by decide) v ((L.take j).map fun k => (k, (AL.get l k).getD 0)) (k, at0) _ (by simp [Act.eval]) wr.heap.size (by simp) (by simp [Act.eval]) (flatE.M.2 rfl) HO.out (by simp; omega) (by simp; omega) ?_; intro v1 w7 hO2 hg2 hr2; obtain ⟨A7, c7, rfl⟩ := hO2.slice; have HO2 := hide hO2; clear hO2; have hne : v.ownBlock ≠ some w.heap.size := (fun e => by have := hr2 _ e; omega); have HB7 := HB.out.of_block (hg2.block w.heap.size (by simp; omega) (by intro e; exact hne e.symm)); have hc7 := HB7.cell 0; have hf7 := HB7.frozen 0 (by simp); simp at hc7; have HG := hide hg2; have HR := hide hr2; clear hg2 hr2)
      all_goals go_wp2_with fail
      all_goals
        refine ⟨⟨j + 1, _, rfl, by omega, HB7.set 0 _, ?_, ?_⟩, by simp [intOf]; omega⟩
        · have h1 := fun u => HO2.out.keep ((Keep.refl [w.heap.size] w7).setCell (p := ⟨w.heap.size, 0, none⟩) (fun _ => by simp) u) (by simp; exact not_of_blk HB7 (by decide))
          rw [HT.out, List.map_append]
          simp only [List.map_cons, List.map_nil, HAT.out]
          have hn : (((L.take j).map fun k => (k, (AL.get l k).getD 0)) ++ [(k, at0)]).length = j + 1 := by simp; omega
          rw [hn] at h1
          exact h1 _
        · have K7 : Keep v.ownBlock.toList wr.drew w7 := Keep.of_grown HG.out (fun k e _ => by simp [e])
          exact (HK.out.trans K7 (fun _ h _ => h) (fun x hx hlt => by simp at hx; have := HR.out x hx; omega)).setCell (fun _ => by simp) _
    · obtain rfl : j = L.length := by omega
      rw [List.take_length] at hO
      have hll : (L.map fun k => (k, (AL.get l k).getD 0)).length = L.length := by simp
      have hpm := ents_perm hp hnd
      obtain ⟨xs, hxs⟩ : ∃ xs, (L.map fun k => (k, (AL.get l k).getD 0)) = xs := ⟨_, rfl⟩
      rw [hxs] at hO hpm hll
      have hSo := hide (sortE_any wr wS.heap.size v xs hO (by omega))
      have hbo := Kd.R_base hO
      have HBO := hide hbo
      have hvb : ∀ k, v.ownBlock = some k → k ≠ w.heap.size := fun k e => by have := hbo k e; have := hBxS.lt; omega
      have HVB := hide hvb
      clear hxs hO hbo hvb hll
      go_wp2_with fail
      refine hSo.out.mono ?_
      rintro e w8 ⟨xs', rfl, hO8, hp8, hs8, hK8⟩
      have HO8 := hide hO8
      have HK8 := hide hK8
      clear hO8 hK8
      go_wp2_with fail
      go_ret
      have hB8 : Blk w8 w.heap.size #[v] EntsT := hBv.keep HK8.out (by simp; exact fun e => HVB.out _ e rfl)
      have hK9 : Keep [w.heap.size] wS w8 := hK.trans HK8.out (fun _ h _ => h) (fun x hx hlt => by simp at hx; have := HBO.out x hx; omega)
      exact ⟨xs', rfl, entsOf_of (hp8.trans hpm) hnd hs8, ⟨v, hB8, HO8.out.lower (by have := hBxS.lt; omega)⟩, hKw.trans hK9 (by simp) (fun x hx hlt => by simp at hx; omega)⟩
end Go.Proofs.Ytegnmdnflmlioaa
