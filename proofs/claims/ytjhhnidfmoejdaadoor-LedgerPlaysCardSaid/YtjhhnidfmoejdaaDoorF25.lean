import Derived.Test.YtjhhnidfmoejdaaDoorE25
namespace Go.Proofs.YtjhhnidfmoejdaaDoor
open Go.RowKit Go.Lib Go.Proofs.YtjhhnidfmoejdaaDoor.PLedgerPlays Go.Proofs.YtjhhnidfmoejdaaDoorW.PrintWords Go.Proofs.YtjhhnidfmoejdaaDoorW.PrintLast
set_option maxRecDepth 10000
set_option linter.unusedVariables false
set_option maxHeartbeats 1000000
namespace R25
def OkL (l : List SX) : Prop := l.length < 1000 ∧ ∀ e ∈ l, 0 ≤ e.f0 ∧ e.f0 < 100000
section
variable {W w : World} {n K : Nat} {S : Lg} {x : Rx} {v : Vs} {cs : List Nat}
theorem Dy.open_ (h : Dy W w n S x v cs) (hR : Rel K S x) (hK : K < 100) : Calls Tryd.prog 9 #[ptrTo n] w (Px fun (r : Value × List SX) e w' => e = .returned r.1 ∧ Own kX ExT 0 w' r.1 r.2 ∧ r.2.map toX = x.O ∧ OkL r.2 ∧ Keep [] w w') := by
  obtain ⟨bs, hRn, _⟩ := h.rn
  have hs := hR.sup
  refine (rOpen hRn hs.1 (by omega)).mono ?_
  rintro e w' ⟨⟨v, L⟩, rfl, hp, hm, hO, hk⟩
  have hl := hR.openLen hp hm
  have hl1 : L.length ≤ K := hl.1
  exact ⟨(v, L.map (exAt S.M)), rfl, hO.lower (Nat.zero_le _), hR.open_ hp hm, ⟨by rw [List.length_map]; show L.length < 1000; omega, hl.2⟩, hk⟩
theorem Dy.done_ (h : Dy W w n S x v cs) (hR : Rel K S x) (hK : K < 100) : Calls Tryd.prog 11 #[ptrTo n] w (Px fun (r : Value × List SX) e w' => e = .returned r.1 ∧ Own kX ExT 0 w' r.1 r.2 ∧ r.2.map toX = x.D ∧ OkL r.2 ∧ Keep [] w w') := by
  obtain ⟨bs, hRn, _⟩ := h.rn
  have hs := hR.dl
  refine (rDone hRn (by omega)).mono ?_
  rintro e w' ⟨v, rfl, hO, hk⟩
  exact ⟨(v, S.dn), rfl, hO.lower (Nat.zero_le _), hR.D.symm, ⟨by show S.dn.length < 1000; omega, hR.ddom⟩, hk⟩
theorem Dy.errs_ (h : Dy W w n S x v cs) (hR : Rel K S x) (hK : K < 100) : Calls Tryd.prog 10 #[ptrTo n] w (Px fun (r : Option Addr × Nat) e w' => e = .returned (.slice r.1 x.E.length r.2) ∧ Own Kd.string StrT 0 w' (.slice r.1 x.E.length r.2) x.E ∧ Keep [] w w') := by
  obtain ⟨bs, hRn, _⟩ := h.rn
  have hs := hR.el
  refine (rErrs hRn (by omega)).mono ?_
  rintro e w' ⟨v, rfl, hO, hk⟩
  rw [← hR.E] at hO
  obtain ⟨A, c, rfl⟩ := hO.slice
  exact ⟨(A, c), rfl, hO.lower (Nat.zero_le _), hk⟩
theorem Dy.news_ (h : Dy W w n S x v cs) (hR : Rel K S x) : Calls Tryd.prog 14 #[ptrTo n] w (fun e w' => e = .returned (.int .i64 x.n) ∧ Keep [] w w') := by
  obtain ⟨bs, ⟨p, hn, hS, _⟩, _⟩ := h.rn
  subst hn
  refine (lNews hS).mono ?_
  rintro e w' ⟨rfl, rfl⟩
  exact ⟨by rw [hR.n], Keep.refl _ _⟩
theorem same_any {base : Nat} {v u : Value} {l : List SX} {m : List RX} (hv : Own kX ExT 0 w v l) (hu : Own kRX RXT base w u m) (hm : l.map toX = m) (hl : OkL l) : Calls Tryd.prog 13 #[v, u] w (fun e w' => e = .returned (.bool true) ∧ Keep [] w w') := by
  subst hm
  obtain ⟨A, c, rfl, hc, hC⟩ := hv.reads
  obtain ⟨B, d, rfl, hd, hD⟩ := hu.reads
  refine (switchboardlaw25_same.calls 2001 A c l B d (l.map toX) true w hC hc hD hd (same_f l hl.1 hl.2 2001 (by omega))).mono ?_
  rintro e w' ⟨rfl, hB⟩
  exact ⟨rfl, Keep.of_below hB⟩
end
end R25
end Go.Proofs.YtjhhnidfmoejdaaDoor
