/- Package inbound: the list of those that wait. -/
import Derived.Test.YtfnleddabfpkgaaInb
import Derived.Test.YtfnleddabfpkgaaSorted
import Derived.Test.YtfnleddabfpkgaaSrt8
namespace Go.Proofs.Ytfnleddabfpkgaa
open Go.RowKit
set_option maxRecDepth 10000
set_option linter.unusedVariables false
set_option maxHeartbeats 1000000

theorem SetAt.keep {S : List Nat} {w w' : World} {p mb : Nat} {has : List (Int × Int)} {most : Int} (h : SetAt w p mb has most) (hk : Keep S w w') (h1 : p ∉ S) (h2 : mb ∉ S) : SetAt w' p mb has most := ⟨h.1.keep hk h1, h.2.keep hk h2⟩

theorem inbList_any (p mb : Nat) (has : List (Int × Int)) (most : Int) (w : World) (hS : SetAt w p mb has most) (hN : has.length < 1000000000) :
    Calls Try.prog 36 #[.pointer (some ⟨p, 0, none⟩)] w (Px fun (x : Value × List Int) e w' => e = .returned x.1 ∧ RowAt w' x.1 x.2 ∧ KeysOf x.2 has ∧ Keep [] w w') := by
  have c0 : w.cell? ⟨p, 0, none⟩ = some (.map (some mb)) := hS.1.cell 0
  have HS := hide hS
  clear hS
  go_enter Try.func36, Try.ntmps36
  go_wp2_with fail
  refine (keys_any _ _).mono ?_
  rintro e w1 ⟨rfl, rfl⟩
  go_wp2_with fail
  refine (sortedKeys_any (Value.int .i64) _ w.heap.size mb has (HS.out.2.alloc _) (by simp) ((Blk.new w _ _).cell 0) hN (sorts_any _ hN)).mono ?_
  rintro e w2 ⟨⟨v, L⟩, rfl, hrow, hK, hkp⟩
  have HR := hide hrow
  have HK := hide hK
  clear hrow hK
  go_wp2
  go_ret
  exact ⟨(v, L), rfl, HR.out, HK.out, ((Keep.refl [] w).alloc _).then hkp⟩

/-- What is read of a row of numbers. -/
theorem RowAt.read {w : World} {v : Value} {L : List Int} (h : RowAt w v L) : ∃ A cap, v = .slice A L.length cap ∧ (0 < L.length → ∃ g, A = some ⟨g, 0, none⟩ ∧ g < w.heap.size ∧ ∀ i (hi : i < L.length), w.cell? ⟨g, i, none⟩ = some (.int .u32 L[i])) := by
  rcases h with ⟨rfl, rfl⟩ | ⟨g, cap, d, rest, rfl, hA, hd⟩
  · exact ⟨none, 0, rfl, fun h => by simp at h⟩
  · refine ⟨_, cap, rfl, fun h0 => ⟨g, rfl, hA.lt, fun i hi => ?_⟩⟩
    rw [hA.cell hi, hd i hi]
end Go.Proofs.Ytfnleddabfpkgaa
