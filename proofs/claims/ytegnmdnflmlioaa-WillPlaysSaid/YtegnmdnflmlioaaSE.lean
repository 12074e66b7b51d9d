import Derived.Test.YtegnmdnflmlioaaOrd
import Derived.Test.YtegnmdnflmlioaaFlat
import Derived.Shelf.SlSortCmp.WholeK
import Derived.Shelf.SlSortCmp.NoneTotal
namespace Go.Proofs.Ytegnmdnflmlioaa
open Go.RowKit Go.Lib Go.Sort Go.Shelf Go.Proofs.YtegnmdnflmlioaaW.PrintWords Go.Proofs.YtegnmdnflmlioaaW.PrintLast
set_option maxRecDepth 10000
set_option linter.unusedVariables false
set_option maxHeartbeats 1000000
abbrev EntT : Nat := 79
abbrev En := BA × Int
def encE (x : En) : List Value := [.string x.1, .int .i64 x.2]
def kE : Kd En := Kd.pair Kd.string (Kd.int .i64)
theorem flatE : Flat kE encE where
  len _ := rfl
  M := by
    intro w base ok x cs
    constructor
    · rintro ⟨c1, c2, rfl, h1, h2⟩
      have h1' : c1 = [.string x.1] := h1
      have h2' : c2 = [.int .i64 x.2] := h2
      subst h1' h2'; rfl
    · rintro rfl
      exact ⟨_, _, rfl, rfl, rfl⟩
instance : Inhabited En := ⟨(ByteArray.empty, 0)⟩
theorem ltOfE (x y : En) : ltOf ordE x y = decide (ltE x y) := by
  unfold ltOf
  exact decide_eq_decide.2 (ordE_lt x y)
theorem swoE : SWO (ltOf ordE) where
  irrefl x := by rw [ltOfE]; simpa using ltE.irrefl x
  trans x y z h1 h2 := by rw [ltOfE] at *; simp only [decide_eq_true_eq] at *; exact h1.trans h2
  ntrans x y z h1 h2 := by
    rw [ltOfE] at *
    simp only [decide_eq_false_iff_not] at *
    intro h
    rcases ltE.total x y with h3 | h3 | h3
    · exact h1 h3
    · subst h3; exact h2 h
    · exact h2 (h3.trans h)
theorem sortE_any (w : World) (base : Nat) (v : Value) (xs : List En) (h : Own kE EntT base w v xs) (hl : xs.length < 1000000000) :
    Calls Try.prog 43 #[v, .func (.func 44) #[] #[]] w (Px fun (xs' : List En) e w' => e = .returned (.tuple #[]) ∧ Own kE EntT base w' v xs' ∧ xs'.Perm xs ∧ xs'.Pairwise (fun a b => ¬ ltE b a) ∧ Keep v.ownBlock.toList w w') := by
  by_cases h0 : 0 < xs.length
  · obtain ⟨g, cap, rfl, hb, hlt, hH, hback⟩ := h.holds flatE h0 (by decide)
    have eg : ∀ args w, (callFunc 44 args).run Try.prog w = .ok (.enter 44 args) w := enters_of Try.func44 (by kernel_rfl) rfl
    have hcon := AnyQ.slices_SortFunc_total Try.sortE 2 Try.isAgg79 Try.sizeOf79 encE (fun _ => rfl) (fun x v hv => by simp [encE] at hv; rcases hv with rfl | rfl <;> rfl) ordE swoE 44 #[] g 0 cap xs.toArray w eg
      (fun _ _ _ _ x y => order_any x y _) hH hlt (by simp; omega) (fun x y h1 h2 => by
        rw [ltOfE] at h1 h2
        simp only [decide_eq_false_iff_not] at h1 h2
        rcases ltE.total x y with h3 | h3 | h3
        · exact absurd h3 h1
        · exact h3
        · exact absurd h3 h2)
    change Calls Try.prog 43 _ _ _ at hcon
    refine hcon.mono ?_
    rintro e w' ⟨rfl, n, os, rfl⟩
    have hp := List.mergeSort_perm xs (fun x y => !ltOf ordE y x)
    obtain ⟨h1, h2⟩ := hback (xs.mergeSort fun x y => !ltOf ordE y x) n os hp.length_eq
    refine ⟨xs.mergeSort fun x y => !ltOf ordE y x, rfl, h1, hp, ?_, h2.mono (fun x hx _ => by simpa [Value.ownBlock] using hx)⟩
    have tr : ∀ a b c : En, (!ltOf ordE b a) = true → (!ltOf ordE c b) = true → (!ltOf ordE c a) = true := fun a b c h1 h2 => by
      simp only [Bool.not_eq_true'] at *
      exact swoE.ntrans c b a h2 h1
    have tot : ∀ a b : En, ((!ltOf ordE b a) || (!ltOf ordE a b)) = true := fun a b => by
      rw [ltOfE, ltOfE]
      simp only [Bool.or_eq_true, Bool.not_eq_true', decide_eq_false_iff_not]
      by_cases h : ltE b a
      · exact .inr (ltE.asymm h)
      · exact .inl h
    refine (List.pairwise_mergeSort tr tot xs).imp fun h => ?_
    rw [ltOfE] at h
    simpa using h
  · have hx : xs = [] := by cases xs with | nil => rfl | cons => simp at h0
    subst hx
    obtain ⟨A, c, rfl⟩ := h.slice
    have hcon := AnyF.slices_SortFunc_none Try.sortE A c (.func (.func 44) #[] #[]) w
    change Calls Try.prog 43 _ _ _ at hcon
    refine hcon.mono ?_
    rintro e w' ⟨rfl, rfl⟩
    exact ⟨[], rfl, h, .refl _, List.Pairwise.nil, Keep.refl _ _⟩
end Go.Proofs.Ytegnmdnflmlioaa
