import Derived.Test.YtbgondiibnjcgaaDoorS12
import Derived.Test.YtbgondiibnjcgaaDoorMsgIn
namespace Go.Proofs.YtbgondiibnjcgaaDoor
open Go.RowKit Go.Lib Go.Proofs.YtbgondiibnjcgaaDoor.PRetainPlays Go.Proofs.YtbgondiibnjcgaaDoorW.PrintWords Go.Proofs.YtbgondiibnjcgaaDoorW.PrintLast
set_option maxRecDepth 10000
set_option linter.unusedVariables false
set_option maxHeartbeats 1000000
namespace R12
abbrev kRP : Kd RP := k92
abbrev RPT : Nat := 92
abbrev kRM : Kd RM := k56
abbrev RMT : Nat := 56
def LV (w : World) (b : Nat) (v : Value) (l : List RM) : Prop := Kd.V kRM RMT w 0 (fun k => k ≠ b) v l
def PV (w : World) (b : Nat) (v : Value) (l : List RP) : Prop := Kd.V kRP RPT w 0 (fun k => k ≠ b) v l
theorem LV.keep {w w' : World} {b : Nat} {v : Value} {l : List RM} (h : LV w b v l) (hk : Keep [b] w w') : LV w' b v l :=
  Kd.V_step h fun k hok hlt => hk.block k hlt (by simpa using hok)
theorem LV.keep0 {w w' : World} {b : Nat} {v : Value} {l : List RM} (h : LV w b v l) (hk : Keep [] w w') : LV w' b v l := h.keep (hk.mono (by simp))
theorem PV.keep0 {w w' : World} {b : Nat} {v : Value} {l : List RP} (h : PV w b v l) (hk : Keep [] w w') : PV w' b v l :=
  Kd.V_step h fun k hok hlt => hk.block k hlt (by simp)
theorem LV.of {w : World} {b base : Nat} {v : Value} {l : List RM} (h : Kd.V kRM RMT w base (fun k => (k ≠ b) ∨ base ≤ k) v l) (hb : b < base) : LV w b v l :=
  Kd.V_lower (base := base) (Kd.V_mono h fun k hk => by rcases hk with h | h; exact h; omega) (Nat.zero_le _)
section
variable {w : World} {b : Nat} {v : Value} {l : List RM}
end
structure Pl (W w : World) (n b j : Nat) (most : Int) (hs : List (BA × Rm)) (l : List RM) (v : Value) : Prop where
  rs : Rs W w n b most hs
  rel : Rel hs l
  lv : LV w b v l
  ks : ∀ p ∈ hs, p.1.size ≤ 30
  hl : hs.length ≤ j
  below : Keep [] W w
section
variable {W w w' : World} {n b j : Nat} {most : Int} {hs : List (BA × Rm)} {l : List RM} {v : Value}
theorem Pl.keep (h : Pl W w n b j most hs l v) (hk : Keep [] w w') : Pl W w' n b j most hs l v := ⟨h.rs.keep hk, h.rel, h.lv.keep0 hk, h.ks, h.hl, h.below.then hk⟩
theorem Pl.mono {j' : Nat} (h : Pl W w n b j most hs l v) (hj : j ≤ j') : Pl W w n b j' most hs l v := ⟨h.rs, h.rel, h.lv, h.ks, Nat.le_trans h.hl hj, h.below⟩
theorem Pl.nd (h : Pl W w n b j most hs l v) : (hs.map (·.1)).Nodup := h.rs.map.nodup
theorem Pl.len (h : Pl W w n b j most hs l v) : l.length = hs.length := h.rel.len h.nd
theorem Pl.pl (h : Pl W w n b j most hs l v) : ∀ m ∈ l, m.f4.length ≤ 100 := fun m hm => by
  obtain ⟨x, hx, rfl⟩ := h.rel.back m hm
  have := h.rs.plen _ (get_mem2 hx)
  show (x.ps.map toP).length ≤ 100
  rw [List.length_map]; exact this
end
end R12
abbrev ShAct12 : Sh := .struct (.cons (.int .i64) (.cons ShMsg (.cons .str (.cons (.int .i64) .nil))))
end Go.Proofs.YtbgondiibnjcgaaDoor
