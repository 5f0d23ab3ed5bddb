/- What the functions compute: cells, rects, borders. -/
import Derived.Test.YtcggpjocghigcaaM3
set_option linter.unusedSimpArgs false
set_option linter.unusedVariables false
namespace Go.Wv
def cellB (wd hi x y : Int) : Bool := within x 0 (wd - 1) && within y 0 (hi - 1)
theorem cellB_b {wd hi x y : Int} (h : cellB wd hi x y = true) : (0 ≤ x ∧ x ≤ wd - 1) ∧ (0 ≤ y ∧ y ≤ hi - 1) := by
  simp only [cellB, Bool.and_eq_true] at h
  exact ⟨within_b h.1, within_b h.2⟩
def vcellB (wd hi : Int) (P L : List Nat) (x y : Int) : Bool := validS wd hi P L && cellB wd hi x y
theorem vcellB_b {wd hi x y : Int} {P L : List Nat} (h : vcellB wd hi P L x y = true) : ((0 ≤ x ∧ x ≤ wd - 1) ∧ (0 ≤ y ∧ y ≤ hi - 1)) ∧ ((((3 ≤ wd ∧ wd ≤ 16) ∧ (3 ≤ hi ∧ hi ≤ 16)) ∧ (9 ≤ wd * hi ∧ wd * hi ≤ 256)) ∧ (P.length : Int) = wd * hi ∧ (L.length : Int) = wd * hi) := by
  simp only [vcellB, Bool.and_eq_true] at h
  exact ⟨cellB_b h.2, validS_b h.1⟩
def bordB (wd hi : Int) (wr : Bool) (x y : Int) : Bool := !wr && (decide (x = 0) || decide (x = wd - 1) || decide (y = 0) || decide (y = hi - 1))
def costI (wd hi : Int) (wr : Bool) : Int := if wr = true then 6 * (wd * hi) else 2 * (wd * (hi - 1) + (wd - 1) * hi + (wd - 2) * (hi - 2))
def depI (wd hi x y : Int) : Int := min (min (min x y) (wd - 1 - x)) (hi - 1 - y)
def rectB (wd hi rx ry rw rh : Int) : Bool := cellB wd hi rx ry && within rw 1 (wd - rx) && within rh 1 (hi - ry)
def isRectB (wd hi : Int) (P L : List Nat) (rx ry rw rh : Int) : Bool := validS wd hi P L && rectB wd hi rx ry rw rh
theorem isRectB_i {wd hi rx ry rw rh : Int} {P L : List Nat} : isRectB wd hi P L rx ry rw rh = (vcellB wd hi P L rx ry && within rw 1 (wd - rx) && within rh 1 (hi - ry)) := by
  simp only [isRectB, rectB, vcellB, Bool.and_assoc]
end Go.Wv
