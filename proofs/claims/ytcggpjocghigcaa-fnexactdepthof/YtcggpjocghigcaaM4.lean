/- What the functions compute: cells, rects, borders. -/
import Derived.Test.YtcggpjocghigcaaM3
import Derived.Test.YtcggpjocghigcaaL3
set_option linter.unusedSimpArgs false
set_option linter.unusedVariables false
namespace Go.Wv
def cellB (wd hi x y : Int) : Bool := within x 0 (wd - 1) && within y 0 (hi - 1)
theorem cellB_b {wd hi x y : Int} (h : cellB wd hi x y = true) : (0 ≤ x ∧ x ≤ wd - 1) ∧ (0 ≤ y ∧ y ≤ hi - 1) := by
  simp only [cellB, Bool.and_eq_true] at h
  exact ⟨within_b h.1, within_b h.2⟩
def vcellB (wd hi : Int) (P L : List Nat) (x y : Int) : Bool := validS wd hi P L && cellB wd hi x y
theorem vcellB_b {wd hi x y : Int} {P L : List Nat} (h : vcellB wd hi P L x y = true) : ((0 ≤ x ∧ x ≤ wd - 1) ∧ (0 ≤ y ∧ y ≤ hi - 1)) ∧ ((((3 ≤ wd ∧ wd ≤ 16) ∧ (3 ≤ hi ∧ hi ≤ 16)) ∧ (9 ≤ wd * hi ∧ wd * hi ≤ 256)) ∧ (P.length : Int) = wd * hi ∧ (L.length : Int) = wd * hi) := by
  simp only [vcellB, Bool.and_eq_true] at h
  exact ⟨cellB_b h.2, validS_b h.1⟩
def bordB (wd hi : Int) (wr : Bool) (x y : Int) : Bool := !wr && (decide (x = 0) || decide (x = wd - 1) || decide (y = 0) || decide (y = hi - 1))
def costI (wd hi : Int) (wr : Bool) : Int := if wr = true then 6 * (wd * hi) else 2 * (wd * (hi - 1) + (wd - 1) * hi + (wd - 2) * (hi - 2))
def depI (wd hi x y : Int) : Int := min (min (min x y) (wd - 1 - x)) (hi - 1 - y)
def rectB (wd hi rx ry rw rh : Int) : Bool := cellB wd hi rx ry && within rw 1 (wd - rx) && within rh 1 (hi - ry)
def isRectB (wd hi : Int) (P L : List Nat) (rx ry rw rh : Int) : Bool := validS wd hi P L && rectB wd hi rx ry rw rh
theorem isRectB_i {wd hi rx ry rw rh : Int} {P L : List Nat} : isRectB wd hi P L rx ry rw rh = (vcellB wd hi P L rx ry && within rw 1 (wd - rx) && within rh 1 (hi - ry)) := by
  simp only [isRectB, rectB, vcellB, Bool.and_assoc]
def prB (wd hi : Int) (ps : List (Int × Int)) : Bool := decide (ps.length ≤ 8) && allI ps.length fun i => cellB wd hi (gl ps i).1 (gl ps i).2
def areProbesB (wd hi : Int) (P L : List Nat) (ps : List (Int × Int)) : Bool := validS wd hi P L && prB wd hi ps
theorem prB_yes {wd hi : Int} {ps : List (Int × Int)} (h : ps.length ≤ 8) (h1 : ∀ i, 0 ≤ i → i < (ps.length : Int) → cellB wd hi (gl ps i).1 (gl ps i).2 = true) : prB wd hi ps = true := by
  simp only [prB, h, decide_true, Bool.true_and]; exact allI_true h1
theorem prB_no {wd hi i : Int} {ps : List (Int × Int)} (h0 : 0 ≤ i) (h1 : i < (ps.length : Int)) (h : ¬ cellB wd hi (gl ps i).1 (gl ps i).2 = true) : prB wd hi ps = false := by
  simp only [prB, Bool.and_eq_false_iff]; exact .inr (allI_false h0 h1 h)
theorem prB_n {wd hi : Int} {ps : List (Int × Int)} (h : 8 < ps.length) : prB wd hi ps = false := by
  simp only [prB, Bool.and_eq_false_iff, decide_eq_false_iff_not]; exact .inl (by omega)
theorem prB_b {wd hi : Int} {ps : List (Int × Int)} (h : prB wd hi ps = true) : ps.length ≤ 8 := by
  simp only [prB, Bool.and_eq_true, decide_eq_true_eq] at h; exact h.1
theorem prB_cell {wd hi i : Int} {ps : List (Int × Int)} (h : prB wd hi ps = true) (h0 : 0 ≤ i) (h1 : i < (ps.length : Int)) : cellB wd hi (gl ps i).1 (gl ps i).2 = true := by
  simp only [prB, Bool.and_eq_true] at h; exact allI_iff.1 h.2 i h0 h1
theorem areProbesB_b {wd hi : Int} {P L : List Nat} {ps : List (Int × Int)} (h : areProbesB wd hi P L ps = true) : ps.length ≤ 8 ∧ ((((3 ≤ wd ∧ wd ≤ 16) ∧ (3 ≤ hi ∧ hi ≤ 16)) ∧ (9 ≤ wd * hi ∧ wd * hi ≤ 256)) ∧ (P.length : Int) = wd * hi ∧ (L.length : Int) = wd * hi) := by
  simp only [areProbesB, Bool.and_eq_true] at h; exact ⟨prB_b h.2, validS_b h.1⟩
section
variable {wd hi : Int} {P L : List Nat} {ps : List (Int × Int)}
theorem probesB_yes (h0 : validS wd hi P L = true) (h : ps.length ≤ 8) (h1 : ∀ i, 0 ≤ i → i < (ps.length : Int) → cellB wd hi (gl ps i).1 (gl ps i).2 = true) : areProbesB wd hi P L ps = true := by
  simp [areProbesB, h0, prB_yes h h1]
theorem probesB_no {i : Int} (h0 : 0 ≤ i) (h1 : i < (ps.length : Int)) (h : ¬ cellB wd hi (gl ps i).1 (gl ps i).2 = true) : areProbesB wd hi P L ps = false := by
  simp [areProbesB, prB_no h0 h1 h]
theorem probesB_n1 (h0 : ¬ validS wd hi P L = true) : areProbesB wd hi P L ps = false := by simp [areProbesB, h0]
theorem probesB_n2 (h : 8 < ps.length) : areProbesB wd hi P L ps = false := by simp [areProbesB, prB_n h]
end
end Go.Wv
