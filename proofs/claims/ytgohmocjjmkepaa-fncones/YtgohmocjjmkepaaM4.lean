/- What the functions compute: cells, rects, borders. -/
import Derived.Test.YtgohmocjjmkepaaM3
import Derived.Test.YtgohmocjjmkepaaL3
set_option linter.unusedSimpArgs false
set_option linter.unusedVariables false
namespace Go.Wv
def cellB (wd hi x y : Int) : Bool := within x 0 (wd - 1) && within y 0 (hi - 1)
theorem cellB_b {wd hi x y : Int} (h : cellB wd hi x y = true) : (0 ≤ x ∧ x ≤ wd - 1) ∧ (0 ≤ y ∧ y ≤ hi - 1) := by
  simp only [cellB, Bool.and_eq_true] at h
  exact ⟨within_b h.1, within_b h.2⟩
def vcellB (wd hi : Int) (P L : List Nat) (x y : Int) : Bool := validS wd hi P L && cellB wd hi x y
theorem vcellB_b {wd hi x y : Int} {P L : List Nat} (h : vcellB wd hi P L x y = true) : ((0 ≤ x ∧ x ≤ wd - 1) ∧ (0 ≤ y ∧ y ≤ hi - 1)) ∧ ((((3 ≤ wd ∧ wd ≤ 16) ∧ (3 ≤ hi ∧ hi ≤ 16)) ∧ (9 ≤ wd * hi ∧ wd * hi ≤ 256)) ∧ (P.length : Int) = wd * hi ∧ (L.length : Int) = wd * hi) := by
  simp only [vcellB, Bool.and_eq_true] at h
  exact ⟨cellB_b h.2, validS_b h.1⟩
def bordB (wd hi : Int) (wr : Bool) (x y : Int) : Bool := !wr && (decide (x = 0) || decide (x = wd - 1) || decide (y = 0) || decide (y = hi - 1))
def costI (wd hi : Int) (wr : Bool) : Int := if wr = true then 6 * (wd * hi) else 2 * (wd * (hi - 1) + (wd - 1) * hi + (wd - 2) * (hi - 2))
def depI (wd hi x y : Int) : Int := min (min (min x y) (wd - 1 - x)) (hi - 1 - y)
def rectB (wd hi rx ry rw rh : Int) : Bool := cellB wd hi rx ry && within rw 1 (wd - rx) && within rh 1 (hi - ry)
def isRectB (wd hi : Int) (P L : List Nat) (rx ry rw rh : Int) : Bool := validS wd hi P L && rectB wd hi rx ry rw rh
theorem isRectB_i {wd hi rx ry rw rh : Int} {P L : List Nat} : isRectB wd hi P L rx ry rw rh = (vcellB wd hi P L rx ry && within rw 1 (wd - rx) && within rh 1 (hi - ry)) := by
  simp only [isRectB, rectB, vcellB, Bool.and_assoc]
def prB (wd hi : Int) (ps : List (Int × Int)) : Bool := decide (ps.length ≤ 8) && allI ps.length fun i => cellB wd hi (gl ps i).1 (gl ps i).2
def areProbesB (wd hi : Int) (P L : List Nat) (ps : List (Int × Int)) : Bool := validS wd hi P L && prB wd hi ps
theorem prB_yes {wd hi : Int} {ps : List (Int × Int)} (h : ps.length ≤ 8) (h1 : ∀ i, 0 ≤ i → i < (ps.length : Int) → cellB wd hi (gl ps i).1 (gl ps i).2 = true) : prB wd hi ps = true := by
  simp only [prB, h, decide_true, Bool.true_and]; exact allI_true h1
theorem prB_no {wd hi i : Int} {ps : List (Int × Int)} (h0 : 0 ≤ i) (h1 : i < (ps.length : Int)) (h : ¬ cellB wd hi (gl ps i).1 (gl ps i).2 = true) : prB wd hi ps = false := by
  simp only [prB, Bool.and_eq_false_iff]; exact .inr (allI_false h0 h1 h)
theorem prB_n {wd hi : Int} {ps : List (Int × Int)} (h : 8 < ps.length) : prB wd hi ps = false := by
  simp only [prB, Bool.and_eq_false_iff, decide_eq_false_iff_not]; exact .inl (by omega)
theorem prB_b {wd hi : Int} {ps : List (Int × Int)} (h : prB wd hi ps = true) : ps.length ≤ 8 := by
  simp only [prB, Bool.and_eq_true, decide_eq_true_eq] at h; exact h.1
theorem prB_cell {wd hi i : Int} {ps : List (Int × Int)} (h : prB wd hi ps = true) (h0 : 0 ≤ i) (h1 : i < (ps.length : Int)) : cellB wd hi (gl ps i).1 (gl ps i).2 = true := by
  simp only [prB, Bool.and_eq_true] at h; exact allI_iff.1 h.2 i h0 h1
theorem areProbesB_b {wd hi : Int} {P L : List Nat} {ps : List (Int × Int)} (h : areProbesB wd hi P L ps = true) : ps.length ≤ 8 ∧ ((((3 ≤ wd ∧ wd ≤ 16) ∧ (3 ≤ hi ∧ hi ≤ 16)) ∧ (9 ≤ wd * hi ∧ wd * hi ≤ 256)) ∧ (P.length : Int) = wd * hi ∧ (L.length : Int) = wd * hi) := by
  simp only [areProbesB, Bool.and_eq_true] at h; exact ⟨prB_b h.2, validS_b h.1⟩
section
variable {wd hi : Int} {P L : List Nat} {ps : List (Int × Int)}
theorem probesB_yes (h0 : validS wd hi P L = true) (h : ps.length ≤ 8) (h1 : ∀ i, 0 ≤ i → i < (ps.length : Int) → cellB wd hi (gl ps i).1 (gl ps i).2 = true) : areProbesB wd hi P L ps = true := by
  simp [areProbesB, h0, prB_yes h h1]
theorem probesB_no {i : Int} (h0 : 0 ≤ i) (h1 : i < (ps.length : Int)) (h : ¬ cellB wd hi (gl ps i).1 (gl ps i).2 = true) : areProbesB wd hi P L ps = false := by
  simp [areProbesB, prB_no h0 h1 h]
theorem probesB_n1 (h0 : ¬ validS wd hi P L = true) : areProbesB wd hi P L ps = false := by simp [areProbesB, h0]
theorem probesB_n2 (h : 8 < ps.length) : areProbesB wd hi P L ps = false := by simp [areProbesB, prB_n h]
end
/-- The numbers from 0 on for which a condition holds. -/
def sel (n : Int) (p : Int → Bool) : List Int := ((List.range n.toNat).map fun (i : Nat) => (i : Int)).filter p
theorem sel_zero (p : Int → Bool) : sel 0 p = [] := rfl
theorem sel_succ {n : Int} (h : 0 ≤ n) (p : Int → Bool) : sel (n + 1) p = sel n p ++ (if p n = true then [n] else []) := by
  unfold sel
  rw [show (n + 1).toNat = n.toNat + 1 by omega, List.range_succ, List.map_append, List.filter_append]
  simp only [List.map_cons, List.map_nil, Int.toNat_of_nonneg h, List.filter_cons, List.filter_nil]
theorem sel_yes {n m v : Int} {p : Int → Bool} (h : 0 ≤ n) (hm : m = n + 1) (hv : v = n) (hp : p n = true) : sel n p ++ [v] = sel m p := by
  subst hm; subst hv; rw [sel_succ h, if_pos hp]
theorem sel_no {n m : Int} {p : Int → Bool} (h : 0 ≤ n) (hm : m = n + 1) (hp : ¬ p n = true) : sel n p = sel m p := by
  subst hm; rw [sel_succ h, if_neg hp, List.append_nil]
theorem sel_len (n : Int) (p : Int → Bool) : (sel n p).length ≤ n.toNat := by
  unfold sel
  refine Nat.le_trans (List.length_filter_le ..) ?_
  simp
theorem sel_ext {n : Int} {p q : Int → Bool} (h : ∀ i, 0 ≤ i → i < n → p i = q i) : sel n p = sel n q := by
  unfold sel
  apply List.filter_congr
  intro i hi
  simp only [List.mem_map, List.mem_range] at hi
  obtain ⟨k, hk, rfl⟩ := hi
  exact h _ (by omega) (by omega)
def wayI (wr : Bool) (a b side : Int) : Int := if wr = true then min (max (a - b) (b - a)) (side - max (a - b) (b - a)) else max (a - b) (b - a)
theorem wayI_b {wr : Bool} {a b side : Int} (h0 : 0 ≤ a) (h1 : a < side) (h2 : 0 ≤ b) (h3 : b < side) : 0 ≤ wayI wr a b side ∧ wayI wr a b side < side := by
  unfold wayI; split <;> omega
def reachP (wd hi : Int) (wr : Bool) (x y steps : Int) (u v : Int) : Bool := decide (wayI wr x u wd + wayI wr y v hi ≤ steps)
def reachB (wd hi : Int) (P L : List Nat) (x y steps : Int) : Bool := vcellB wd hi P L x y && within steps 0 64
theorem reachB_b {wd hi x y steps : Int} {P L : List Nat} (h : reachB wd hi P L x y steps = true) : (0 ≤ steps ∧ steps ≤ 64) ∧ ((0 ≤ x ∧ x ≤ wd - 1) ∧ (0 ≤ y ∧ y ≤ hi - 1)) ∧ ((((3 ≤ wd ∧ wd ≤ 16) ∧ (3 ≤ hi ∧ hi ≤ 16)) ∧ (9 ≤ wd * hi ∧ wd * hi ≤ 256)) ∧ (P.length : Int) = wd * hi ∧ (L.length : Int) = wd * hi) := by
  simp only [reachB, Bool.and_eq_true] at h
  exact ⟨within_b h.2, vcellB_b h.1⟩
theorem not_ne_imarks {n : Nat} {k i : Int} (h0 : 0 ≤ i) (h1 : i < (n : Int)) : gl (imarks k n) i = k + i := gl_gtab h0 h1
theorem imarks_done {n : Nat} {zs : List Int} {k : Int} (hl : zs.length = n) (h : ∀ i, 0 ≤ i → i < (n : Int) → gl zs i = k + i) : zs = imarks k n := gtab_of (by omega) h
theorem pmarks_gl {n : Nat} {k i : Int} (h0 : 0 ≤ i) (h1 : i < (n : Int)) : gl (pmarks k n) i = (k + 2 * i, k + 2 * i + 1) := gl_gtab h0 h1
theorem pmarks_done {n : Nat} {zs : List (Int × Int)} {k : Int} (hl : zs.length = n) (h : ∀ i, 0 ≤ i → i < (n : Int) → gl zs i = (k + 2 * i, k + 2 * i + 1)) : zs = pmarks k n := gtab_of (by omega) h
theorem selrow {wd x y : Int} {p : Int → Int → Bool} (h0 : 0 ≤ x) (h1 : x < wd) : (fun i => p (i % wd) (i / wd)) (wd * y + x) = p x y := by
  have := divmod_row (y := y) h0 h1
  rw [Int.add_comm x] at this
  simp only [this.1, this.2]
end Go.Wv
