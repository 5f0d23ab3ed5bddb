/- What the functions compute: rows, columns, peaks, fields with other numbers. -/
import Derived.Test.YtgohmocjjmkepaaM5
set_option linter.unusedSimpArgs false
set_option linter.unusedVariables false
namespace Go.Wv
section
variable {wd hi : Int} {wr : Bool} {P L E X Y : List Nat}
/-- A row, a column. -/
def rowS (wd : Int) (X : List Nat) (y : Int) : List Nat := (X.drop (wd * y).toNat).take wd.toNat
def colS (wd hi : Int) (X : List Nat) (x : Int) : List Nat := tab hi fun y => el X (x + wd * y)
def rowB (wd hi : Int) (wr : Bool) (P L E X Y : List Nat) (y : Int) : Bool := fieldB wd hi wr P L E X Y && within y 0 (hi - 1)
def colB (wd hi : Int) (wr : Bool) (P L E X Y : List Nat) (x : Int) : Bool := fieldB wd hi wr P L E X Y && within x 0 (wd - 1)
theorem rowB_b {y : Int} (h : rowB wd hi wr P L E X Y y = true) : (0 ≤ y ∧ y ≤ hi - 1) ∧ ((E.length : Int) = wd * hi ∧ (X.length : Int) = wd * hi ∧ (Y.length : Int) = wd * hi) ∧ ((((3 ≤ wd ∧ wd ≤ 16) ∧ (3 ≤ hi ∧ hi ≤ 16)) ∧ (9 ≤ wd * hi ∧ wd * hi ≤ 256)) ∧ (P.length : Int) = wd * hi ∧ (L.length : Int) = wd * hi) := by
  simp only [rowB, Bool.and_eq_true] at h
  exact ⟨within_b h.2, fieldB_b h.1⟩
theorem colB_b {x : Int} (h : colB wd hi wr P L E X Y x = true) : (0 ≤ x ∧ x ≤ wd - 1) ∧ ((E.length : Int) = wd * hi ∧ (X.length : Int) = wd * hi ∧ (Y.length : Int) = wd * hi) ∧ ((((3 ≤ wd ∧ wd ≤ 16) ∧ (3 ≤ hi ∧ hi ≤ 16)) ∧ (9 ≤ wd * hi ∧ wd * hi ≤ 256)) ∧ (P.length : Int) = wd * hi ∧ (L.length : Int) = wd * hi) := by
  simp only [colB, Bool.and_eq_true] at h
  exact ⟨within_b h.2, fieldB_b h.1⟩
/-- Bounds of a row in its list. -/
theorem row_bounds {y : Int} (h0 : 0 ≤ y) (h1 : y ≤ hi - 1) (hw : 0 ≤ wd) : 0 ≤ wd * y ∧ wd * (y + 1) ≤ wd * hi ∧ wd * (y + 1) = wd * y + wd := by
  refine ⟨Int.mul_nonneg hw h0, Int.mul_le_mul_of_nonneg_left (by omega) hw, by rw [Int.mul_add, Int.mul_one]⟩
theorem row_i {y lo hi' : Int} (hl : lo = wd * y) (hh : hi' = wd * y + wd) (h0 : 0 ≤ wd * y) (hw : 0 ≤ wd) : (X.drop lo.toNat).take (hi'.toNat - lo.toNat) = rowS wd X y := by
  subst hl; subst hh
  rw [show (wd * y + wd).toNat - (wd * y).toNat = wd.toNat by omega]; rfl
/-- The index of the greatest number without its sign among the first ones, -1 if there is none. -/
def peakI (X : List Nat) : Nat → Int
  | 0 => -1
  | k + 1 => if (feq .f32 (el X k) (el X k) && (decide (peakI X k < 0) || fgt .f32 (szX (el X k)) (szX (el X (peakI X k))))) = true then (k : Int) else peakI X k
theorem peakI_b (X : List Nat) : ∀ k : Nat, -1 ≤ peakI X k ∧ peakI X k < k
  | 0 => by simp [peakI]
  | k + 1 => by
    have := peakI_b X k
    simp only [peakI]
    split <;> omega
theorem peak_step {k : Int} {b : Int} (h0 : 0 ≤ k) (hb : b = peakI X k.toNat) : peakI X (k + 1).toNat = if (feq .f32 (el X k) (el X k) && (decide (b < 0) || fgt .f32 (szX (el X k)) (szX (el X b)))) = true then k else b := by
  subst hb
  rw [show (k + 1).toNat = k.toNat + 1 by omega]
  simp only [peakI, Int.toNat_of_nonneg h0]
theorem peak_yes {k b : Int} (h0 : 0 ≤ k) (hb : b = peakI X k.toNat) (h : (feq .f32 (el X k) (el X k) && (decide (b < 0) || fgt .f32 (szX (el X k)) (szX (el X b)))) = true) : k = peakI X (k + 1).toNat := by
  rw [peak_step h0 hb, if_pos h]
theorem peak_no {k b : Int} (h0 : 0 ≤ k) (hb : b = peakI X k.toNat) (h : (feq .f32 (el X k) (el X k) && (decide (b < 0) || fgt .f32 (szX (el X k)) (szX (el X b)))) = false) : b = peakI X (k + 1).toNat := by
  rw [peak_step h0 hb, if_neg (by rw [h]; simp)]
def peakB (wd hi : Int) (wr : Bool) (P L E X Y : List Nat) : Bool := fieldB wd hi wr P L E X Y && decide (0 ≤ peakI E E.length)
theorem peakB_b (h : peakB wd hi wr P L E X Y = true) : 0 ≤ peakI E E.length := by
  simp only [peakB, Bool.and_eq_true, decide_eq_true_eq] at h; exact h.2
/-- A field with another number in a cell. -/
def putB (wd hi : Int) (wr : Bool) (P L E X Y : List Nat) (x y : Int) (V : Nat) : Bool := valB wd hi wr P L E X Y x y && !(bordB wd hi wr x y && fne .f32 V 0)
theorem putB_b {x y : Int} {V : Nat} (h : putB wd hi wr P L E X Y x y V = true) : ((0 ≤ x ∧ x ≤ wd - 1) ∧ (0 ≤ y ∧ y ≤ hi - 1)) ∧ ((E.length : Int) = wd * hi ∧ (X.length : Int) = wd * hi ∧ (Y.length : Int) = wd * hi) ∧ ((((3 ≤ wd ∧ wd ≤ 16) ∧ (3 ≤ hi ∧ hi ≤ 16)) ∧ (9 ≤ wd * hi ∧ wd * hi ≤ 256)) ∧ (P.length : Int) = wd * hi ∧ (L.length : Int) = wd * hi) := by
  simp only [putB, Bool.and_eq_true] at h
  exact valB_b h.1
theorem put_fits {x y : Int} {V : Nat} (hv : valB wd hi wr P L E X Y x y = true) : fieldB wd hi wr P L (put E (x + wd * y) V) X Y = putB wd hi wr P L E X Y x y V := by
  have hb := valB_b hv
  have hf : fieldB wd hi wr P L E X Y = true := by simp only [valB, Bool.and_eq_true] at hv; exact hv.1
  have hfi := fieldB_iff.1 hf
  have hrow := row_lt (wd := wd) (hi := hi) (a := x) (b := y) (by omega) (by omega) (by omega) (by omega)
  have hdm := divmod_row (wd := wd) (x := x) (y := y) (by omega) (by omega)
  unfold putB
  rw [hv, Bool.true_and]
  cases wr with
  | true =>
    simp only [bordB, Bool.not_true, Bool.false_and, Bool.not_false]
    exact fieldB_iff.2 ⟨hfi.1, fits_wrap (by rw [put_length]; omega) (by omega) (by omega)⟩
  | false =>
    have hold := (fits_iff.1 hfi.2).2.resolve_left (by simp)
    cases hc : (bordB wd hi false x y && fne .f32 V 0) with
    | true =>
      refine not_true fun hn => ?_
      have h1 := (fits_iff.1 (fieldB_iff.1 hn).2).2.resolve_left (by simp) (x + wd * y) (by omega) (by omega)
      rw [hdm.1, hdm.2] at h1
      unfold edgeB at h1
      rw [el_put (by omega) (by omega) _ _ (by omega), if_pos rfl, hc] at h1
      simp at h1
    | false =>
      refine fieldB_iff.2 ⟨hfi.1, fits_yes (by rw [put_length]; omega) (by omega) (by omega) fun i h0 h1 => ?_⟩
      have h2 := hold i h0 h1
      unfold edgeB at h2 ⊢
      by_cases e : i = x + wd * y
      · subst e
        rw [el_put (by omega) (by omega) _ _ (by omega), if_pos rfl, hdm.1, hdm.2, hc]
        rw [hdm.1, hdm.2] at h2
        simp only [Bool.or_eq_false_iff] at h2 ⊢
        exact ⟨⟨trivial, h2.1.2⟩, h2.2⟩
      · rw [el_put (by omega) (by omega) _ _ h0, if_neg e]; exact h2
/-- Sums, products. -/
def addL (n : Int) (A B : List Nat) : List Nat := zipL n (fun a b => fop .add .f32 a b) A B
def mulL (n : Int) (A : List Nat) (s : Nat) : List Nat := zipL n (fun a _ => fop .mul .f32 a s) A A
def addB (wd hi : Int) (wr : Bool) (P L E X Y E2 X2 Y2 : List Nat) : Bool :=
  (fieldB wd hi wr P L E X Y && fieldB wd hi wr P L E2 X2 Y2) && fieldB wd hi wr P L (addL (wd * hi) E E2) (addL (wd * hi) X X2) (addL (wd * hi) Y Y2)
def sclB (wd hi : Int) (wr : Bool) (P L E X Y : List Nat) (s : Nat) : Bool :=
  fieldB wd hi wr P L E X Y && fieldB wd hi wr P L (mulL (wd * hi) E s) (mulL (wd * hi) X s) (mulL (wd * hi) Y s)
theorem addB_b {E2 X2 Y2 : List Nat} (h : addB wd hi wr P L E X Y E2 X2 Y2 = true) : ((E.length : Int) = wd * hi ∧ (X.length : Int) = wd * hi ∧ (Y.length : Int) = wd * hi) ∧ ((((3 ≤ wd ∧ wd ≤ 16) ∧ (3 ≤ hi ∧ hi ≤ 16)) ∧ (9 ≤ wd * hi ∧ wd * hi ≤ 256)) ∧ (P.length : Int) = wd * hi ∧ (L.length : Int) = wd * hi) := by
  simp only [addB, Bool.and_eq_true] at h
  exact fieldB_b h.1.1
theorem sclB_b {s : Nat} (h : sclB wd hi wr P L E X Y s = true) : ((E.length : Int) = wd * hi ∧ (X.length : Int) = wd * hi ∧ (Y.length : Int) = wd * hi) ∧ ((((3 ≤ wd ∧ wd ≤ 16) ∧ (3 ≤ hi ∧ hi ≤ 16)) ∧ (9 ≤ wd * hi ∧ wd * hi ≤ 256)) ∧ (P.length : Int) = wd * hi ∧ (L.length : Int) = wd * hi) := by
  simp only [sclB, Bool.and_eq_true] at h
  exact fieldB_b h.1
theorem addB_i {n1 n2 n3 : Int} {E2 X2 Y2 : List Nat} (h1 : n1 = wd * hi) (h2 : n2 = wd * hi) (h3 : n3 = wd * hi) :
    fieldB wd hi wr P L (addL (wd * hi) E E2) (addL (wd * hi) X X2) (addL (wd * hi) Y Y2) = fieldB wd hi wr P L (zipL n1 (fun a b => fop .add .f32 a b) E E2) (zipL n2 (fun a b => fop .add .f32 a b) X X2) (zipL n3 (fun a b => fop .add .f32 a b) Y Y2) := by
  subst h1; rw [h2, h3]; rfl
theorem sclB_i {n1 n2 n3 : Int} {s : Nat} (h1 : n1 = wd * hi) (h2 : n2 = wd * hi) (h3 : n3 = wd * hi) :
    fieldB wd hi wr P L (mulL (wd * hi) E s) (mulL (wd * hi) X s) (mulL (wd * hi) Y s) = fieldB wd hi wr P L (zipL n1 (fun a _ => fop .mul .f32 a s) E E) (zipL n2 (fun a _ => fop .mul .f32 a s) X X) (zipL n3 (fun a _ => fop .mul .f32 a s) Y Y) := by
  subst h1; rw [h2, h3]; rfl
theorem addF_i {n1 n2 n3 : Int} {E2 X2 Y2 : List Nat} (h1 : n1 = wd * hi) (h2 : n2 = wd * hi) (h3 : n3 = wd * hi) :
    fitsB wd hi wr (addL (wd * hi) E E2) (addL (wd * hi) X X2) (addL (wd * hi) Y Y2) = fitsB wd hi wr (addL n1 E E2) (addL n2 X X2) (addL n3 Y Y2) := by
  subst h1; rw [h2, h3]
/-- A list that is rewritten from its begin on. -/
def mix (n k : Int) (g : Int → Nat) (X : List Nat) : List Nat := tab n fun i => if i < k then g i else el X i
theorem mix_zero {n : Int} {g : Int → Nat} (h : (X.length : Int) = n) : X = mix n 0 g X := tab_of h fun i h0 _ => by rw [if_neg (by omega)]
theorem mix_all {n : Int} {g : Int → Nat} : mix n n g X = tab n g := tab_ext fun i _ h1 => by rw [if_pos h1]
theorem mix_len {n k : Int} {g : Int → Nat} : (mix n k g X).length = n.toNat := tab_length _ _
theorem el_mix {n k i : Int} {g : Int → Nat} (h0 : 0 ≤ i) (h1 : i < n) (h2 : k ≤ i) : el (mix n k g X) i = el X i := by
  unfold mix; rw [el_tab h0 h1, if_neg (by omega)]
theorem mix_put {n k : Int} {g : Int → Nat} {v : Nat} (h0 : 0 ≤ k) (h1 : k < n) (hv : v = g k) : put (mix n k g X) k v = mix n (k + 1) g X := by
  refine tab_of (by rw [put_length, mix_len]; omega) fun i h2 h3 => ?_
  rw [el_put h0 (by rw [mix_len]; omega) _ _ h2]
  by_cases e : i = k
  · subst e; rw [if_pos rfl, if_pos (by omega), hv]
  · rw [if_neg e]
    unfold mix; rw [el_tab h2 h3]
    by_cases e2 : i < k
    · rw [if_pos e2, if_pos (by omega)]
    · rw [if_neg e2, if_neg (by omega)]
theorem fits_field (h : validS wd hi P L = true) : fieldB wd hi wr P L E X Y = fitsB wd hi wr E X Y := by unfold fieldB; rw [h, Bool.true_and]
end
end Go.Wv
