/- What the functions compute: far cells, probes that are read, quiet steps, traces, sums. -/
import Derived.Test.YtgohmocjjmkepaaM7
set_option linter.unusedSimpArgs false
set_option linter.unusedVariables false
namespace Go.Wv
section
variable {wd hi n : Int} {wr : Bool} {P L E X Y X0 : List Nat}
def farP (E X Y : List Nat) (i : Int) : Bool := feq .f32 (el E i) 0 && feq .f32 (el X i) 0 && feq .f32 (el Y i) 0
def readL (wd : Int) (E : List Nat) (ps : List (Int × Int)) (k : Int) : List Nat := tab k fun i => el E ((gl ps i).1 + wd * (gl ps i).2)
def readB (wd hi : Int) (wr : Bool) (P L E X Y : List Nat) (ps : List (Int × Int)) : Bool := fieldB wd hi wr P L E X Y && prB wd hi ps
theorem readB_b {ps : List (Int × Int)} (h : readB wd hi wr P L E X Y ps = true) : ps.length ≤ 8 ∧ ((E.length : Int) = wd * hi ∧ (X.length : Int) = wd * hi ∧ (Y.length : Int) = wd * hi) ∧ ((((3 ≤ wd ∧ wd ≤ 16) ∧ (3 ≤ hi ∧ hi ≤ 16)) ∧ (9 ≤ wd * hi ∧ wd * hi ≤ 256)) ∧ (P.length : Int) = wd * hi ∧ (L.length : Int) = wd * hi) := by
  simp only [readB, Bool.and_eq_true] at h
  exact ⟨prB_b h.2, fieldB_b h.1⟩
theorem readB_i {ps : List (Int × Int)} : readB wd hi wr P L E X Y ps = (fieldB wd hi wr P L E X Y && areProbesB wd hi P L ps) := by
  unfold readB areProbesB
  cases hv : validS wd hi P L <;> simp [fieldB, hv]
theorem read_cell {ps : List (Int × Int)} {k : Int} (h : prB wd hi ps = true) (h0 : 0 ≤ k) (h1 : k < (ps.length : Int)) : (0 ≤ (gl ps k).1 ∧ (gl ps k).1 < wd) ∧ (0 ≤ (gl ps k).2 ∧ (gl ps k).2 < hi) := by
  have := cellB_b (prB_cell h h0 h1)
  omega
/-- The greatest value of a field. -/
def pkS (E : List Nat) : Nat := if peakI E E.length < 0 then 0 else szX (el E (peakI E E.length))
theorem pkS_no (h : peakI E E.length < 0) : 0 = pkS E := by unfold pkS; rw [if_pos h]
theorem pkS_yes (h : ¬ peakI E E.length < 0) : szX (el E (peakI E E.length)) = pkS E := by unfold pkS; rw [if_neg h]
/-- The first step from 'k' on, of 'n' steps, behind which a field is quiet; -1 if there is none. -/
def qtI (wd hi : Int) (wr : Bool) (P L : List Nat) (F : Fld) (lv : Nat) : Nat → Int → Int
  | 0, _ => -1
  | n + 1, k => if flt .f32 (pkS (rnT wd hi wr P L F k.toNat).1) lv = true then k else qtI wd hi wr P L F lv n (k + 1)
theorem qt_step {F : Fld} {lv : Nat} {m k : Int} (h : k ≤ m) : qtI wd hi wr P L F lv (m + 1 - k).toNat k = if flt .f32 (pkS (rnT wd hi wr P L F k.toNat).1) lv = true then k else qtI wd hi wr P L F lv (m + 1 - (k + 1)).toNat (k + 1) := by
  rw [show (m + 1 - k).toNat = (m + 1 - (k + 1)).toNat + 1 by omega]; rfl
theorem qt_end {F : Fld} {lv : Nat} {m k : Int} (h : ¬ k ≤ m) : qtI wd hi wr P L F lv (m + 1 - k).toNat k = -1 := by
  rw [show (m + 1 - k).toNat = 0 by omega]; rfl
def qtV (wd hi : Int) (wr : Bool) (P L : List Nat) (F : Fld) (lv : Nat) (m : Int) : Int := qtI wd hi wr P L F lv (m + 1 - 0).toNat 0
theorem qtI_b {F : Fld} {lv : Nat} : ∀ (n : Nat) (k : Int), 0 ≤ k → qtI wd hi wr P L F lv n k = -1 ∨ (k ≤ qtI wd hi wr P L F lv n k ∧ qtI wd hi wr P L F lv n k < k + n)
  | 0, k, _ => .inl rfl
  | n + 1, k, h => by
    simp only [qtI]
    split
    · right; omega
    · rcases qtI_b n (k + 1) (by omega) with h1 | h1
      · exact .inl h1
      · right; omega
def qtB (wd hi : Int) (wr : Bool) (P L E X Y : List Nat) (lv : Nat) (m : Int) : Bool := runB wd hi wr P L E X Y m && decide (0 ≤ qtV wd hi wr P L (E, X, Y) lv m)
theorem qt_yes {F : Fld} {lv : Nat} {m k : Int} (h1 : k ≤ m) (hM : qtV wd hi wr P L F lv m = qtI wd hi wr P L F lv (m + 1 - k).toNat k) (hc : flt .f32 (pkS (rnT wd hi wr P L F k.toNat).1) lv = true) : qtV wd hi wr P L F lv m = k := by
  rw [hM, qt_step h1, if_pos hc]
theorem qt_next {F : Fld} {lv : Nat} {m k : Int} (h1 : k ≤ m) (hM : qtV wd hi wr P L F lv m = qtI wd hi wr P L F lv (m + 1 - k).toNat k) (hc : ¬ flt .f32 (pkS (rnT wd hi wr P L F k.toNat).1) lv = true) : qtV wd hi wr P L F lv m = qtI wd hi wr P L F lv (m + 1 - (k + 1)).toNat (k + 1) := by
  rw [hM, qt_step h1, if_neg hc]
/-- What a function tells of each step. -/
def trL (wd hi : Int) (wr : Bool) (P L : List Nat) (F : Fld) (FN : Fld → Nat) (k : Int) : List Nat := tab k fun i => FN (rnT wd hi wr P L F (i + 1).toNat)
theorem trL_next {F : Fld} {FN : Fld → Nat} {k : Int} {v : Nat} (h0 : 0 ≤ k) (hv : v = FN (rnT wd hi wr P L F (k + 1).toNat)) : trL wd hi wr P L F FN k ++ [v] = trL wd hi wr P L F FN (k + 1) := by
  unfold trL; exact tab_snoc h0 hv
theorem trL_len {F : Fld} {FN : Fld → Nat} {k : Int} : (trL wd hi wr P L F FN k).length = k.toNat := tab_length _ _
def trcB (wd hi : Int) (wr : Bool) (P L E X Y : List Nat) (x y m : Int) : Bool := runB wd hi wr P L E X Y m && cellB wd hi x y
theorem trcB_i {x y m : Int} : trcB wd hi wr P L E X Y x y m = (vcellB wd hi P L x y && runB wd hi wr P L E X Y m) := by
  unfold trcB vcellB runB fieldB
  cases validS wd hi P L <;> cases cellB wd hi x y <;> simp
theorem trcB_b {x y m : Int} (h : trcB wd hi wr P L E X Y x y m = true) : ((0 ≤ x ∧ x ≤ wd - 1) ∧ (0 ≤ y ∧ y ≤ hi - 1)) ∧ (0 ≤ m ∧ m ≤ 64) ∧ ((E.length : Int) = wd * hi ∧ (X.length : Int) = wd * hi ∧ (Y.length : Int) = wd * hi) ∧ ((((3 ≤ wd ∧ wd ≤ 16) ∧ (3 ≤ hi ∧ hi ≤ 16)) ∧ (9 ≤ wd * hi ∧ wd * hi ≤ 256)) ∧ (P.length : Int) = wd * hi ∧ (L.length : Int) = wd * hi) := by
  simp only [trcB, Bool.and_eq_true] at h
  exact ⟨cellB_b h.2, runB_b h.1⟩
/-- The sums of all steps. -/
def smT (wd hi : Int) (wr : Bool) (P L : List Nat) (F : Fld) (n : Int) (Q : List Nat) : Nat → List Nat
  | 0 => Q
  | k + 1 => addL n (smT wd hi wr P L F n Q k) (rnT wd hi wr P L F (k + 1)).1
theorem smT_next {F : Fld} {Q : List Nat} {k : Int} (h : 0 ≤ k) : addL n (smT wd hi wr P L F n Q k.toNat) (rnT wd hi wr P L F (k + 1).toNat).1 = smT wd hi wr P L F n Q (k + 1).toNat := by
  rw [show (k + 1).toNat = k.toNat + 1 by omega]; rfl
theorem smT_len {F : Fld} {Q : List Nat} (h : (Q.length : Int) = n) : ∀ k, ((smT wd hi wr P L F n Q k).length : Int) = n
  | 0 => h
  | k + 1 => by
    simp only [smT, addL, zipL, tab_length]; omega
end
end Go.Wv
