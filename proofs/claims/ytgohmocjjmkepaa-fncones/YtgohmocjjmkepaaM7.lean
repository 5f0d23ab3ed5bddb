/- What the functions compute: steps. -/
import Derived.Test.YtgohmocjjmkepaaM6
set_option linter.unusedSimpArgs false
set_option linter.unusedVariables false
namespace Go.Wv
section
variable {wd hi n : Int} {wr : Bool} {P L E X Y X0 : List Nat}
theorem cell_pos {x y : Int} (h0 : 0 ≤ x) (h1 : x < wd) (h2 : 0 ≤ y) (h3 : y < hi) : 0 ≤ wd * y + x ∧ wd * y + x < wd * hi ∧ (wd * y + x) % wd = x ∧ (wd * y + x) / wd = y := by
  have hr := row_lt (wd := wd) (hi := hi) h0 h1 h2 h3
  have hd := divmod_row (wd := wd) (x := x) (y := y) h0 h1
  rw [Int.add_comm] at hr hd
  exact ⟨hr.1, hr.2, hd.1, hd.2⟩
/-- A list that is rewritten cell by cell, row by row: one cell more. -/
theorem mix_cell {G : Int → Int → Nat} {x y i : Int} {v : Nat} (hn : n = wd * hi) (h0 : 0 ≤ x) (h1 : x < wd) (h2 : 0 ≤ y) (h3 : y < hi) (hi' : i = atI wd hi x y) (hv : v = G x y) :
    put (mix n (wd * y + x) (fun i => G (i % wd) (i / wd)) X0) i v = mix n (wd * y + (x + 1)) (fun i => G (i % wd) (i / wd)) X0 := by
  have hc := cell_pos (wd := wd) (hi := hi) h0 h1 h2 h3
  have ha := atI_in (wd := wd) (hi := hi) h0 h1 h2 h3
  rw [show i = wd * y + x by omega, mix_put hc.1 (by omega) (by rw [hv, hc.2.2.1, hc.2.2.2]), Int.add_assoc]
theorem mix_same {G : Int → Int → Nat} {x y : Int} (h0 : 0 ≤ x) (h1 : x < wd) (h2 : 0 ≤ y) (h3 : y < hi) (hv : el X0 (atI wd hi x y) = G x y) :
    mix n (wd * y + x) (fun i => G (i % wd) (i / wd)) X0 = mix n (wd * y + (x + 1)) (fun i => G (i % wd) (i / wd)) X0 := by
  have hc := cell_pos (wd := wd) (hi := hi) h0 h1 h2 h3
  have ha := atI_in (wd := wd) (hi := hi) h0 h1 h2 h3
  refine tab_ext fun i _ _ => ?_
  by_cases e : i = wd * y + x
  · subst e
    rw [if_neg (by omega), if_pos (by omega)]
    show el X0 (wd * y + x) = G ((wd * y + x) % wd) ((wd * y + x) / wd)
    rw [hc.2.2.1, hc.2.2.2, ← hv, ha, Int.add_comm]
  · by_cases e2 : i < wd * y + x
    · rw [if_pos e2, if_pos (by omega)]
    · rw [if_neg e2, if_neg (by omega)]
theorem el_mix_cell {g : Int → Nat} {x y : Int} (hn : n = wd * hi) (h0 : 0 ≤ x) (h1 : x < wd) (h2 : 0 ≤ y) (h3 : y < hi) : el (mix n (wd * y + x) g X0) (atI wd hi x y) = el X0 (atI wd hi x y) := by
  have hc := cell_pos (wd := wd) (hi := hi) h0 h1 h2 h3
  have ha := atI_in (wd := wd) (hi := hi) h0 h1 h2 h3
  exact el_mix (by omega) (by omega) (by omega)
/-- X and Y of a cell behind a half step. -/
def hxF (wd hi : Int) (wr : Bool) (E X : List Nat) (x y : Int) : Nat :=
  if (wr || decide (y < hi - 1)) = true then fop .sub .f32 (el X (atI wd hi x y)) (fop .mul .f32 1056964608 (fop .sub .f32 (el E (atI wd hi x (y + 1))) (el E (atI wd hi x y)))) else el X (atI wd hi x y)
def hyF (wd hi : Int) (wr : Bool) (E Y : List Nat) (x y : Int) : Nat :=
  if (wr || decide (x < wd - 1)) = true then fop .add .f32 (el Y (atI wd hi x y)) (fop .mul .f32 1056964608 (fop .sub .f32 (el E (atI wd hi (x + 1) y)) (el E (atI wd hi x y)))) else el Y (atI wd hi x y)
def hxL (wd hi : Int) (wr : Bool) (E X : List Nat) : List Nat := tab (wd * hi) fun i => hxF wd hi wr E X (i % wd) (i / wd)
def hyL (wd hi : Int) (wr : Bool) (E Y : List Nat) : List Nat := tab (wd * hi) fun i => hyF wd hi wr E Y (i % wd) (i / wd)
theorem hx_yes {g : Int → Nat} {x y : Int} (hn : n = wd * hi) (h0 : 0 ≤ x) (h1 : x < wd) (h2 : 0 ≤ y) (h3 : y < hi) (hc : (wr || decide (y < hi - 1)) = true) :
    fop .sub .f32 (el (mix n (wd * y + x) g X) (atI wd hi x y)) (fop .mul .f32 1056964608 (fop .sub .f32 (el E (atI wd hi x (y + 1))) (el E (atI wd hi x y)))) = hxF wd hi wr E X x y := by
  rw [el_mix_cell hn h0 h1 h2 h3]; unfold hxF; rw [if_pos hc]
theorem hy_yes {g : Int → Nat} {x y : Int} (hn : n = wd * hi) (h0 : 0 ≤ x) (h1 : x < wd) (h2 : 0 ≤ y) (h3 : y < hi) (hc : (wr || decide (x < wd - 1)) = true) :
    fop .add .f32 (el (mix n (wd * y + x) g Y) (atI wd hi x y)) (fop .mul .f32 1056964608 (fop .sub .f32 (el E (atI wd hi (x + 1) y)) (el E (atI wd hi x y)))) = hyF wd hi wr E Y x y := by
  rw [el_mix_cell hn h0 h1 h2 h3]; unfold hyF; rw [if_pos hc]
theorem hx_no {x y : Int} (hc : (wr || decide (y < hi - 1)) = false) : el X (atI wd hi x y) = hxF wd hi wr E X x y := by unfold hxF; rw [if_neg (by rw [hc]; simp)]
theorem hy_no {x y : Int} (hc : (wr || decide (x < wd - 1)) = false) : el Y (atI wd hi x y) = hyF wd hi wr E Y x y := by unfold hyF; rw [if_neg (by rw [hc]; simp)]
/-- E of a cell behind a step. -/
def nvV (wd hi : Int) (P L : List Nat) (e : Nat) (X Y : List Nat) (x y : Int) : Nat :=
  fop .add .f32 (fop .mul .f32 e (fop .sub .f32 1065353216 (el L (atI wd hi x y)))) (fop .mul .f32 (el P (atI wd hi x y)) (fop .sub .f32 (fop .sub .f32 (el Y (atI wd hi x y)) (el Y (atI wd hi (x - 1) y))) (fop .sub .f32 (el X (atI wd hi x y)) (el X (atI wd hi x (y - 1))))))
def nwF (wd hi : Int) (wr : Bool) (P L E X Y : List Nat) (x y : Int) : Nat :=
  if bordB wd hi wr x y = true then el E (atI wd hi x y) else nvV wd hi P L (el E (atI wd hi x y)) X Y x y
def nwL (wd hi : Int) (wr : Bool) (P L E X Y : List Nat) : List Nat := tab (wd * hi) fun i => nwF wd hi wr P L E X Y (i % wd) (i / wd)
theorem nw_no {g : Int → Nat} {x y : Int} (hn : n = wd * hi) (h0 : 0 ≤ x) (h1 : x < wd) (h2 : 0 ≤ y) (h3 : y < hi) (hc : bordB wd hi wr x y = false) :
    nvV wd hi P L (el (mix n (wd * y + x) g E) (atI wd hi x y)) X Y x y = nwF wd hi wr P L E X Y x y := by
  rw [el_mix_cell hn h0 h1 h2 h3]; unfold nwF; rw [if_neg (by rw [hc]; simp)]
theorem nw_yes {x y : Int} (hc : bordB wd hi wr x y = true) : el E (atI wd hi x y) = nwF wd hi wr P L E X Y x y := by unfold nwF; rw [if_pos hc]
theorem hxL_len (wd hi : Int) (wr : Bool) (E X : List Nat) : (hxL wd hi wr E X).length = (wd * hi).toNat := tab_length _ _
theorem hyL_len (wd hi : Int) (wr : Bool) (E Y : List Nat) : (hyL wd hi wr E Y).length = (wd * hi).toNat := tab_length _ _
theorem nwL_len (wd hi : Int) (wr : Bool) (P L E X Y : List Nat) : (nwL wd hi wr P L E X Y).length = (wd * hi).toNat := tab_length _ _
/-- A step; some steps. -/
abbrev Fld := List Nat × List Nat × List Nat
def stpT (wd hi : Int) (wr : Bool) (P L : List Nat) (F : Fld) : Fld := (nwL wd hi wr P L F.1 (hxL wd hi wr F.1 F.2.1) (hyL wd hi wr F.1 F.2.2), hxL wd hi wr F.1 F.2.1, hyL wd hi wr F.1 F.2.2)
def rnT (wd hi : Int) (wr : Bool) (P L : List Nat) (F : Fld) : Nat → Fld
  | 0 => F
  | n + 1 => stpT wd hi wr P L (rnT wd hi wr P L F n)
theorem rnT_next {F : Fld} {k : Int} (h : 0 ≤ k) : stpT wd hi wr P L (rnT wd hi wr P L F k.toNat) = rnT wd hi wr P L F (k + 1).toNat := by
  rw [show (k + 1).toNat = k.toNat + 1 by omega]; rfl
theorem rnT_len {F : Fld} {m : Nat} (h1 : F.1.length = m) (h2 : F.2.1.length = m) (h3 : F.2.2.length = m) (hm : (m : Int) = wd * hi) : ∀ k, (rnT wd hi wr P L F k).1.length = m ∧ (rnT wd hi wr P L F k).2.1.length = m ∧ (rnT wd hi wr P L F k).2.2.length = m
  | 0 => ⟨h1, h2, h3⟩
  | k + 1 => by
    simp only [rnT, stpT]
    refine ⟨(nwL_len ..).trans (by omega), (hxL_len ..).trans (by omega), (hyL_len ..).trans (by omega)⟩
def runB (wd hi : Int) (wr : Bool) (P L E X Y : List Nat) (m : Int) : Bool := fieldB wd hi wr P L E X Y && within m 0 64
theorem runB_b {m : Int} (h : runB wd hi wr P L E X Y m = true) : (0 ≤ m ∧ m ≤ 64) ∧ ((E.length : Int) = wd * hi ∧ (X.length : Int) = wd * hi ∧ (Y.length : Int) = wd * hi) ∧ ((((3 ≤ wd ∧ wd ≤ 16) ∧ (3 ≤ hi ∧ hi ≤ 16)) ∧ (9 ≤ wd * hi ∧ wd * hi ≤ 256)) ∧ (P.length : Int) = wd * hi ∧ (L.length : Int) = wd * hi) := by
  simp only [runB, Bool.and_eq_true] at h
  exact ⟨within_b h.2, fieldB_b h.1⟩
theorem runB_one : runB wd hi wr P L E X Y 1 = fieldB wd hi wr P L E X Y := by
  unfold runB
  rw [show within 1 0 64 = true from by decide, Bool.and_true]
end
end Go.Wv
