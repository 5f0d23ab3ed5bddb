/- Mirrored, exchanged, shifted fields are fields. -/
import Derived.Test.YtgohmocjjmkepaaM16
set_option linter.unusedSimpArgs false
set_option linter.unusedVariables false
namespace Go.Wv
open Ieee
theorem mkR_opp (f : Format) (s : Bool) (r : Nat) : (mkR f s r).opposite = mkR f (!s) r := by
  unfold mkR
  by_cases h1 : r < f.binade
  · rw [if_pos h1, if_pos h1]; rfl
  · rw [if_neg h1, if_neg h1]
    by_cases h2 : r < f.infRung
    · rw [if_pos h2, if_pos h2]; rfl
    · rw [if_neg h2, if_neg h2]
      by_cases h3 : r = f.infRung
      · rw [if_pos h3, if_pos h3]; rfl
      · rw [if_neg h3, if_neg h3]; rfl
/-- What a word with the other sign stands for. -/
theorem read_neg (k : FloatKind) (b : Nat) : k.format.read (Op.negFloat k b) = (k.format.read b).opposite := by
  rw [← read_mod k (Op.negFloat k b), neg_wid, ← read_mod k b]
  have hlt : b % wid k < 2 * k.format.signWeight := by rw [← wid_eq]; exact Nat.mod_lt _ (Nat.two_pow_pos _)
  generalize b % wid k = c at *
  unfold Op.negFloat
  rw [neg_word k.format c hlt, read_rung _ _ (Nat.mod_lt _ (Nat.two_pow_pos _))]
  exact (mkR_opp _ _ _).symm
theorem fne_feq {k : FloatKind} {x y : Nat} : fne k x y = !feq k x y := rfl
/-- Equal to nought. -/
theorem isz_read {k : FloatKind} {x : Nat} (h : feq k x 0 = true) : ∃ t j, k.format.read x = .number t 0 j := by
  cases hd : k.format.read x with
  | nan s t => unfold feq at h; rw [order_nan (by unfold nanb; rw [hd]; rfl)] at h; cases h
  | infinity s =>
    unfold feq at h
    rw [show k.format.order x 0 = (k.format.read x).order (k.format.read 0) from rfl, hd, read_zero] at h
    cases s <;> cases h
  | number t n j =>
    rw [feq_zero hd] at h
    obtain rfl : n = 0 := of_decide_eq_true h
    exact ⟨t, j, rfl⟩
theorem isz_of {k : FloatKind} {x : Nat} {t : Bool} {j : Int} (h : k.format.read x = .number t 0 j) : feq k x 0 = true := by
  rw [feq_zero h]; rfl
theorem isz_neg {k : FloatKind} {x : Nat} (h : feq k x 0 = true) : feq k (fneg k x) 0 = true := by
  obtain ⟨t, j, hr⟩ := isz_read h
  have hn : nanb k x = false := by unfold nanb; rw [hr]; rfl
  have e : fneg k x = Op.negFloat k x := by unfold fneg; rw [hn]; rfl
  rw [e]
  exact isz_of (t := !t) (j := j) (by rw [read_neg, hr]; rfl)
section
variable {wd hi : Int} {wr : Bool} {P L E X Y : List Nat}
/-- What a field that is not joined has at its edges. -/
theorem edge_iff {x y i : Int} : edgeB wd hi E X Y x y i = false ↔ (bordB wd hi false x y = true → feq .f32 (el E i) 0 = true) ∧ (y = hi - 1 → feq .f32 (el X i) 0 = true) ∧ (x = wd - 1 → feq .f32 (el Y i) 0 = true) := by
  unfold edgeB
  simp only [fne_feq, Bool.or_eq_false_iff, Bool.and_eq_false_iff, Bool.not_eq_false', decide_eq_false_iff_not]
  constructor
  · rintro ⟨⟨h1, h2⟩, h3⟩
    exact ⟨fun h => h1.resolve_left (by rw [h]; simp), fun h => h2.resolve_left (by simp [h]), fun h => h3.resolve_left (by simp [h])⟩
  · rintro ⟨h1, h2, h3⟩
    refine ⟨⟨?_, ?_⟩, ?_⟩
    · cases hb : bordB wd hi false x y
      · exact .inl rfl
      · exact .inr (h1 hb)
    · by_cases e : y = hi - 1
      · exact .inr (h2 e)
      · exact .inl e
    · by_cases e : x = wd - 1
      · exact .inr (h3 e)
      · exact .inl e
theorem edge_xy (h : fieldB wd hi false P L E X Y = true) {x y : Int} (h0 : 0 ≤ x) (h1 : x < wd) (h2 : 0 ≤ y) (h3 : y < hi) : edgeB wd hi E X Y x y (x + wd * y) = false := by
  have h4 := row_lt h0 h1 h2 h3
  have h5 := divmod_row (y := y) h0 h1
  have h6 := (fits_iff.1 (fieldB_iff.1 h).2).2.resolve_left (by simp) _ h4.1 h4.2
  rwa [h5.1, h5.2] at h6
theorem field_xy {P' L' E' X' Y' : List Nat} (hv : validS wd hi P' L' = true) (h1 : (E'.length : Int) = wd * hi) (h2 : (X'.length : Int) = wd * hi) (h3 : (Y'.length : Int) = wd * hi)
    (h : wr = false → ∀ x y, 0 ≤ x → x < wd → 0 ≤ y → y < hi → edgeB wd hi E' X' Y' x y (x + wd * y) = false) : fieldB wd hi wr P' L' E' X' Y' = true := by
  cases wr with
  | true => exact field_wrap hv h1 h2 h3
  | false =>
    refine field_yes hv h1 h2 h3 fun i h4 h5 => ?_
    have hb := (validS_b hv).1.1
    have hr := row_of h4 h5 (by omega)
    have := h rfl _ _ hr.1.1 hr.1.2 hr.2.1.1 hr.2.1.2
    rwa [hr.2.2] at this
theorem bord_iff {x y : Int} : bordB wd hi false x y = true ↔ x = 0 ∨ x = wd - 1 ∨ y = 0 ∨ y = hi - 1 := by
  simp only [bordB, Bool.not_false, Bool.true_and, Bool.or_eq_true, decide_eq_true_eq, or_assoc]
theorem el_mirY {x y : Int} (h0 : 0 ≤ x) (h1 : x < wd) (h2 : 0 ≤ y) (h3 : y < hi) : el (mirY wd hi Y) (x + wd * y) = fneg .f32 (el Y ((2 * wd - 2 - x) % wd + wd * y)) := by
  have h4 := row_lt h0 h1 h2 h3
  have h5 := divmod_row (y := y) h0 h1
  unfold mirY
  rw [el_tab h4.1 h4.2, h5.1, h5.2]
theorem el_negL {n i : Int} (h0 : 0 ≤ i) (h1 : i < n) : el (negL n X) i = fneg .f32 (el X i) := by
  unfold negL; rw [el_tab h0 h1]
theorem fieldB_mir (h : fieldB wd hi wr P L E X Y = true) : fieldB wd hi wr (mirS wd hi P) (mirS wd hi L) (mirS wd hi E) (mirS wd hi X) (mirY wd hi Y) = true := by
  have hb := fieldB_b h
  refine field_xy (validS_mir (fieldB_iff.1 h).1) ?_ ?_ ?_ fun hw x y h0 h1 h2 h3 => ?_
  · unfold mirS; rw [movL_len']; omega
  · unfold mirS; rw [movL_len']; omega
  · unfold mirY; rw [tab_length]; omega
  · subst hw
    have he := edge_iff.1 (edge_xy h (x := wd - 1 - x) (y := y) (by omega) (by omega) h2 h3)
    refine edge_iff.2 ⟨fun hc => ?_, fun hc => ?_, fun hc => ?_⟩
    · rw [mirS, el_movL h0 h1 h2 h3]
      refine he.1 (bord_iff.2 ?_)
      have := bord_iff.1 hc
      omega
    · rw [mirS, el_movL h0 h1 h2 h3]; exact he.2.1 hc
    · rw [el_mirY h0 h1 h2 h3]
      subst hc
      have hz := edge_iff.1 (edge_xy h (x := wd - 1) (y := y) (by omega) (by omega) h2 h3)
      rw [show 2 * wd - 2 - (wd - 1) = wd - 1 by omega, Int.emod_eq_of_lt (by omega) (by omega)]
      exact isz_neg (hz.2.2 rfl)
theorem fieldB_swp (h : fieldB wd hi wr P L E X Y = true) : fieldB hi wd wr (swpS wd hi P) (swpS wd hi L) (swpS wd hi E) (negL (wd * hi) (swpS wd hi Y)) (negL (wd * hi) (swpS wd hi X)) = true := by
  have hb := fieldB_b h
  have hcm := Int.mul_comm hi wd
  refine field_xy (validS_swp (fieldB_iff.1 h).1) ?_ ?_ ?_ fun hw x y h0 h1 h2 h3 => ?_
  · unfold swpS; rw [movL_len']; omega
  · unfold negL; rw [tab_length]; omega
  · unfold negL; rw [tab_length]; omega
  · subst hw
    have he := edge_iff.1 (edge_xy h (x := y) (y := x) (by omega) (by omega) h0 h1)
    have hr := row_lt (wd := hi) (hi := wd) h0 h1 h2 h3
    refine edge_iff.2 ⟨fun hc => ?_, fun hc => ?_, fun hc => ?_⟩
    · rw [swpS, el_movL h0 h1 h2 h3]
      refine he.1 (bord_iff.2 ?_)
      have := bord_iff.1 hc
      omega
    · rw [el_negL hr.1 (by omega), swpS, el_movL h0 h1 h2 h3]; exact isz_neg (he.2.2 hc)
    · rw [el_negL hr.1 (by omega), swpS, el_movL h0 h1 h2 h3]; exact isz_neg (he.2.1 hc)
theorem fieldB_shf {dx dy : Int} (h : fieldB wd hi true P L E X Y = true) : fieldB wd hi true (shfS wd hi dx dy P) (shfS wd hi dx dy L) (shfS wd hi dx dy E) (shfS wd hi dx dy X) (shfS wd hi dx dy Y) = true := by
  have hb := fieldB_b h
  refine field_wrap (validS_shf (fieldB_iff.1 h).1) ?_ ?_ ?_ <;> unfold shfS <;> rw [movL_len'] <;> omega
end
end Go.Wv
