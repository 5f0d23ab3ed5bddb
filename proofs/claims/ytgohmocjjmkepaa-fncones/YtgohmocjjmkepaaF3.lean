/- Floats: nought minus a number; sizes. -/
import Derived.Test.YtgohmocjjmkepaaL2
set_option linter.unusedSimpArgs false
set_option linter.unusedVariables false
namespace Go.Wv
open Ieee
theorem read_place {f : Format} {b : Nat} {t : Bool} {n : Nat} {j : Int} (h : f.read b = .number t n j) : f.leastPlace ≤ j := by
  have h' : mkR f (b / f.signWeight % 2 == 1) (b % f.signWeight) = .number t n j := h
  unfold mkR at h'
  split at h'
  · injection h' with _ _ h3; omega
  · split at h'
    · injection h' with _ _ h3; omega
    · split at h' <;> cases h'
theorem read_zero (k : FloatKind) : k.format.read 0 = .number false 0 k.format.leastPlace := by cases k <;> kernel_rfl
theorem order_zero {k : FloatKind} {x : Nat} {t : Bool} {n : Nat} {j : Int} (h : k.format.read x = .number t n j) : k.format.order x 0 = some (compare (signed t n (j - k.format.leastPlace).toNat) 0) := by
  have hp := read_place h
  show (k.format.read x).order (k.format.read 0) = _
  rw [h, read_zero]
  simp only [Datum.order, Int.min_eq_right hp, signed, Int.sub_self, Int.toNat_zero, Nat.shiftLeft_zero]
  simp
theorem signed_zero {t : Bool} {n u : Nat} : signed t n u = 0 ↔ n = 0 := by
  have hp := Nat.two_pow_pos u
  have : n * 2 ^ u = 0 ↔ n = 0 := by
    constructor
    · intro h; rcases Nat.mul_eq_zero.1 h with h | h
      · exact h
      · omega
    · intro h; rw [h, Nat.zero_mul]
  unfold signed
  rw [Nat.shiftLeft_eq]
  rw [← this]
  generalize n * 2 ^ u = m
  cases t <;> simp
theorem feq_zero {k : FloatKind} {x : Nat} {t : Bool} {n : Nat} {j : Int} (h : k.format.read x = .number t n j) : feq k x 0 = decide (n = 0) := by
  unfold feq
  rw [order_zero h]
  by_cases hn : n = 0
  · have := (signed_zero (t := t) (u := (j - k.format.leastPlace).toNat)).2 hn
    rw [this]; simp [hn]
  · have h' : signed t n (j - k.format.leastPlace).toNat ≠ 0 := fun e => hn (signed_zero.1 e)
    simp [hn]
    intro e
    exact h' (by simpa using e)
theorem sub0 {k : FloatKind} {x : Nat} (h : nanb k x = false) (hw : x < wid k) : fop .sub k 0 x = if feq k x 0 = true then 0 else fneg k x := by
  have hneg : fneg k x = Op.negFloat k x := by simp [fneg, h]
  rw [hneg, ← neg_write h hw]
  unfold fop floatBits
  show (((k.format.read 0).sum (k.format.read x).opposite).map k.format.write).getD _ = _
  rw [read_zero]
  cases hd : k.format.read x with
  | nan s t => unfold nanb at h; rw [hd] at h; cases h
  | infinity s =>
    have : feq k x 0 = false := by
      unfold feq
      show ((k.format.read x).order (k.format.read 0) == _) = _
      rw [hd, read_zero]; cases s <;> rfl
    simp [Datum.sum, Datum.opposite, this]
  | number t n j =>
    have hp := read_place hd
    rw [feq_zero hd]
    simp only [Datum.opposite, Datum.sum, Int.min_eq_left hp, Int.sub_self, Int.toNat_zero, Option.map_some, Option.getD_some]
    have e0 : signed false 0 0 = 0 := rfl
    rw [e0, Int.zero_add]
    by_cases hn : n = 0
    · have := (signed_zero (t := !t) (u := (j - k.format.leastPlace).toNat)).2 hn
      rw [this, if_pos rfl]
      simp [hn, Format.write, Format.nearest, Format.word]
    · have h' : signed (!t) n (j - k.format.leastPlace).toNat ≠ 0 := fun e => hn (signed_zero.1 e)
      rw [if_neg h', if_neg (by simpa using hn)]
      have hs : (decide (signed (!t) n (j - k.format.leastPlace).toNat < 0)) = !t ∧ (signed (!t) n (j - k.format.leastPlace).toNat).natAbs = n * 2 ^ (j - k.format.leastPlace).toNat := by
        have hpos : 0 < n * 2 ^ (j - k.format.leastPlace).toNat := Nat.mul_pos (Nat.pos_of_ne_zero hn) (Nat.two_pow_pos _)
        unfold signed
        rw [Nat.shiftLeft_eq]
        generalize n * 2 ^ (j - k.format.leastPlace).toNat = m at *
        cases t <;> simp <;> omega
      rw [hs.1, hs.2]
      show k.format.nearest (!t) _ _ = k.format.nearest (!t) n j
      rw [nearest_shift _ _ _ _ _ hn]
      congr 1
      omega
/-- '|x|' -/
def szX (x : Nat) : Nat := if flt .f32 x 0 then fneg .f32 x else if feq .f32 x 0 then 0 else x
theorem nan_of_order {k : FloatKind} {x y : Nat} {o : Ordering} (h : k.format.order x y = some o) : nanb k x = false := by
  cases hn : nanb k x
  · rfl
  · rw [order_nan hn] at h; cases h
theorem szX_le {x X : Nat} (hX0 : Cn .f32 x X) (h : fle .f32 X 0 = true) : fop .sub .f32 0 X = szX X := by
  have hX := hX0.1
  have hn : nanb .f32 X = false := by
    unfold fle at h
    rcases Bool.or_eq_true _ _ ▸ h with h | h <;> exact nan_of_order (by simpa using h)
  rw [sub0 hn (by subst hX; exact can_lt _ _)]
  unfold szX
  unfold fle at h
  rcases Bool.or_eq_true _ _ ▸ h with h | h
  · have h' : FloatKind.f32.format.order X 0 = some .lt := by simpa using h
    simp [flt, feq, h']
  · have h' : FloatKind.f32.format.order X 0 = some .eq := by simpa using h
    simp [flt, feq, h']
theorem szX_gt {X : Nat} (h : ¬ fle .f32 X 0 = true) : X = szX X := by
  unfold szX
  have h1 : flt .f32 X 0 = false := by unfold fle at h; unfold flt; simp at h; simp [h.1]
  have h2 : feq .f32 X 0 = false := by unfold fle at h; unfold feq; simp at h; simp [h.2]
  simp [h1, h2]
end Go.Wv
