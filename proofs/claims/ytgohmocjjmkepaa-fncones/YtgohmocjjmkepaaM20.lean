/- Finite numbers: sums, differences, products, comparisons as those of whole numbers, rounded. -/
import Derived.Test.YtgohmocjjmkepaaM19
set_option linter.unusedSimpArgs false
set_option linter.unusedVariables false
namespace Go.Wv
open Ieee
def fin (k : FloatKind) (x : Nat) : Prop := ∃ s m p, k.format.read x = .number s m p
/-- The number, in units of the least place. -/
def val (k : FloatKind) (x : Nat) : Int :=
  match k.format.read x with
  | .number s m p => signed s m (p - lpl k).toNat
  | _ => 0
theorem val_of {k : FloatKind} {x : Nat} {s : Bool} {m : Nat} {p : Int} (h : k.format.read x = .number s m p) : val k x = signed s m (p - lpl k).toNat := by
  unfold val; rw [h]
theorem fin_nan {k : FloatKind} {x : Nat} (h : fin k x) : nanb k x = false := by
  obtain ⟨s, m, p, h⟩ := h; unfold nanb; rw [h]; rfl
/-- A magnitude with its sign. -/
def sg (s : Bool) (m : Nat) : Int := if s then -(m : Int) else (m : Int)
theorem signed_sg (s : Bool) (m u : Nat) : signed s m u = sg s (m * 2 ^ u) := by unfold signed sg; rw [Nat.shiftLeft_eq]
theorem sg_abs (s : Bool) (m : Nat) : (sg s m).natAbs = m := by unfold sg; split <;> omega
theorem sg_mul (s t : Bool) (m n : Nat) : sg s m * sg t n = sg (s ^^ t) (m * n) := by
  cases s <;> cases t <;> simp [sg, Int.neg_mul, Int.mul_neg]
theorem sg_pow (s : Bool) (m c : Nat) : sg s (m * 2 ^ c) = sg s m * 2 ^ c := by cases s <;> simp [sg, Int.neg_mul]
theorem sg_of (n : Int) : sg (decide (n < 0)) n.natAbs = n := by unfold sg; by_cases h : n < 0 <;> simp [h] <;> omega
theorem WZ_sg (k : FloatKind) (s : Bool) (m : Nat) : WZ k (sg s m) = sg s (Wn k m) := by
  unfold WZ
  rw [sg_abs]
  cases s
  · have : ¬ sg false m < 0 := by simp [sg]
    rw [if_neg this]; rfl
  · by_cases h0 : m = 0
    · subst h0; simp [sg, Wn_zero]
    · have : sg true m < 0 := by simp [sg]; omega
      rw [if_pos this]; rfl
theorem WZ_neg (k : FloatKind) (n : Int) : WZ k (-n) = -WZ k n := by
  have h := sg_of n
  rw [← h]
  generalize n.natAbs = m
  generalize decide (n < 0) = s
  have e : -sg s m = sg (!s) m := by cases s <;> simp [sg]
  rw [e, WZ_sg, WZ_sg]
  cases s <;> simp [sg]
theorem WZ_zero (k : FloatKind) : WZ k 0 = 0 := by unfold WZ; simp [Wn_zero]
theorem WZ_shift (k : FloatKind) (n : Int) (c : Nat) : WZ k (n * 2 ^ c) = WZ k n * 2 ^ c := by
  have h := sg_of n
  rw [← h]
  generalize n.natAbs = m
  generalize decide (n < 0) = s
  rw [← sg_pow, WZ_sg, Wn_shift, sg_pow, ← WZ_sg]
theorem WZ_le {k : FloatKind} {n : Int} {e : Nat} (h : n.natAbs ≤ 2 ^ e) : (WZ k n).natAbs ≤ 2 ^ e := by
  have h1 := sg_of n
  rw [← h1, WZ_sg, sg_abs]
  exact Wn_le h
theorem WZ_dvd {k : FloatKind} {n : Int} {c : Nat} (h : 2 ^ c ∣ n) : (2 : Int) ^ c ∣ WZ k n := by
  obtain ⟨q, rfl⟩ := h
  rw [Int.mul_comm, WZ_shift]; exact Int.dvd_mul_left _ _
theorem Wn_exact {k : FloatKind} {m : Nat} (h : m < 2 ^ (fb k + 1)) : Wn k m = m := by
  by_cases h0 : m = 0
  · subst h0; exact Wn_zero k
  · exact Wn_small (by have := (Nat.log2_lt h0).2 h; omega)
theorem WZ_exact {k : FloatKind} {n : Int} (h : n.natAbs < 2 ^ (fb k + 1)) : WZ k n = n := by
  unfold WZ; rw [Wn_exact h]; split <;> omega
theorem WZ_exact2 {k : FloatKind} {q : Int} {c : Nat} (h : q.natAbs < 2 ^ (fb k + 1)) : WZ k (q * 2 ^ c) = q * 2 ^ c := by rw [WZ_shift, WZ_exact h]
/-- What is written of a number that is not too great. -/
theorem write_val (k : FloatKind) {s : Bool} {m : Nat} {p : Int} (hp : lpl k ≤ p) (hb : m * 2 ^ (p - lpl k).toNat ≤ 2 ^ emaxU k) :
    fin k (k.format.nearest s m p) ∧ val k (k.format.nearest s m p) = WZ k (sg s (m * 2 ^ (p - lpl k).toNat)) := by
  obtain ⟨m', p', h1, h2, h3⟩ := nearest_val k s hp hb
  refine ⟨⟨_, _, _, h1⟩, ?_⟩
  rw [val_of h1, signed_sg, h3, WZ_sg, Wn_shift]
theorem val_num {k : FloatKind} {x : Nat} (h : fin k x) : ∃ s m p, k.format.read x = .number s m p ∧ lpl k ≤ p ∧ val k x = sg s (m * 2 ^ (p - lpl k).toNat) := by
  obtain ⟨s, m, p, h⟩ := h
  exact ⟨s, m, p, h, read_place h, by rw [val_of h, signed_sg]⟩
theorem pow_split {lp i b : Int} (h1 : lp ≤ b) (h2 : b ≤ i) : (i - lp).toNat = (i - b).toNat + (b - lp).toNat := by omega
theorem sum_val (k : FloatKind) {s t : Bool} {m n : Nat} {i j : Int} (hi : lpl k ≤ i) (hj : lpl k ≤ j) {a b : Int} (ha : a = sg s (m * 2 ^ (i - lpl k).toNat)) (hb : b = sg t (n * 2 ^ (j - lpl k).toNat)) (hbd : (a + b).natAbs ≤ 2 ^ emaxU k) :
    ∃ r, ((Datum.number s m i).sum (.number t n j)).map k.format.write = some r ∧ fin k r ∧ val k r = WZ k (a + b) := by
  simp only [Datum.sum, Option.map_some, Format.write]
  generalize hB : min i j = B
  have hBl : lpl k ≤ B := by omega
  generalize hT : signed s m (i - B).toNat + signed t n (j - B).toNat = T
  have hab : a + b = T * 2 ^ (B - lpl k).toNat := by
    rw [← hT, Int.add_mul, signed_sg, signed_sg, ← sg_pow, ← sg_pow, Nat.mul_assoc, Nat.mul_assoc, ← Nat.pow_add, ← Nat.pow_add, ← pow_split hBl (by omega), ← pow_split hBl (by omega), ha, hb]
  have hmag : T.natAbs * 2 ^ (B - lpl k).toNat ≤ 2 ^ emaxU k := by
    rw [hab, Int.natAbs_mul, Int.natAbs_pow] at hbd; exact hbd
  refine ⟨_, rfl, ?_⟩
  obtain ⟨c1, c2⟩ := write_val k (s := if T = 0 then s && t else decide (T < 0)) hBl hmag
  refine ⟨c1, c2.trans ?_⟩
  congr 1
  rw [hab]
  by_cases h0 : T = 0
  · subst h0; simp [sg]
  · rw [if_neg h0, sg_pow, sg_of]
theorem sg_not (s : Bool) (m : Nat) : sg (!s) m = -sg s m := by cases s <;> simp [sg]
section
variable {k : FloatKind} {x y : Nat}
theorem add_val (hx : fin k x) (hy : fin k y) (hb : (val k x + val k y).natAbs ≤ 2 ^ emaxU k) : fin k (fop .add k x y) ∧ val k (fop .add k x y) = WZ k (val k x + val k y) := by
  obtain ⟨s, m, i, h1, h2, h3⟩ := val_num hx
  obtain ⟨t, n, j, g1, g2, g3⟩ := val_num hy
  obtain ⟨r, e, c⟩ := sum_val k h2 g2 h3 g3 hb
  have : fop .add k x y = r := by
    unfold fop floatBits
    show (((k.format.read x).sum (k.format.read y)).map k.format.write).getD _ = _
    rw [h1, g1, e]; rfl
  rw [this]; exact c
theorem sub_val (hx : fin k x) (hy : fin k y) (hb : (val k x - val k y).natAbs ≤ 2 ^ emaxU k) : fin k (fop .sub k x y) ∧ val k (fop .sub k x y) = WZ k (val k x - val k y) := by
  obtain ⟨s, m, i, h1, h2, h3⟩ := val_num hx
  obtain ⟨t, n, j, g1, g2, g3⟩ := val_num hy
  obtain ⟨r, e, c⟩ := sum_val k (t := !t) (b := -val k y) h2 g2 h3 (by rw [sg_not, g3]) (by rw [← Int.sub_eq_add_neg]; exact hb)
  have : fop .sub k x y = r := by
    unfold fop floatBits
    show (((k.format.read x).sum (k.format.read y).opposite).map k.format.write).getD _ = _
    rw [h1, g1]
    show (((Datum.number s m i).sum (.number (!t) n j)).map k.format.write).getD _ = _
    rw [e]; rfl
  rw [this, Int.sub_eq_add_neg]; exact c
/-- A product that is a whole number of units. -/
theorem mul_val (hx : fin k x) (hy : fin k y) {Q : Int} (hQ : val k x * val k y = Q * 2 ^ (-lpl k).toNat) (hb : Q.natAbs ≤ 2 ^ emaxU k) : fin k (fop .mul k x y) ∧ val k (fop .mul k x y) = WZ k Q := by
  obtain ⟨s, m, i, h1, h2, h3⟩ := val_num hx
  obtain ⟨t, n, j, g1, g2, g3⟩ := val_num hy
  have hneg : lpl k ≤ 0 := by cases k <;> decide
  have hr : fop .mul k x y = k.format.nearest (s ^^ t) (m * n) (i + j) := by
    unfold fop floatBits
    show (((k.format.read x).product (k.format.read y)).map k.format.write).getD _ = _
    rw [h1, g1]; rfl
  rw [hr]
  have hprod : sg (s ^^ t) (m * n * 2 ^ ((i - lpl k).toNat + (j - lpl k).toNat)) = Q * 2 ^ (-lpl k).toNat := by
    rw [← hQ, h3, g3, sg_mul, Nat.pow_add]
    congr 1
    rw [Nat.mul_assoc, Nat.mul_assoc]; congr 1
    exact Nat.mul_left_comm _ _ _
  have habs : m * n * 2 ^ ((i - lpl k).toNat + (j - lpl k).toNat) = Q.natAbs * 2 ^ (-lpl k).toNat := by
    have := congrArg Int.natAbs hprod
    rw [sg_abs, Int.natAbs_mul, Int.natAbs_pow] at this; exact this
  have hsgQ : sg (s ^^ t) Q.natAbs = Q := by
    have h5 : sg (s ^^ t) (Q.natAbs * 2 ^ (-lpl k).toNat) = Q * 2 ^ (-lpl k).toNat := by rw [← habs]; exact hprod
    rw [sg_pow] at h5
    exact Int.eq_of_mul_eq_mul_right (Int.ne_of_gt (Int.pow_pos (by decide))) h5
  generalize hg : (-lpl k).toNat = g at *
  generalize ha : (i - lpl k).toNat = a at *
  generalize hbb : (j - lpl k).toNat = b at *
  by_cases hc : g ≤ a + b
  · have e1 : m * n * 2 ^ (a + b - g) = Q.natAbs := by
      apply Nat.eq_of_mul_eq_mul_right (Nat.two_pow_pos g)
      rw [Nat.mul_assoc, ← Nat.pow_add, Nat.sub_add_cancel hc]; exact habs
    have e2 : (i + j - lpl k).toNat = a + b - g := by omega
    obtain ⟨c1, c2⟩ := write_val k (s := s ^^ t) (m := m * n) (p := i + j) (by omega) (by rw [e2, e1]; exact hb)
    refine ⟨c1, c2.trans ?_⟩
    rw [e2, e1, hsgQ]
  · have e1 : m * n = Q.natAbs * 2 ^ (g - (a + b)) := by
      apply Nat.eq_of_mul_eq_mul_right (Nat.two_pow_pos (a + b))
      rw [Nat.mul_assoc (Q.natAbs), ← Nat.pow_add, Nat.sub_add_cancel (by omega)]; exact habs
    by_cases h0 : Q.natAbs = 0
    · have hQ0 : Q = 0 := by omega
      obtain ⟨c1, c2⟩ := write_val k (s := s ^^ t) (m := 0) (p := lpl k) (Int.le_refl _) (by simp)
      have e3 : k.format.nearest (s ^^ t) (m * n) (i + j) = k.format.nearest (s ^^ t) 0 (lpl k) := by
        rw [e1, h0, Nat.zero_mul]; simp [Format.nearest]
      rw [e3]
      refine ⟨c1, c2.trans ?_⟩
      rw [hQ0, Nat.zero_mul]; cases (s ^^ t) <;> simp [sg]
    · rw [e1, nearest_shift _ _ _ _ _ h0]
      have e2 : i + j + ((g - (a + b) : Nat) : Int) = lpl k := by omega
      rw [e2]
      obtain ⟨c1, c2⟩ := write_val k (s := s ^^ t) (m := Q.natAbs) (p := lpl k) (Int.le_refl _) (by simpa using hb)
      refine ⟨c1, c2.trans ?_⟩
      simp [hsgQ]
theorem neg_val (hx : fin k x) : fin k (fneg k x) ∧ val k (fneg k x) = -val k x := by
  have hn := fin_nan hx
  obtain ⟨s, m, p, h1, h2, h3⟩ := val_num hx
  have e : fneg k x = Op.negFloat k x := by unfold fneg; rw [hn]; rfl
  have hr : k.format.read (fneg k x) = .number (!s) m p := by rw [e, read_neg, h1]; rfl
  exact ⟨⟨_, _, _, hr⟩, by rw [val_of hr, signed_sg, h3, sg_not]⟩
theorem order_val (hx : fin k x) (hy : fin k y) : k.format.order x y = some (compare (val k x) (val k y)) := by
  obtain ⟨s, m, i, h1, h2, h3⟩ := val_num hx
  obtain ⟨t, n, j, g1, g2, g3⟩ := val_num hy
  show (k.format.read x).order (k.format.read y) = _
  rw [h1, g1]
  simp only [Datum.order]
  congr 1
  generalize hB : min i j = B
  have hBl : lpl k ≤ B := by omega
  have e1 : val k x = signed s m (i - B).toNat * 2 ^ (B - lpl k).toNat := by
    rw [h3, signed_sg, ← sg_pow, Nat.mul_assoc, ← Nat.pow_add, ← pow_split hBl (by omega)]
  have e2 : val k y = signed t n (j - B).toNat * 2 ^ (B - lpl k).toNat := by
    rw [g3, signed_sg, ← sg_pow, Nat.mul_assoc, ← Nat.pow_add, ← pow_split hBl (by omega)]
  rw [e1, e2]
  have hp : (0 : Int) < 2 ^ (B - lpl k).toNat := Int.pow_pos (by decide)
  generalize (2 : Int) ^ (B - lpl k).toNat = c at *
  generalize signed s m (i - B).toNat = u
  generalize signed t n (j - B).toNat = v
  simp only [compare, compareOfLessAndEq]
  have a1 : u * c < v * c ↔ u < v := ⟨fun h => Int.lt_of_mul_lt_mul_right h (Int.le_of_lt hp), fun h => Int.mul_lt_mul_of_pos_right h hp⟩
  have a2 : u * c = v * c ↔ u = v := ⟨fun h => Int.eq_of_mul_eq_mul_right (Int.ne_of_gt hp) h, fun h => by rw [h]⟩
  simp only [a1, a2]
theorem feq_val (hx : fin k x) (hy : fin k y) : feq k x y = decide (val k x = val k y) := by
  unfold feq; rw [order_val hx hy]
  simp only [compare, compareOfLessAndEq]
  by_cases h1 : val k x < val k y
  · rw [if_pos h1, decide_eq_false (by omega)]; rfl
  · rw [if_neg h1]
    by_cases h2 : val k x = val k y
    · rw [if_pos h2, decide_eq_true h2]; rfl
    · rw [if_neg h2, decide_eq_false h2]; rfl
theorem flt_val (hx : fin k x) (hy : fin k y) : flt k x y = decide (val k x < val k y) := by
  unfold flt; rw [order_val hx hy]
  simp only [compare, compareOfLessAndEq]
  by_cases h1 : val k x < val k y
  · rw [if_pos h1, decide_eq_true h1]; rfl
  · rw [if_neg h1, decide_eq_false h1]
    by_cases h2 : val k x = val k y
    · rw [if_pos h2]; rfl
    · rw [if_neg h2]; rfl
theorem fgt_val (hx : fin k x) (hy : fin k y) : fgt k x y = decide (val k y < val k x) := by
  unfold fgt; rw [order_val hx hy]
  simp only [compare, compareOfLessAndEq]
  by_cases h1 : val k x < val k y
  · rw [if_pos h1, decide_eq_false (by omega)]; rfl
  · rw [if_neg h1]
    by_cases h2 : val k x = val k y
    · rw [if_pos h2, decide_eq_false (by omega)]; rfl
    · rw [if_neg h2, decide_eq_true (by omega)]; rfl
theorem fle_val (hx : fin k x) (hy : fin k y) : fle k x y = decide (val k x ≤ val k y) := by
  unfold fle; rw [order_val hx hy]
  simp only [compare, compareOfLessAndEq]
  by_cases h1 : val k x < val k y
  · rw [if_pos h1, decide_eq_true (by omega)]; rfl
  · rw [if_neg h1]
    by_cases h2 : val k x = val k y
    · rw [if_pos h2, decide_eq_true (by omega)]; rfl
    · rw [if_neg h2, decide_eq_false (by omega)]; rfl
theorem fge_val (hx : fin k x) (hy : fin k y) : fge k x y = decide (val k y ≤ val k x) := by
  unfold fge; rw [order_val hx hy]
  simp only [compare, compareOfLessAndEq]
  by_cases h1 : val k x < val k y
  · rw [if_pos h1, decide_eq_false (by omega)]; rfl
  · rw [if_neg h1]
    by_cases h2 : val k x = val k y
    · rw [if_pos h2, decide_eq_true (by omega)]; rfl
    · rw [if_neg h2, decide_eq_true (by omega)]; rfl
end
end Go.Wv
