/- Texts that the walks rest on, joined. -/
import Derived.Test.YtgohmocjjmkepaaModB
set_option linter.unusedSimpArgs false
set_option linter.unusedVariables false
/- What finite numbers stand for, in whole units of the least place; rounding as a function of whole numbers. -/
namespace Go.Wv
open Ieee
/-- The exponent (in units of the least place) below which nothing overflows. -/
def emaxU : FloatKind → Nat
  | .f32 => 275
  | .f64 => 2096
def lpl (k : FloatKind) : Int := k.format.leastPlace
def fb (k : FloatKind) : Nat := k.format.fractionBits
theorem emax_rung (k : FloatKind) : (emaxU k - fb k + 2) * k.format.binade < k.format.infRung ∧ fb k ≤ emaxU k := by
  cases k <;> exact ⟨by decide +kernel, by decide⟩
/-- Rounded to so many digits, ties to even. -/
def Wn (k : FloatKind) (m : Nat) : Nat := if m.log2 ≤ fb k then m else Toward.even.cut false m (m.log2 - fb k) * 2 ^ (m.log2 - fb k)
def WZ (k : FloatKind) (n : Int) : Int := if n < 0 then -(Wn k n.natAbs : Int) else (Wn k n.natAbs : Int)
theorem cut_neg (s : Bool) (m d : Nat) : Toward.even.cut s m d = Toward.even.cut false m d := rfl
theorem cut_b {m L d : Nat} (h1 : 2 ^ L ≤ m) (h2 : m < 2 ^ (L + 1)) (hd : d ≤ L) (hl : m.log2 = L) (s : Bool) : 2 ^ (L - d) ≤ Toward.even.cut s m d ∧ Toward.even.cut s m d ≤ 2 ^ (L + 1 - d) := by
  have hg : min d (m.log2 + 2) = d := by omega
  have hlo : 2 ^ (L - d) ≤ m / 2 ^ d := by
    rw [Nat.le_div_iff_mul_le (Nat.two_pow_pos _), ← Nat.pow_add, Nat.sub_add_cancel hd]; exact h1
  have hhi : m / 2 ^ d < 2 ^ (L + 1 - d) := by
    rw [Nat.div_lt_iff_lt_mul (Nat.two_pow_pos _), ← Nat.pow_add, Nat.sub_add_cancel (by omega)]; exact h2
  unfold Toward.cut
  simp only [hg, Nat.one_shiftLeft]
  generalize m / 2 ^ d = q at *
  generalize (decide (2 ^ d < 2 * (m % 2 ^ d)) || 2 ^ d == 2 * (m % 2 ^ d) && q % 2 == 1) = t
  cases t <;> simp <;> omega
theorem Wn_zero (k : FloatKind) : Wn k 0 = 0 := by unfold Wn; rw [if_pos (by simp)]
theorem Wn_small {k : FloatKind} {m : Nat} (h : m.log2 ≤ fb k) : Wn k m = m := by unfold Wn; rw [if_pos h]
theorem Wn_shift (k : FloatKind) (m c : Nat) : Wn k (m * 2 ^ c) = Wn k m * 2 ^ c := by
  by_cases h0 : m = 0
  · subst h0; simp [Wn_zero]
  · unfold Wn
    rw [log2_mul_pow m c h0]
    by_cases h1 : m.log2 ≤ fb k
    · rw [if_pos h1]
      by_cases h2 : m.log2 + c ≤ fb k
      · rw [if_pos h2]
      · rw [if_neg h2, cut_exact false m c _ h0 (by omega), Nat.mul_assoc, ← Nat.pow_add]
        congr 2; omega
    · rw [if_neg h1, if_neg (by omega), show m.log2 + c - fb k = (m.log2 - fb k) + c by omega, cut_shift false m c _ h0, Nat.pow_add, Nat.mul_assoc]
theorem Wn_le {k : FloatKind} {m e : Nat} (h : m ≤ 2 ^ e) : Wn k m ≤ 2 ^ e := by
  by_cases h0 : m = 0
  · subst h0; rw [Wn_zero]; exact Nat.zero_le _
  · by_cases h1 : m.log2 ≤ fb k
    · rw [Wn_small h1]; exact h
    · have a1 : 2 ^ m.log2 ≤ m := Nat.log2_self_le h0
      have a2 : m < 2 ^ (m.log2 + 1) := Nat.lt_log2_self
      have hLe : m.log2 ≤ e := (Nat.pow_le_pow_iff_right (by decide : 1 < 2)).1 (Nat.le_trans a1 h)
      by_cases he : m.log2 = e
      · have hm : m = 1 * 2 ^ e := by rw [he] at a1; omega
        rw [hm, Wn_shift, Wn_small (by rw [show Nat.log2 1 = 0 by decide]; exact Nat.zero_le _)]; omega
      · unfold Wn
        rw [if_neg h1]
        have b := (cut_b a1 a2 (d := m.log2 - fb k) (by omega) rfl false).2
        calc _ ≤ 2 ^ (m.log2 + 1 - (m.log2 - fb k)) * 2 ^ (m.log2 - fb k) := Nat.mul_le_mul_right _ b
          _ = 2 ^ (m.log2 + 1) := by rw [← Nat.pow_add]; congr 1; omega
          _ ≤ 2 ^ e := Nat.pow_le_pow_right (by decide) (by omega)
theorem Wn_dvd {k : FloatKind} {m c : Nat} (h : 2 ^ c ∣ m) : 2 ^ c ∣ Wn k m := by
  obtain ⟨q, rfl⟩ := h
  rw [Nat.mul_comm, Wn_shift]; exact Nat.dvd_mul_left _ _
/-- What the word of a rung stands for. -/
theorem read_kept (k : FloatKind) (s : Bool) {d kept : Nat} (h1 : d = 0 ∨ k.format.binade ≤ kept) (h2 : kept ≤ 2 * k.format.binade) (h3 : d * k.format.binade + kept < k.format.infRung) :
    ∃ m p, k.format.read (k.format.word s (d * k.format.binade + kept)) = .number s m p ∧ lpl k ≤ p ∧ m * 2 ^ (p - lpl k).toNat = kept * 2 ^ d := by
  have hB : 0 < k.format.binade := Nat.two_pow_pos _
  rw [read_rung _ _ (Nat.lt_trans h3 (Format.infRung_lt _))]
  unfold lpl mkR
  generalize k.format.leastPlace = lp
  generalize k.format.binade = B at *
  by_cases a : d * B + kept < B
  · rw [if_pos a]
    have hd : d = 0 := by
      rcases Nat.eq_zero_or_pos d with h | h
      · exact h
      · have : 1 * B ≤ d * B := Nat.mul_le_mul_right _ h
        omega
    subst hd
    exact ⟨_, _, rfl, Int.le_refl _, by simp⟩
  · rw [if_neg a, if_pos h3]
    refine ⟨_, _, rfl, by omega, ?_⟩
    rw [show (lp + (((d * B + kept) / B - 1 : Nat) : Int) - lp).toNat = (d * B + kept) / B - 1 by omega]
    have e1 : (d * B + kept) / B = d + kept / B := by rw [Nat.add_comm, Nat.add_mul_div_right _ _ hB, Nat.add_comm]
    have e2 : (d * B + kept) % B = kept % B := by rw [Nat.add_comm, Nat.add_mul_mod_self_right]
    rw [e1, e2]
    by_cases c : kept < 2 * B
    · by_cases c2 : B ≤ kept
      · have e3 : kept / B = 1 := by rw [Nat.div_eq_iff hB]; omega
        have e4 : kept % B = kept - B := by rw [Nat.mod_eq_sub_mod c2, Nat.mod_eq_of_lt (by omega)]
        rw [e3, e4, Nat.add_sub_cancel, Nat.add_sub_cancel' c2]
      · exfalso
        rcases h1 with h1 | h1
        · subst h1; omega
        · omega
    · have hk : kept = 2 * B := by omega
      subst hk
      rw [Nat.mul_div_cancel _ hB, Nat.mul_mod_left, Nat.add_zero, show d + 2 - 1 = d + 1 by omega, Nat.pow_succ, Nat.mul_comm (2 ^ d) 2, ← Nat.mul_assoc, Nat.mul_comm B 2]
/-- ROUNDING, in whole numbers. -/
theorem nearest_val (k : FloatKind) (s : Bool) {m : Nat} {p : Int} (hp : lpl k ≤ p) (hb : m * 2 ^ (p - lpl k).toNat ≤ 2 ^ emaxU k) :
    ∃ m' p', k.format.read (k.format.nearest s m p) = .number s m' p' ∧ lpl k ≤ p' ∧ m' * 2 ^ (p' - lpl k).toNat = Wn k m * 2 ^ (p - lpl k).toNat := by
  obtain ⟨hr, hf⟩ := emax_rung k
  have hBe : k.format.binade = 2 ^ fb k := rfl
  by_cases h0 : m = 0
  · subst h0
    obtain ⟨a, b, e1, e2, e3⟩ := read_kept k s (d := 0) (kept := 0) (.inl rfl) (Nat.zero_le _) (by simp only [Nat.zero_mul, Nat.add_zero]; omega)
    refine ⟨a, b, ?_, e2, by rw [e3, Wn_zero]; simp⟩
    simpa [Format.nearest] using e1
  · have a1 : 2 ^ m.log2 ≤ m := Nat.log2_self_le h0
    have a2 : m < 2 ^ (m.log2 + 1) := Nat.lt_log2_self
    have hL : m.log2 + (p - lpl k).toNat ≤ emaxU k := by
      apply (Nat.pow_le_pow_iff_right (by decide : 1 < 2)).1
      rw [Nat.pow_add]
      exact Nat.le_trans (Nat.mul_le_mul_right _ a1) hb
    unfold Format.nearest
    rw [if_neg h0]
    have e1 : k.format.leastPlace = lpl k := rfl
    have e2 : k.format.fractionBits = fb k := rfl
    simp only [e1, e2, Nat.shiftLeft_eq]
    generalize hl : max (p + m.log2 - fb k) (lpl k) = last
    have key : ∀ (d kept : Nat), (last - lpl k).toNat = d → Toward.even.cut s (m * 2 ^ (p - last).toNat) (last - p).toNat = kept → (d = 0 ∨ k.format.binade ≤ kept) → kept ≤ 2 * k.format.binade →
        kept * 2 ^ d = Wn k m * 2 ^ (p - lpl k).toNat → d + fb k ≤ emaxU k →
        ∃ m' p', k.format.read (k.format.word s (min ((last - lpl k).toNat * k.format.binade + Toward.even.cut s (m * 2 ^ (p - last).toNat) (last - p).toNat) k.format.infRung)) = .number s m' p' ∧ lpl k ≤ p' ∧ m' * 2 ^ (p' - lpl k).toNat = Wn k m * 2 ^ (p - lpl k).toNat := by
      intro d kept hd hk h1 h2 h3 h4
      rw [hd, hk]
      have hlt : d * k.format.binade + kept < k.format.infRung := by
        have : (d + 2) * k.format.binade ≤ (emaxU k - fb k + 2) * k.format.binade := Nat.mul_le_mul_right _ (by omega)
        rw [Nat.add_mul] at this
        omega
      rw [Nat.min_eq_left (Nat.le_of_lt hlt)]
      obtain ⟨a, b, c1, c2, c3⟩ := read_kept k s h1 h2 hlt
      exact ⟨a, b, c1, c2, c3.trans h3⟩
    by_cases hc : m.log2 ≤ fb k
    · have hle : last ≤ p := by omega
      have hlog : ((m * 2 ^ (p - last).toNat).log2 : Nat) = m.log2 + (p - last).toNat := log2_mul_pow m _ h0
      have b1 : m * 2 ^ (p - last).toNat < 2 ^ (m.log2 + (p - last).toNat + 1) := by rw [← hlog]; exact Nat.lt_log2_self
      have b2 : 2 ^ (m.log2 + (p - last).toNat) ≤ m * 2 ^ (p - last).toNat := by rw [Nat.pow_add]; exact Nat.mul_le_mul_right _ a1
      refine key (last - lpl k).toNat (m * 2 ^ (p - last).toNat) rfl (by rw [show (last - p).toNat = 0 by omega, cut_zero]) ?_ ?_ ?_ (by omega)
      · by_cases hz : last = lpl k
        · exact .inl (by omega)
        · refine .inr (Nat.le_trans ?_ b2)
          rw [hBe]; exact Nat.pow_le_pow_right (by decide) (by omega)
      · refine Nat.le_of_lt (Nat.lt_of_lt_of_le b1 ?_)
        rw [hBe, Nat.mul_comm, ← Nat.pow_succ]; exact Nat.pow_le_pow_right (by decide) (by omega)
      · rw [Wn_small hc, Nat.mul_assoc, ← Nat.pow_add]; congr 2; omega
    · have hla : last = p + m.log2 - fb k := by omega
      have hcb := cut_b a1 a2 (d := m.log2 - fb k) (by omega) rfl s
      refine key (last - lpl k).toNat (Toward.even.cut s m (m.log2 - fb k)) rfl (by rw [show (p - last).toNat = 0 by omega, Nat.pow_zero, Nat.mul_one, show (last - p).toNat = m.log2 - fb k by omega]) ?_ ?_ ?_ (by omega)
      · refine .inr ?_
        rw [hBe]
        refine Nat.le_trans (Nat.pow_le_pow_right (by decide) ?_) hcb.1
        omega
      · rw [hBe, Nat.mul_comm, ← Nat.pow_succ]
        refine Nat.le_trans hcb.2 (Nat.pow_le_pow_right (by decide) ?_)
        omega
      · unfold Wn
        rw [if_neg hc, cut_neg s, Nat.mul_assoc, ← Nat.pow_add]; congr 2; omega
end Go.Wv

/- Finite numbers: sums, differences, products, comparisons as those of whole numbers, rounded. -/
namespace Go.Wv
open Ieee
def fin (k : FloatKind) (x : Nat) : Prop := ∃ s m p, k.format.read x = .number s m p
/-- The number, in units of the least place. -/
def val (k : FloatKind) (x : Nat) : Int :=
  match k.format.read x with
  | .number s m p => signed s m (p - lpl k).toNat
  | _ => 0
theorem val_of {k : FloatKind} {x : Nat} {s : Bool} {m : Nat} {p : Int} (h : k.format.read x = .number s m p) : val k x = signed s m (p - lpl k).toNat := by
  unfold val; rw [h]
theorem fin_nan {k : FloatKind} {x : Nat} (h : fin k x) : nanb k x = false := by
  obtain ⟨s, m, p, h⟩ := h; unfold nanb; rw [h]; rfl
/-- A magnitude with its sign. -/
def sg (s : Bool) (m : Nat) : Int := if s then -(m : Int) else (m : Int)
theorem signed_sg (s : Bool) (m u : Nat) : signed s m u = sg s (m * 2 ^ u) := by unfold signed sg; rw [Nat.shiftLeft_eq]
theorem sg_abs (s : Bool) (m : Nat) : (sg s m).natAbs = m := by unfold sg; split <;> omega
theorem sg_mul (s t : Bool) (m n : Nat) : sg s m * sg t n = sg (s ^^ t) (m * n) := by
  cases s <;> cases t <;> simp [sg, Int.neg_mul, Int.mul_neg]
theorem sg_pow (s : Bool) (m c : Nat) : sg s (m * 2 ^ c) = sg s m * 2 ^ c := by cases s <;> simp [sg, Int.neg_mul]
theorem sg_of (n : Int) : sg (decide (n < 0)) n.natAbs = n := by unfold sg; by_cases h : n < 0 <;> simp [h] <;> omega
theorem WZ_sg (k : FloatKind) (s : Bool) (m : Nat) : WZ k (sg s m) = sg s (Wn k m) := by
  unfold WZ
  rw [sg_abs]
  cases s
  · have : ¬ sg false m < 0 := by simp [sg]
    rw [if_neg this]; rfl
  · by_cases h0 : m = 0
    · subst h0; simp [sg, Wn_zero]
    · have : sg true m < 0 := by simp [sg]; omega
      rw [if_pos this]; rfl
theorem WZ_neg (k : FloatKind) (n : Int) : WZ k (-n) = -WZ k n := by
  have h := sg_of n
  rw [← h]
  generalize n.natAbs = m
  generalize decide (n < 0) = s
  have e : -sg s m = sg (!s) m := by cases s <;> simp [sg]
  rw [e, WZ_sg, WZ_sg]
  cases s <;> simp [sg]
theorem WZ_zero (k : FloatKind) : WZ k 0 = 0 := by unfold WZ; simp [Wn_zero]
theorem WZ_shift (k : FloatKind) (n : Int) (c : Nat) : WZ k (n * 2 ^ c) = WZ k n * 2 ^ c := by
  have h := sg_of n
  rw [← h]
  generalize n.natAbs = m
  generalize decide (n < 0) = s
  rw [← sg_pow, WZ_sg, Wn_shift, sg_pow, ← WZ_sg]
theorem WZ_le {k : FloatKind} {n : Int} {e : Nat} (h : n.natAbs ≤ 2 ^ e) : (WZ k n).natAbs ≤ 2 ^ e := by
  have h1 := sg_of n
  rw [← h1, WZ_sg, sg_abs]
  exact Wn_le h
theorem WZ_dvd {k : FloatKind} {n : Int} {c : Nat} (h : 2 ^ c ∣ n) : (2 : Int) ^ c ∣ WZ k n := by
  obtain ⟨q, rfl⟩ := h
  rw [Int.mul_comm, WZ_shift]; exact Int.dvd_mul_left _ _
theorem Wn_exact {k : FloatKind} {m : Nat} (h : m < 2 ^ (fb k + 1)) : Wn k m = m := by
  by_cases h0 : m = 0
  · subst h0; exact Wn_zero k
  · exact Wn_small (by have := (Nat.log2_lt h0).2 h; omega)
theorem WZ_exact {k : FloatKind} {n : Int} (h : n.natAbs < 2 ^ (fb k + 1)) : WZ k n = n := by
  unfold WZ; rw [Wn_exact h]; split <;> omega
theorem WZ_exact2 {k : FloatKind} {q : Int} {c : Nat} (h : q.natAbs < 2 ^ (fb k + 1)) : WZ k (q * 2 ^ c) = q * 2 ^ c := by rw [WZ_shift, WZ_exact h]
/-- What is written of a number that is not too great. -/
theorem write_val (k : FloatKind) {s : Bool} {m : Nat} {p : Int} (hp : lpl k ≤ p) (hb : m * 2 ^ (p - lpl k).toNat ≤ 2 ^ emaxU k) :
    fin k (k.format.nearest s m p) ∧ val k (k.format.nearest s m p) = WZ k (sg s (m * 2 ^ (p - lpl k).toNat)) := by
  obtain ⟨m', p', h1, h2, h3⟩ := nearest_val k s hp hb
  refine ⟨⟨_, _, _, h1⟩, ?_⟩
  rw [val_of h1, signed_sg, h3, WZ_sg, Wn_shift]
theorem val_num {k : FloatKind} {x : Nat} (h : fin k x) : ∃ s m p, k.format.read x = .number s m p ∧ lpl k ≤ p ∧ val k x = sg s (m * 2 ^ (p - lpl k).toNat) := by
  obtain ⟨s, m, p, h⟩ := h
  exact ⟨s, m, p, h, read_place h, by rw [val_of h, signed_sg]⟩
theorem pow_split {lp i b : Int} (h1 : lp ≤ b) (h2 : b ≤ i) : (i - lp).toNat = (i - b).toNat + (b - lp).toNat := by omega
theorem sum_val (k : FloatKind) {s t : Bool} {m n : Nat} {i j : Int} (hi : lpl k ≤ i) (hj : lpl k ≤ j) {a b : Int} (ha : a = sg s (m * 2 ^ (i - lpl k).toNat)) (hb : b = sg t (n * 2 ^ (j - lpl k).toNat)) (hbd : (a + b).natAbs ≤ 2 ^ emaxU k) :
    ∃ r, ((Datum.number s m i).sum (.number t n j)).map k.format.write = some r ∧ fin k r ∧ val k r = WZ k (a + b) := by
  simp only [Datum.sum, Option.map_some, Format.write]
  generalize hB : min i j = B
  have hBl : lpl k ≤ B := by omega
  generalize hT : signed s m (i - B).toNat + signed t n (j - B).toNat = T
  have hab : a + b = T * 2 ^ (B - lpl k).toNat := by
    rw [← hT, Int.add_mul, signed_sg, signed_sg, ← sg_pow, ← sg_pow, Nat.mul_assoc, Nat.mul_assoc, ← Nat.pow_add, ← Nat.pow_add, ← pow_split hBl (by omega), ← pow_split hBl (by omega), ha, hb]
  have hmag : T.natAbs * 2 ^ (B - lpl k).toNat ≤ 2 ^ emaxU k := by
    rw [hab, Int.natAbs_mul, Int.natAbs_pow] at hbd; exact hbd
  refine ⟨_, rfl, ?_⟩
  obtain ⟨c1, c2⟩ := write_val k (s := if T = 0 then s && t else decide (T < 0)) hBl hmag
  refine ⟨c1, c2.trans ?_⟩
  congr 1
  rw [hab]
  by_cases h0 : T = 0
  · subst h0; simp [sg]
  · rw [if_neg h0, sg_pow, sg_of]
theorem sg_not (s : Bool) (m : Nat) : sg (!s) m = -sg s m := by cases s <;> simp [sg]
section
variable {k : FloatKind} {x y : Nat}
theorem add_val (hx : fin k x) (hy : fin k y) (hb : (val k x + val k y).natAbs ≤ 2 ^ emaxU k) : fin k (fop .add k x y) ∧ val k (fop .add k x y) = WZ k (val k x + val k y) := by
  obtain ⟨s, m, i, h1, h2, h3⟩ := val_num hx
  obtain ⟨t, n, j, g1, g2, g3⟩ := val_num hy
  obtain ⟨r, e, c⟩ := sum_val k h2 g2 h3 g3 hb
  have : fop .add k x y = r := by
    unfold fop floatBits
    show (((k.format.read x).sum (k.format.read y)).map k.format.write).getD _ = _
    rw [h1, g1, e]; rfl
  rw [this]; exact c
theorem sub_val (hx : fin k x) (hy : fin k y) (hb : (val k x - val k y).natAbs ≤ 2 ^ emaxU k) : fin k (fop .sub k x y) ∧ val k (fop .sub k x y) = WZ k (val k x - val k y) := by
  obtain ⟨s, m, i, h1, h2, h3⟩ := val_num hx
  obtain ⟨t, n, j, g1, g2, g3⟩ := val_num hy
  obtain ⟨r, e, c⟩ := sum_val k (t := !t) (b := -val k y) h2 g2 h3 (by rw [sg_not, g3]) (by rw [← Int.sub_eq_add_neg]; exact hb)
  have : fop .sub k x y = r := by
    unfold fop floatBits
    show (((k.format.read x).sum (k.format.read y).opposite).map k.format.write).getD _ = _
    rw [h1, g1]
    show (((Datum.number s m i).sum (.number (!t) n j)).map k.format.write).getD _ = _
    rw [e]; rfl
  rw [this, Int.sub_eq_add_neg]; exact c
/-- A product that is a whole number of units. -/
theorem mul_val (hx : fin k x) (hy : fin k y) {Q : Int} (hQ : val k x * val k y = Q * 2 ^ (-lpl k).toNat) (hb : Q.natAbs ≤ 2 ^ emaxU k) : fin k (fop .mul k x y) ∧ val k (fop .mul k x y) = WZ k Q := by
  obtain ⟨s, m, i, h1, h2, h3⟩ := val_num hx
  obtain ⟨t, n, j, g1, g2, g3⟩ := val_num hy
  have hneg : lpl k ≤ 0 := by cases k <;> decide
  have hr : fop .mul k x y = k.format.nearest (s ^^ t) (m * n) (i + j) := by
    unfold fop floatBits
    show (((k.format.read x).product (k.format.read y)).map k.format.write).getD _ = _
    rw [h1, g1]; rfl
  rw [hr]
  have hprod : sg (s ^^ t) (m * n * 2 ^ ((i - lpl k).toNat + (j - lpl k).toNat)) = Q * 2 ^ (-lpl k).toNat := by
    rw [← hQ, h3, g3, sg_mul, Nat.pow_add]
    congr 1
    rw [Nat.mul_assoc, Nat.mul_assoc]; congr 1
    exact Nat.mul_left_comm _ _ _
  have habs : m * n * 2 ^ ((i - lpl k).toNat + (j - lpl k).toNat) = Q.natAbs * 2 ^ (-lpl k).toNat := by
    have := congrArg Int.natAbs hprod
    rw [sg_abs, Int.natAbs_mul, Int.natAbs_pow] at this; exact this
  have hsgQ : sg (s ^^ t) Q.natAbs = Q := by
    have h5 : sg (s ^^ t) (Q.natAbs * 2 ^ (-lpl k).toNat) = Q * 2 ^ (-lpl k).toNat := by rw [← habs]; exact hprod
    rw [sg_pow] at h5
    exact Int.eq_of_mul_eq_mul_right (Int.ne_of_gt (Int.pow_pos (by decide))) h5
  generalize hg : (-lpl k).toNat = g at *
  generalize ha : (i - lpl k).toNat = a at *
  generalize hbb : (j - lpl k).toNat = b at *
  by_cases hc : g ≤ a + b
  · have e1 : m * n * 2 ^ (a + b - g) = Q.natAbs := by
      apply Nat.eq_of_mul_eq_mul_right (Nat.two_pow_pos g)
      rw [Nat.mul_assoc, ← Nat.pow_add, Nat.sub_add_cancel hc]; exact habs
    have e2 : (i + j - lpl k).toNat = a + b - g := by omega
    obtain ⟨c1, c2⟩ := write_val k (s := s ^^ t) (m := m * n) (p := i + j) (by omega) (by rw [e2, e1]; exact hb)
    refine ⟨c1, c2.trans ?_⟩
    rw [e2, e1, hsgQ]
  · have e1 : m * n = Q.natAbs * 2 ^ (g - (a + b)) := by
      apply Nat.eq_of_mul_eq_mul_right (Nat.two_pow_pos (a + b))
      rw [Nat.mul_assoc (Q.natAbs), ← Nat.pow_add, Nat.sub_add_cancel (by omega)]; exact habs
    by_cases h0 : Q.natAbs = 0
    · have hQ0 : Q = 0 := by omega
      obtain ⟨c1, c2⟩ := write_val k (s := s ^^ t) (m := 0) (p := lpl k) (Int.le_refl _) (by simp)
      have e3 : k.format.nearest (s ^^ t) (m * n) (i + j) = k.format.nearest (s ^^ t) 0 (lpl k) := by
        rw [e1, h0, Nat.zero_mul]; simp [Format.nearest]
      rw [e3]
      refine ⟨c1, c2.trans ?_⟩
      rw [hQ0, Nat.zero_mul]; cases (s ^^ t) <;> simp [sg]
    · rw [e1, nearest_shift _ _ _ _ _ h0]
      have e2 : i + j + ((g - (a + b) : Nat) : Int) = lpl k := by omega
      rw [e2]
      obtain ⟨c1, c2⟩ := write_val k (s := s ^^ t) (m := Q.natAbs) (p := lpl k) (Int.le_refl _) (by simpa using hb)
      refine ⟨c1, c2.trans ?_⟩
      simp [hsgQ]
theorem neg_val (hx : fin k x) : fin k (fneg k x) ∧ val k (fneg k x) = -val k x := by
  have hn := fin_nan hx
  obtain ⟨s, m, p, h1, h2, h3⟩ := val_num hx
  have e : fneg k x = Op.negFloat k x := by unfold fneg; rw [hn]; rfl
  have hr : k.format.read (fneg k x) = .number (!s) m p := by rw [e, read_neg, h1]; rfl
  exact ⟨⟨_, _, _, hr⟩, by rw [val_of hr, signed_sg, h3, sg_not]⟩
theorem order_val (hx : fin k x) (hy : fin k y) : k.format.order x y = some (compare (val k x) (val k y)) := by
  obtain ⟨s, m, i, h1, h2, h3⟩ := val_num hx
  obtain ⟨t, n, j, g1, g2, g3⟩ := val_num hy
  show (k.format.read x).order (k.format.read y) = _
  rw [h1, g1]
  simp only [Datum.order]
  congr 1
  generalize hB : min i j = B
  have hBl : lpl k ≤ B := by omega
  have e1 : val k x = signed s m (i - B).toNat * 2 ^ (B - lpl k).toNat := by
    rw [h3, signed_sg, ← sg_pow, Nat.mul_assoc, ← Nat.pow_add, ← pow_split hBl (by omega)]
  have e2 : val k y = signed t n (j - B).toNat * 2 ^ (B - lpl k).toNat := by
    rw [g3, signed_sg, ← sg_pow, Nat.mul_assoc, ← Nat.pow_add, ← pow_split hBl (by omega)]
  rw [e1, e2]
  have hp : (0 : Int) < 2 ^ (B - lpl k).toNat := Int.pow_pos (by decide)
  generalize (2 : Int) ^ (B - lpl k).toNat = c at *
  generalize signed s m (i - B).toNat = u
  generalize signed t n (j - B).toNat = v
  simp only [compare, compareOfLessAndEq]
  have a1 : u * c < v * c ↔ u < v := ⟨fun h => Int.lt_of_mul_lt_mul_right h (Int.le_of_lt hp), fun h => Int.mul_lt_mul_of_pos_right h hp⟩
  have a2 : u * c = v * c ↔ u = v := ⟨fun h => Int.eq_of_mul_eq_mul_right (Int.ne_of_gt hp) h, fun h => by rw [h]⟩
  simp only [a1, a2]
theorem feq_val (hx : fin k x) (hy : fin k y) : feq k x y = decide (val k x = val k y) := by
  unfold feq; rw [order_val hx hy]
  simp only [compare, compareOfLessAndEq]
  by_cases h1 : val k x < val k y
  · rw [if_pos h1, decide_eq_false (by omega)]; rfl
  · rw [if_neg h1]
    by_cases h2 : val k x = val k y
    · rw [if_pos h2, decide_eq_true h2]; rfl
    · rw [if_neg h2, decide_eq_false h2]; rfl
theorem flt_val (hx : fin k x) (hy : fin k y) : flt k x y = decide (val k x < val k y) := by
  unfold flt; rw [order_val hx hy]
  simp only [compare, compareOfLessAndEq]
  by_cases h1 : val k x < val k y
  · rw [if_pos h1, decide_eq_true h1]; rfl
  · rw [if_neg h1, decide_eq_false h1]
    by_cases h2 : val k x = val k y
    · rw [if_pos h2]; rfl
    · rw [if_neg h2]; rfl
theorem fgt_val (hx : fin k x) (hy : fin k y) : fgt k x y = decide (val k y < val k x) := by
  unfold fgt; rw [order_val hx hy]
  simp only [compare, compareOfLessAndEq]
  by_cases h1 : val k x < val k y
  · rw [if_pos h1, decide_eq_false (by omega)]; rfl
  · rw [if_neg h1]
    by_cases h2 : val k x = val k y
    · rw [if_pos h2, decide_eq_false (by omega)]; rfl
    · rw [if_neg h2, decide_eq_true (by omega)]; rfl
theorem fle_val (hx : fin k x) (hy : fin k y) : fle k x y = decide (val k x ≤ val k y) := by
  unfold fle; rw [order_val hx hy]
  simp only [compare, compareOfLessAndEq]
  by_cases h1 : val k x < val k y
  · rw [if_pos h1, decide_eq_true (by omega)]; rfl
  · rw [if_neg h1]
    by_cases h2 : val k x = val k y
    · rw [if_pos h2, decide_eq_true (by omega)]; rfl
    · rw [if_neg h2, decide_eq_false (by omega)]; rfl
theorem fge_val (hx : fin k x) (hy : fin k y) : fge k x y = decide (val k y ≤ val k x) := by
  unfold fge; rw [order_val hx hy]
  simp only [compare, compareOfLessAndEq]
  by_cases h1 : val k x < val k y
  · rw [if_pos h1, decide_eq_false (by omega)]; rfl
  · rw [if_neg h1]
    by_cases h2 : val k x = val k y
    · rw [if_pos h2, decide_eq_true (by omega)]; rfl
    · rw [if_neg h2, decide_eq_true (by omega)]; rfl
end
end Go.Wv

/- Bits of numbers; quiet fields. -/
namespace Go.Wv
def f32bitsB (P : Program) (f : Nat) : Prop := ∃ fn, P.funcs[f]? = some fn ∧ (fn.name == "runtime.NumGoroutine") = false ∧ fn.body.isNone = true ∧ (Extern.findNext fn).isNone = true ∧ Extern.find fn = some Extern.MathFloatBits.float32bits
section
variable {P : Program} {ρ : Env} {w : World} {d : Option Tmp} {ty : TypeId} {pos : String} {aft : Array Edge} {g : Option (Nat × Bool)} {x : Operand} {K : Value → World → Prop}
theorem k_f32bits {f : Nat} {as : List Operand} {ts : Array TypeId} {b : Nat} (h : f32bitsB P f) (ha : as.map (ev ρ) = [.float .f32 b]) (k : K (.int .u32 (b : Int)) w) :
    opk P ⟨d, .call { callee := .value (.func f), args := as.toArray, argTypes := ts }, ty, pos, aft, g⟩ ρ w K := by
  obtain ⟨fn, hf, h1, h2, h3, h4⟩ := h
  have h3' : Extern.findNext fn = none := by simpa using h3
  have he : Extern.MathFloatBits.float32bits #[.float .f32 b] = pure (.int .u32 (b : Int)) := rfl
  have hr : (callFunc f #[.float .f32 b]).run P w = .ok (.value (.int .u32 (b : Int))) w := by
    have n1 : ¬ fn.name = "runtime.NumGoroutine" := by simpa using h1
    have n2 : fn.body = none := by simpa using h2
    simp [callFunc, hf, n1, n2, h3', h4, he]
  have hm : as.toArray.map (ev ρ) = #[.float .f32 b] := by rw [List.map_toArray, ha]
  unfold opk
  simp only [execOp, resolve, Sem.run_bind, Sem.run_pure, Deferred.ofValue, ev, Result.andThen_ok, invoke, Array.empty_append, Array.append_empty, hm, hr]
  exact k
end
theorem le256 {n : Nat} (h : n ≤ 256) : n ≤ 9223372036854775807 := by omega
theorem le2566 {n : Nat} (h : n ≤ 256) : n ≤ 9223372036854775806 := by omega
theorem wid32 {r : Nat} (h : r < wid .f32) : r < 4294967296 := h
/-- The bits of a number, those of every not-a-number as one. -/
def bitN (X : Nat) : Int := if fne .f32 X X = true then 2143289344 else (X : Int)
theorem bitN_nan {X : Nat} (h : fne .f32 X X = true) : 2143289344 = bitN X := by unfold bitN; rw [if_pos h]
theorem bitN_num {r X : Nat} (hx : Cn .f32 r X) (h : ¬ fne .f32 X X = true) : ((r : Nat) : Int) = bitN X := by
  unfold bitN
  rw [if_neg h]
  have hn : nanb .f32 r = false := by
    have e := fne_self .f32 X
    rw [← nanb_can, hx.1, ← e]; simpa using h
  have := can_of_not hn hx.2
  rw [hx.1] at this
  rw [this]
/-- A number below 'n' that a byte of the input chooses, or its index behind the end. -/
def b10A (X : List Nat) (k n : Int) : Int := if n ≤ 1 then 0 else if k < (X.length : Int) then byt X k % n else (k * 37 + 11) % n
theorem b10A_b (X : List Nat) {k n : Int} (h : 1 ≤ n) (_hk : 0 ≤ k) : 0 ≤ b10A X k n ∧ b10A X k n < n := by
  unfold b10A
  split
  · omega
  · split <;> exact ⟨Int.emod_nonneg _ (by omega), Int.emod_lt_of_pos _ (by omega)⟩
theorem b10A_one {X : List Nat} {k n : Int} (h : n ≤ 1) : b10A X k n = 0 := by unfold b10A; rw [if_pos h]
theorem b10A_in {X : List Nat} {k n : Int} {m : Nat} (hl : X.length = m) (h : ¬ n ≤ 1) (h1 : k < (m : Int)) : b10A X k n = byt X k % n := by unfold b10A; rw [if_neg h, if_pos (by omega)]
theorem b10A_out {X : List Nat} {k n : Int} {m : Nat} (hl : X.length = m) (h : ¬ n ≤ 1) (h1 : ¬ k < (m : Int)) : b10A X k n = (k * 37 + 11) % n := by unfold b10A; rw [if_neg h, if_neg (by omega)]
section
variable {wd hi : Int} {wr : Bool} {P L E X Y : List Nat}
theorem qtI_first {F : Fld} {lv : Nat} : ∀ (n : Nat) (k : Int), 0 ≤ k → 0 ≤ qtI wd hi wr P L F lv n k →
    flt .f32 (pkS (rnT wd hi wr P L F (qtI wd hi wr P L F lv n k).toNat).1) lv = true ∧ ∀ j, k ≤ j → j < qtI wd hi wr P L F lv n k → ¬ flt .f32 (pkS (rnT wd hi wr P L F j.toNat).1) lv = true
  | 0, k, _, h => by simp [qtI] at h
  | n + 1, k, h0, h => by
    simp only [qtI] at h ⊢
    split
    · rename_i hc; exact ⟨hc, fun j h1 h2 => by omega⟩
    · rename_i hc
      rw [if_neg hc] at h
      obtain ⟨a, b⟩ := qtI_first n (k + 1) (by omega) h
      refine ⟨a, fun j h1 h2 => ?_⟩
      by_cases e : j = k
      · subst e; exact hc
      · exact b j (by omega) h2
theorem qt_b {lv : Nat} {m : Int} (h : qtB wd hi wr P L E X Y lv m = true) : 0 ≤ qtV wd hi wr P L (E, X, Y) lv m ∧ qtV wd hi wr P L (E, X, Y) lv m ≤ m ∧ m ≤ 64 := by
  simp only [qtB, Bool.and_eq_true, decide_eq_true_eq] at h
  have h1 := runB_b h.1
  have h2 := h.2
  unfold qtV at h2 ⊢
  rcases qtI_b (wd := wd) (hi := hi) (wr := wr) (P := P) (L := L) (F := (E, X, Y)) (lv := lv) (m + 1 - 0).toNat 0 (Int.le_refl _) with h3 | h3
  · omega
  · omega
theorem qt_run {lv : Nat} {m : Int} (h : qtB wd hi wr P L E X Y lv m = true) : runB wd hi wr P L E X Y (qtV wd hi wr P L (E, X, Y) lv m) = true := by
  have hb := qt_b h
  simp only [qtB, Bool.and_eq_true, runB] at h
  simp only [runB, h.1.1, Bool.true_and, within, Bool.and_eq_true, decide_eq_true_eq]
  omega
theorem el_trL {F : Fld} {FN : Fld → Nat} {n k : Int} (h0 : 0 ≤ k) (h1 : k < n) : el (trL wd hi wr P L F FN n) k = FN (rnT wd hi wr P L F (k + 1).toNat) := by
  unfold trL; rw [el_tab h0 h1]
theorem qt_before {lv : Nat} {m k : Int} (h : qtB wd hi wr P L E X Y lv m = true) (h0 : 0 ≤ k) (h1 : k + 1 < qtV wd hi wr P L (E, X, Y) lv m) :
    ¬ flt .f32 (el (trL wd hi wr P L (E, X, Y) (fun F => pkS F.1) (qtV wd hi wr P L (E, X, Y) lv m)) k) lv = true := by
  have hb := qt_b h
  rw [el_trL h0 (by omega)]
  have := (qtI_first (wd := wd) (hi := hi) (wr := wr) (P := P) (L := L) (F := (E, X, Y)) (lv := lv) (m + 1 - 0).toNat 0 (Int.le_refl _) hb.1).2 (k + 1) (by omega) h1
  exact this
theorem qt_at {lv : Nat} {m : Int} (h : qtB wd hi wr P L E X Y lv m = true) (h1 : ¬ qtV wd hi wr P L (E, X, Y) lv m = 0) :
    flt .f32 (el (trL wd hi wr P L (E, X, Y) (fun F => pkS F.1) (qtV wd hi wr P L (E, X, Y) lv m)) (qtV wd hi wr P L (E, X, Y) lv m - 1)) lv = true := by
  have hb := qt_b h
  rw [el_trL (by omega) (by omega)]
  have := (qtI_first (wd := wd) (hi := hi) (wr := wr) (P := P) (L := L) (F := (E, X, Y)) (lv := lv) (m + 1 - 0).toNat 0 (Int.le_refl _) hb.1).1
  rw [show qtV wd hi wr P L (E, X, Y) lv m - 1 + 1 = qtV wd hi wr P L (E, X, Y) lv m by omega]
  exact this
theorem rowB_yes {y : Int} (h : fieldB wd hi wr P L E X Y = true) (h0 : 0 ≤ y) (h1 : y < hi) : rowB wd hi wr P L E X Y y = true := by
  simp only [rowB, h, within, Bool.true_and, Bool.and_eq_true, decide_eq_true_eq]; omega
theorem colB_yes {x : Int} (h : fieldB wd hi wr P L E X Y = true) (h0 : 0 ≤ x) (h1 : x < wd) : colB wd hi wr P L E X Y x = true := by
  simp only [colB, h, within, Bool.true_and, Bool.and_eq_true, decide_eq_true_eq]; omega
theorem el_row {x y : Int} (h0 : 0 ≤ x) (h1 : x < wd) (h2 : 0 ≤ y) : el (rowS wd E y) x = el E (x + wd * y) := by
  have h3 : 0 ≤ wd * y := Int.mul_nonneg (by omega) h2
  unfold rowS el
  simp only [List.getD_eq_getElem?_getD, List.getElem?_take, List.getElem?_drop]
  rw [if_pos (by omega), show (wd * y).toNat + x.toNat = (x + wd * y).toNat by omega]
theorem row_col {x y : Int} (h0 : 0 ≤ x) (h1 : x < wd) (h2 : 0 ≤ y) (h3 : y < hi) : el (rowS wd E y) x = el (colS wd hi E x) y := by
  rw [el_row h0 h1 h2]
  unfold colS; rw [el_tab h2 h3]
end
end Go.Wv

/- Noughts; what is not reached. -/
namespace Go.Wv
open Ieee
def zr (x : Nat) : Prop := feq .f32 x 0 = true
theorem zr_iff {x : Nat} : zr x ↔ fin .f32 x ∧ val .f32 x = 0 := by
  constructor
  · intro h
    obtain ⟨t, j, hr⟩ := isz_read h
    refine ⟨⟨_, _, _, hr⟩, ?_⟩
    rw [val_of hr, signed_sg]; cases t <;> simp [sg]
  · rintro ⟨hf, hv⟩
    obtain ⟨s, m, p, h1, h2, h3⟩ := val_num hf
    rw [hv] at h3
    have hm : m * 2 ^ (p - lpl .f32).toNat = 0 := by
      have := congrArg Int.natAbs h3
      rw [sg_abs] at this; exact this.symm
    rcases Nat.mul_eq_zero.1 hm with h | h
    · subst h; exact isz_of h1
    · exact absurd h (Nat.ne_of_gt (Nat.two_pow_pos _))
theorem zr_sub {a b : Nat} (ha : zr a) (hb : zr b) : zr (fop .sub .f32 a b) := by
  have a1 := zr_iff.1 ha; have b1 := zr_iff.1 hb
  have := sub_val a1.1 b1.1 (by rw [a1.2, b1.2]; simp)
  exact zr_iff.2 ⟨this.1, by rw [this.2, a1.2, b1.2]; exact WZ_zero _⟩
theorem zr_add {a b : Nat} (ha : zr a) (hb : zr b) : zr (fop .add .f32 a b) := by
  have a1 := zr_iff.1 ha; have b1 := zr_iff.1 hb
  have := add_val a1.1 b1.1 (by rw [a1.2, b1.2]; simp)
  exact zr_iff.2 ⟨this.1, by rw [this.2, a1.2, b1.2]; exact WZ_zero _⟩
theorem zr_mulR {a b : Nat} (ha : fin .f32 a) (hb : zr b) : zr (fop .mul .f32 a b) := by
  have b1 := zr_iff.1 hb
  have := mul_val ha b1.1 (Q := 0) (by rw [b1.2]; simp) (by simp)
  exact zr_iff.2 ⟨this.1, by rw [this.2]; exact WZ_zero _⟩
theorem zr_mulL {a b : Nat} (ha : zr a) (hb : fin .f32 b) : zr (fop .mul .f32 a b) := by
  have b1 := zr_iff.1 ha
  have := mul_val b1.1 hb (Q := 0) (by rw [b1.2]; simp) (by simp)
  exact zr_iff.2 ⟨this.1, by rw [this.2]; exact WZ_zero _⟩
theorem fin_half : fin .f32 1056964608 := ⟨false, 8388608, -24, by kernel_rfl⟩
theorem fin_one : fin .f32 1065353216 := ⟨false, 8388608, -23, by kernel_rfl⟩
theorem fin_zero : fin .f32 0 := ⟨false, 0, -149, by kernel_rfl⟩
theorem val_half : val .f32 1056964608 = 2 ^ 148 := by decide +kernel
theorem val_one : val .f32 1065353216 = 2 ^ 149 := by decide +kernel
theorem val_zero : val .f32 0 = 0 := by decide +kernel
theorem betw_fin {M : Nat} {X : List Nat} {i : Int} (hM : fin .f32 M) (h : betw M X i = true) : fin .f32 (el X i) ∧ 0 ≤ val .f32 (el X i) ∧ val .f32 (el X i) ≤ val .f32 M := by
  unfold betw at h
  simp only [Bool.and_eq_true] at h
  have hf : fin .f32 (el X i) := by
    cases hd : FloatKind.f32.format.read (el X i) with
    | number s m p => exact ⟨s, m, p, hd⟩
    | nan s t =>
      have : nanb .f32 (el X i) = true := by unfold nanb; rw [hd]; rfl
      have h1 := h.1
      unfold fge at h1; rw [order_nan this] at h1; cases h1
    | infinity s =>
      obtain ⟨h1, h2⟩ := h
      obtain ⟨t, n, q, hm⟩ := hM
      unfold fge at h1
      unfold fle at h2
      rw [show FloatKind.f32.format.order (el X i) 0 = (FloatKind.f32.format.read (el X i)).order (FloatKind.f32.format.read 0) from rfl, hd, read_zero] at h1
      rw [show FloatKind.f32.format.order (el X i) M = (FloatKind.f32.format.read (el X i)).order (FloatKind.f32.format.read M) from rfl, hd, hm] at h2
      cases s
      · cases h2
      · cases h1
  have a := fge_val hf fin_zero
  have b := fle_val hf hM
  rw [h.1] at a; rw [h.2] at b
  rw [val_zero] at a
  exact ⟨hf, of_decide_eq_true a.symm, of_decide_eq_true b.symm⟩
theorem one_minus {x : Nat} (hf : fin .f32 x) (h0 : 0 ≤ val .f32 x) (h1 : val .f32 x ≤ 2 ^ 149) : fin .f32 (fop .sub .f32 1065353216 x) ∧ val .f32 (fop .sub .f32 1065353216 x) = WZ .f32 (2 ^ 149 - val .f32 x) := by
  have := sub_val fin_one hf (by
    rw [val_one]
    exact Nat.le_trans (show (2 ^ 149 - val .f32 x).natAbs ≤ 2 ^ 149 by omega) (Nat.pow_le_pow_right (by decide) (by decide)))
  rw [val_one] at this; exact this
theorem stepP {x n : Int} (h0 : 0 ≤ x) (h1 : x < n) : (x + 1 + n) % n = if x + 1 = n then 0 else x + 1 := by
  split
  · rename_i e; rw [e, show n + n = n * 2 by omega]; exact Int.mul_emod_right _ _
  · rw [Int.add_emod_right]; exact Int.emod_eq_of_lt (by omega) (by omega)
theorem stepM {x n : Int} (h0 : 0 ≤ x) (h1 : x < n) : (x - 1 + n) % n = if x = 0 then n - 1 else x - 1 := by
  split
  · rename_i e; rw [e, show 0 - 1 + n = n - 1 by omega]; exact Int.emod_eq_of_lt (by omega) (by omega)
  · rw [Int.add_emod_right]; exact Int.emod_eq_of_lt (by omega) (by omega)
section
variable {wd hi : Int} {wr : Bool} {P L E X Y : List Nat} {x0 y0 : Int}
theorem atI_at {x y : Int} : atI wd hi x y = (x + wd) % wd + wd * ((y + hi) % hi) := rfl
theorem el_hxL {x y : Int} (h0 : 0 ≤ x) (h1 : x < wd) (h2 : 0 ≤ y) (h3 : y < hi) : el (hxL wd hi wr E X) (x + wd * y) = hxF wd hi wr E X x y := by
  have h4 := row_lt h0 h1 h2 h3
  have h5 := divmod_row (y := y) h0 h1
  unfold hxL; rw [el_tab h4.1 h4.2, h5.1, h5.2]
theorem el_hyL {x y : Int} (h0 : 0 ≤ x) (h1 : x < wd) (h2 : 0 ≤ y) (h3 : y < hi) : el (hyL wd hi wr E Y) (x + wd * y) = hyF wd hi wr E Y x y := by
  have h4 := row_lt h0 h1 h2 h3
  have h5 := divmod_row (y := y) h0 h1
  unfold hyL; rw [el_tab h4.1 h4.2, h5.1, h5.2]
theorem el_nwL {x y : Int} (h0 : 0 ≤ x) (h1 : x < wd) (h2 : 0 ≤ y) (h3 : y < hi) : el (nwL wd hi wr P L E X Y) (x + wd * y) = nwF wd hi wr P L E X Y x y := by
  have h4 := row_lt h0 h1 h2 h3
  have h5 := divmod_row (y := y) h0 h1
  unfold nwL; rw [el_tab h4.1 h4.2, h5.1, h5.2]
theorem hx_zero {x y : Int} (h1 : zr (el X (atI wd hi x y))) (h2 : zr (el E (atI wd hi x y))) (h3 : (wr || decide (y < hi - 1)) = true → zr (el E (atI wd hi x (y + 1)))) : zr (hxF wd hi wr E X x y) := by
  unfold hxF
  split
  · rename_i hc; exact zr_sub h1 (zr_mulR fin_half (zr_sub (h3 hc) h2))
  · exact h1
theorem hy_zero {x y : Int} (h1 : zr (el Y (atI wd hi x y))) (h2 : zr (el E (atI wd hi x y))) (h3 : (wr || decide (x < wd - 1)) = true → zr (el E (atI wd hi (x + 1) y))) : zr (hyF wd hi wr E Y x y) := by
  unfold hyF
  split
  · rename_i hc; exact zr_add h1 (zr_mulR fin_half (zr_sub (h3 hc) h2))
  · exact h1
def dst (wd hi : Int) (wr : Bool) (x0 y0 x y : Int) : Int := wayI wr x0 x wd + wayI wr y0 y hi
theorem way_near {a b c n : Int} (h0 : 0 ≤ a) (h1 : a < n) (h2 : 0 ≤ b) (h3 : b < n) (h4 : 0 ≤ c) (h5 : c < n) (h : b = c + 1 ∨ c = b + 1 ∨ b = c ∨ (wr = true ∧ ((b = 0 ∧ c = n - 1) ∨ (c = 0 ∧ b = n - 1)))) : wayI wr a b n ≤ wayI wr a c n + 1 := by
  unfold wayI
  cases wr
  · simp at h ⊢; omega
  · simp at h ⊢; omega
/-- All is nought in the cells that are farther away than 'k'. -/
def ZF (wd hi : Int) (wr : Bool) (x0 y0 : Int) (F : Fld) (k : Int) : Prop :=
  ∀ x y, 0 ≤ x → x < wd → 0 ≤ y → y < hi → k < dst wd hi wr x0 y0 x y → zr (el F.1 (x + wd * y)) ∧ zr (el F.2.1 (x + wd * y)) ∧ zr (el F.2.2 (x + wd * y))
theorem cone_step {F : Fld} {k : Int} (hv : validS wd hi P L = true) (hx0 : 0 ≤ x0 ∧ x0 < wd) (hy0 : 0 ≤ y0 ∧ y0 < hi) (hz : ZF wd hi wr x0 y0 F k) : ZF wd hi wr x0 y0 (stpT wd hi wr P L F) (k + 1) := by
  intro x y a b c d hk
  have hb := validS_b hv
  have hw : 0 < wd := by omega
  have hh : 0 < hi := by omega
  have eself : atI wd hi x y = x + wd * y := atI_in a b c d
  -- neighbours
  have xm := stepM a b
  have xp := stepP a b
  have ym := stepM c d
  have yp := stepP c d
  have hself := hz x y a b c d (by omega)
  have nbE : ∀ u v, 0 ≤ u → u < wd → 0 ≤ v → v < hi → (u = x ∧ (v = y + 1 ∨ y = v + 1 ∨ (wr = true ∧ ((v = 0 ∧ y = hi - 1) ∨ (y = 0 ∧ v = hi - 1))))) ∨ (v = y ∧ (u = x + 1 ∨ x = u + 1 ∨ (wr = true ∧ ((u = 0 ∧ x = wd - 1) ∨ (x = 0 ∧ u = wd - 1))))) →
      zr (el F.1 (u + wd * v)) ∧ zr (el F.2.1 (u + wd * v)) ∧ zr (el F.2.2 (u + wd * v)) := by
    intro u v h1 h2 h3 h4 h5
    refine hz u v h1 h2 h3 h4 ?_
    unfold dst at hk ⊢
    rcases h5 with ⟨rfl, h5⟩ | ⟨rfl, h5⟩
    · have := way_near (wr := wr) (a := y0) (b := y) (c := v) (n := hi) (by omega) (by omega) c d h3 h4 (by rcases h5 with h | h | ⟨hw, h⟩; exact .inr (.inl h); exact .inl h; exact .inr (.inr (.inr ⟨hw, by omega⟩)))
      omega
    · have := way_near (wr := wr) (a := x0) (b := x) (c := u) (n := wd) (by omega) (by omega) a b h1 h2 (by rcases h5 with h | h | ⟨hw, h⟩; exact .inr (.inl h); exact .inl h; exact .inr (.inr (.inr ⟨hw, by omega⟩)))
      omega
  -- X and Y of the cell itself
  have hX : zr (hxF wd hi wr F.1 F.2.1 x y) := by
    refine hx_zero (by rw [eself]; exact hself.2.1) (by rw [eself]; exact hself.1) fun hc => ?_
    simp only [Bool.or_eq_true, decide_eq_true_eq] at hc
    rw [atI_at, Int.add_emod_right, Int.emod_eq_of_lt a b, yp]
    split
    · exact (nbE x 0 a b (by omega) (by omega) (.inl ⟨rfl, .inr (.inr ⟨hc.resolve_right (by omega), by omega⟩)⟩)).1
    · exact (nbE x (y + 1) a b (by omega) (by omega) (.inl ⟨rfl, .inl rfl⟩)).1
  have hY : zr (hyF wd hi wr F.1 F.2.2 x y) := by
    refine hy_zero (by rw [eself]; exact hself.2.2) (by rw [eself]; exact hself.1) fun hc => ?_
    simp only [Bool.or_eq_true, decide_eq_true_eq] at hc
    rw [atI_at, Int.add_emod_right (y), Int.emod_eq_of_lt c d, xp]
    split
    · exact (nbE 0 y (by omega) (by omega) c d (.inr ⟨rfl, .inr (.inr ⟨hc.resolve_right (by omega), by omega⟩)⟩)).1
    · exact (nbE (x + 1) y (by omega) (by omega) c d (.inr ⟨rfl, .inl rfl⟩)).1
  refine ⟨?_, ?_, ?_⟩
  · show zr (el (nwL wd hi wr P L F.1 (hxL wd hi wr F.1 F.2.1) (hyL wd hi wr F.1 F.2.2)) (x + wd * y))
    rw [el_nwL a b c d]
    unfold nwF
    rw [eself]
    split
    · exact hself.1
    · rename_i hbd
      have hin : wr = true ∨ (1 ≤ x ∧ x < wd - 1 ∧ 1 ≤ y ∧ y < hi - 1) := by
        cases wr
        · right
          have : ¬ (x = 0 ∨ x = wd - 1 ∨ y = 0 ∨ y = hi - 1) := fun h => hbd (bord_iff.2 h)
          omega
        · left; rfl
      obtain ⟨hs, _, _, hP, hL⟩ := validS_iff.1 hv
      have hr := row_lt a b c d
      have fP := betw_fin fin_half (hP _ hr.1 hr.2)
      have fL := betw_fin fin_one (hL _ hr.1 hr.2)
      rw [val_one] at fL
      have f1 := (one_minus fL.1 fL.2.1 fL.2.2).1
      unfold nvV
      rw [eself]
      -- the cell above and the cell to the left
      have hXm : zr (el (hxL wd hi wr F.1 F.2.1) (atI wd hi x (y - 1))) := by
        rw [atI_at, Int.add_emod_right, Int.emod_eq_of_lt a b]
        generalize hv' : (y - 1 + hi) % hi = v at *
        have hv0 : 0 ≤ v := by rw [← hv']; exact Int.emod_nonneg _ (by omega)
        have hv1 : v < hi := by rw [← hv']; exact Int.emod_lt_of_pos _ hh
        rw [el_hxL a b hv0 hv1]
        have hcell : (v = y - 1 ∧ 1 ≤ y) ∨ (wr = true ∧ y = 0 ∧ v = hi - 1) := by
          rw [ym] at hv'
          split at hv'
          · exact .inr ⟨hin.resolve_right (by omega), by omega, by omega⟩
          · exact .inl (by omega)
        have hn := nbE x v a b hv0 hv1 (.inl ⟨rfl, by rcases hcell with h | ⟨h, h'⟩; exact .inr (.inl (by omega)); exact .inr (.inr ⟨h, by omega⟩)⟩)
        have ev : atI wd hi x v = x + wd * v := atI_in a b hv0 hv1
        refine hx_zero (by rw [ev]; exact hn.2.1) (by rw [ev]; exact hn.1) fun _ => ?_
        have e2 : atI wd hi x (v + 1) = x + wd * y := by
          rw [atI_at, Int.add_emod_right, Int.emod_eq_of_lt a b, stepP hv0 hv1]
          split
          · rw [show y = 0 by omega]
          · rw [show v + 1 = y by omega]
        rw [e2]; exact hself.1
      have hYm : zr (el (hyL wd hi wr F.1 F.2.2) (atI wd hi (x - 1) y)) := by
        rw [atI_at, Int.add_emod_right y, Int.emod_eq_of_lt c d]
        generalize hv' : (x - 1 + wd) % wd = u at *
        have hv0 : 0 ≤ u := by rw [← hv']; exact Int.emod_nonneg _ (by omega)
        have hv1 : u < wd := by rw [← hv']; exact Int.emod_lt_of_pos _ hw
        rw [el_hyL hv0 hv1 c d]
        have hcell : (u = x - 1 ∧ 1 ≤ x) ∨ (wr = true ∧ x = 0 ∧ u = wd - 1) := by
          rw [xm] at hv'
          split at hv'
          · exact .inr ⟨hin.resolve_right (by omega), by omega, by omega⟩
          · exact .inl (by omega)
        have hn := nbE u y hv0 hv1 c d (.inr ⟨rfl, by rcases hcell with h | ⟨h, h'⟩; exact .inr (.inl (by omega)); exact .inr (.inr ⟨h, by omega⟩)⟩)
        have ev : atI wd hi u y = u + wd * y := atI_in hv0 hv1 c d
        refine hy_zero (by rw [ev]; exact hn.2.2) (by rw [ev]; exact hn.1) fun _ => ?_
        have e2 : atI wd hi (u + 1) y = x + wd * y := by
          rw [atI_at, Int.add_emod_right y, Int.emod_eq_of_lt c d, stepP hv0 hv1]
          split
          · rw [show x = 0 by omega]
          · rw [show u + 1 = x by omega]
        rw [e2]; exact hself.1
      refine zr_add (zr_mulL hself.1 f1) (zr_mulR fP.1 (zr_sub (zr_sub ?_ hYm) (zr_sub ?_ hXm)))
      · rw [el_hyL a b c d]; exact hY
      · rw [el_hxL a b c d]; exact hX
  · show zr (el (hxL wd hi wr F.1 F.2.1) (x + wd * y))
    rw [el_hxL a b c d]; exact hX
  · show zr (el (hyL wd hi wr F.1 F.2.2) (x + wd * y))
    rw [el_hyL a b c d]; exact hY
theorem cone {F : Fld} {k : Int} (hv : validS wd hi P L = true) (hx0 : 0 ≤ x0 ∧ x0 < wd) (hy0 : 0 ≤ y0 ∧ y0 < hi) (hz : ZF wd hi wr x0 y0 F k) : ∀ n : Nat, ZF wd hi wr x0 y0 (rnT wd hi wr P L F n) (k + n)
  | 0 => by simpa [rnT] using hz
  | n + 1 => by
    have := cone_step (wr := wr) hv hx0 hy0 (cone hv hx0 hy0 hz n)
    rw [show k + ((n + 1 : Nat) : Int) = k + n + 1 by omega]
    exact this
end
end Go.Wv

/- The law of cones. -/
namespace Go.Wv
section
variable {α : Type} [Inhabited α]
theorem gl_mem {X : List α} {i : Int} (h0 : 0 ≤ i) (h1 : i < (X.length : Int)) : gl X i ∈ X := by
  have h : i.toNat < X.length := by omega
  have : gl X i = X[i.toNat] := by simp [gl, h]
  rw [this]; exact List.getElem_mem h
end
theorem sel_mem {n : Int} {p : Int → Bool} {j : Int} : j ∈ sel n p ↔ (0 ≤ j ∧ j < n) ∧ p j = true := by
  unfold sel
  simp only [List.mem_filter, List.mem_map, List.mem_range]
  constructor
  · rintro ⟨⟨k, hk, rfl⟩, hp⟩; exact ⟨⟨by omega, by omega⟩, hp⟩
  · rintro ⟨⟨h0, h1⟩, hp⟩; exact ⟨⟨j.toNat, by omega, by omega⟩, hp⟩
theorem sel_gl {n : Int} {p : Int → Bool} {k : Int} (h0 : 0 ≤ k) (h1 : k < ((sel n p).length : Int)) : 0 ≤ gl (sel n p) k ∧ gl (sel n p) k < n := (sel_mem.1 (gl_mem h0 h1)).1
/-- The cells that the first numbers of a list name. -/
def seenT (n : Int) (R : List Int) (k : Int) : List Bool := gtab n fun j => (R.take k.toNat).contains j
theorem seen_len {n : Int} {R : List Int} {k : Int} : (seenT n R k).length = n.toNat := gtab_length _ _
theorem gtab_ext {α : Type} {n : Int} {g h : Int → α} (e : ∀ i, 0 ≤ i → i < n → g i = h i) : gtab n g = gtab n h := by
  unfold gtab
  apply List.map_congr_left
  intro i hi
  rw [List.mem_range] at hi
  exact e i (by omega) (by omega)
theorem seen_zero {n : Int} {R : List Int} {m : Nat} (hm : m = n.toNat) : List.replicate m false = seenT n R 0 := by
  subst hm
  unfold seenT gtab
  simp only [Int.toNat_zero, List.take_zero]
  apply List.ext_getElem?
  intro i
  simp only [List.getElem?_replicate, List.getElem?_map, List.getElem?_range]
  by_cases h : i < n.toNat
  · rw [if_pos h, List.getElem?_range h]; rfl
  · rw [if_neg h, List.getElem?_eq_none (by simp; omega)]; rfl
theorem pl_get {α : Type} [Inhabited α] {X : List α} {i j : Int} {v : α} (h0 : 0 ≤ i) (h1 : i < (X.length : Int)) (hj : 0 ≤ j) : gl (pl X i v) j = if j = i then v else gl X j := by
  unfold gl pl
  simp only [List.getD_eq_getElem?_getD, List.getElem?_set]
  by_cases e : j = i
  · subst e; rw [if_pos rfl, if_pos rfl, if_pos (by omega)]; rfl
  · rw [if_neg e, if_neg (by omega)]
theorem seen_next {n : Int} {R : List Int} {k : Int} (h0 : 0 ≤ k) (h1 : k < (R.length : Int)) (h2 : 0 ≤ gl R k) (h3 : gl R k < n) : pl (seenT n R k) (gl R k) true = seenT n R (k + 1) := by
  refine gtab_of (by rw [pl_length, seen_len]; omega) fun j h4 h5 => ?_
  rw [pl_get h2 (by rw [seen_len]; omega) h4]
  have hk : k.toNat < R.length := by omega
  have e : R.take (k + 1).toNat = R.take k.toNat ++ [gl R k] := by
    rw [show (k + 1).toNat = k.toNat + 1 by omega, List.take_succ_eq_append_getElem hk]
    have : gl R k = R[k.toNat] := by simp [gl, hk]
    rw [this]
  rw [e]
  unfold seenT
  by_cases hj : j = gl R k
  · rw [if_pos hj, ← hj]; simp
  · rw [if_neg hj, gl_gtab h4 h5, Bool.eq_iff_iff]
    simp [hj]
theorem seen_end {n : Int} {p : Int → Bool} {k : Int} (hk : ¬ k < ((sel n p).length : Int)) : seenT n (sel n p) k = gtab n p := by
  unfold seenT
  refine gtab_ext fun i h0 h1 => ?_
  rw [List.take_of_length_le (by omega), Bool.eq_iff_iff, List.contains_iff_mem, sel_mem]
  exact ⟨fun h => h.2, fun h => ⟨⟨h0, h1⟩, h⟩⟩
theorem sel_len_yes {n : Int} {p : Int → Bool} (h : 0 ≤ n) (hp : p n = true) : (((sel (n + 1) p).length : Nat) : Int) = (((sel n p).length : Nat) : Int) + 1 := by
  rw [sel_succ h, if_pos hp]; simp
theorem sel_len_no {n : Int} {p : Int → Bool} (h : 0 ≤ n) (hp : ¬ p n = true) : (((sel (n + 1) p).length : Nat) : Int) = (((sel n p).length : Nat) : Int) := by
  rw [sel_succ h, if_neg hp]; simp
section
variable {wd hi x0 y0 : Int} {wr : Bool} {P L E X Y : List Nat}
theorem reachB_yes {n : Int} (hv : validS wd hi P L = true) (hx : 0 ≤ x0 ∧ x0 < wd) (hy : 0 ≤ y0 ∧ y0 < hi) (hn : 0 ≤ n ∧ n ≤ 64) : reachB wd hi P L x0 y0 n = true := by
  simp only [reachB, vcellB, cellB, hv, within, Bool.true_and, Bool.and_eq_true, decide_eq_true_eq]; omega
theorem el_rep0 {m : Nat} {i : Int} : el (List.replicate m 0) i = 0 := el_replicate m i
theorem zr_zero : zr 0 := by unfold zr; kernel_rfl
theorem zero_edge {m : Nat} {x y i : Int} : edgeB wd hi (List.replicate m 0) (List.replicate m 0) (List.replicate m 0) x y i = false :=
  edge_iff.2 ⟨fun _ => by rw [el_rep0]; exact zr_zero, fun _ => by rw [el_rep0]; exact zr_zero, fun _ => by rw [el_rep0]; exact zr_zero⟩
theorem field_zero {m : Nat} (hv : validS wd hi P L = true) (hm : (m : Int) = wd * hi) : fieldB wd hi wr P L (List.replicate m 0) (List.replicate m 0) (List.replicate m 0) = true :=
  field_xy hv (by simp [hm]) (by simp [hm]) (by simp [hm]) fun _ _ _ _ _ _ _ => zero_edge
theorem put_ok {V : Nat} (hf : fieldB wd hi wr P L E X Y = true) (hx : 1 ≤ x0 ∧ x0 ≤ wd - 2) (hy : 1 ≤ y0 ∧ y0 ≤ hi - 2) : putB wd hi wr P L E X Y x0 y0 V = true := by
  have hb : bordB wd hi wr x0 y0 = false := by
    cases wr
    · have : ¬ bordB wd hi false x0 y0 = true := fun h => by have := bord_iff.1 h; omega
      simpa using this
    · simp [bordB]
  simp only [putB, valB, cellB, hf, hb, within, Bool.false_and, Bool.not_false, Bool.and_true, Bool.true_and, Bool.and_eq_true, decide_eq_true_eq]; omega
theorem put_run {V : Nat} {n : Int} (h : putB wd hi wr P L E X Y x0 y0 V = true) (hn : 0 ≤ n ∧ n ≤ 64) : runB wd hi wr P L (put E (x0 + wd * y0) V) X Y n = true := by
  have hv : valB wd hi wr P L E X Y x0 y0 = true := by simp only [putB, Bool.and_eq_true] at h; exact h.1
  have := put_fits (V := V) hv
  rw [h] at this
  simp only [runB, this, within, Bool.true_and, Bool.and_eq_true, decide_eq_true_eq]; omega
theorem runB_yes {n : Int} (h : fieldB wd hi wr P L E X Y = true) (hn : 0 ≤ n ∧ n ≤ 64) : runB wd hi wr P L E X Y n = true := by
  simp only [runB, h, within, Bool.true_and, Bool.and_eq_true, decide_eq_true_eq]; omega
theorem dst_pos {x y : Int} (hx0 : 0 ≤ x0 ∧ x0 < wd) (hy0 : 0 ≤ y0 ∧ y0 < hi) (hx : 0 ≤ x ∧ x < wd) (hy : 0 ≤ y ∧ y < hi) : 0 ≤ dst wd hi wr x0 y0 x y := by
  have a := wayI_b (wr := wr) (a := x0) (b := x) (side := wd) hx0.1 hx0.2 hx.1 hx.2
  have b := wayI_b (wr := wr) (a := y0) (b := y) (side := hi) hy0.1 hy0.2 hy.1 hy.2
  unfold dst; omega
theorem way_self {a n : Int} (h : 0 < n) : wayI wr a a n = 0 := by unfold wayI; split <;> omega
theorem put_ZF {m V : Nat} (hm : (m : Int) = wd * hi) (hx0 : 0 ≤ x0 ∧ x0 < wd) (hy0 : 0 ≤ y0 ∧ y0 < hi) : ZF wd hi wr x0 y0 (put (List.replicate m 0) (x0 + wd * y0) V, List.replicate m 0, List.replicate m 0) 0 := by
  intro x y a b c d hk
  have hr := row_lt a b c d
  have hr0 := row_lt (wd := wd) (hi := hi) (a := x0) (b := y0) hx0.1 hx0.2 hy0.1 hy0.2
  have hne : x + wd * y ≠ x0 + wd * y0 := by
    intro e
    have e1 := divmod_row (y := y) a b
    have e2 := divmod_row (y := y0) hx0.1 hx0.2
    rw [e] at e1
    have : x = x0 := e1.1.symm.trans e2.1
    have : y = y0 := e1.2.symm.trans e2.2
    subst_vars
    unfold dst at hk
    rw [way_self (by omega), way_self (by omega)] at hk
    omega
  refine ⟨?_, ?_, ?_⟩
  · show zr (el (put _ _ _) _)
    rw [el_put hr0.1 (by simp only [List.length_replicate]; omega) _ _ hr.1, if_neg hne, el_rep0]; exact zr_zero
  · show zr (el _ _); rw [el_rep0]; exact zr_zero
  · show zr (el _ _); rw [el_rep0]; exact zr_zero
/-- What is not reached is nought. -/
theorem far_of {m V : Nat} {n i : Int} (hv : validS wd hi P L = true) (hm : (m : Int) = wd * hi) (hx0 : 0 ≤ x0 ∧ x0 < wd) (hy0 : 0 ≤ y0 ∧ y0 < hi) (hn : 0 ≤ n) (h0 : 0 ≤ i) (h1 : i < wd * hi)
    (h : reachP wd hi wr x0 y0 n (i % wd) (i / wd) = false) :
    feq .f32 (el (rnT wd hi wr P L (put (List.replicate m 0) (x0 + wd * y0) V, List.replicate m 0, List.replicate m 0) n.toNat).1 i) 0 = true ∧
    feq .f32 (el (rnT wd hi wr P L (put (List.replicate m 0) (x0 + wd * y0) V, List.replicate m 0, List.replicate m 0) n.toNat).2.1 i) 0 = true ∧
    feq .f32 (el (rnT wd hi wr P L (put (List.replicate m 0) (x0 + wd * y0) V, List.replicate m 0, List.replicate m 0) n.toNat).2.2 i) 0 = true := by
  have hb := validS_b hv
  have hc := cone (wr := wr) hv hx0 hy0 (put_ZF (wr := wr) (V := V) hm hx0 hy0) n.toNat
  have hr := row_of h0 h1 (show 0 < wd by omega)
  have := hc _ _ hr.1.1 hr.1.2 hr.2.1.1 hr.2.1.2 (by
    have h' := of_decide_eq_false h
    unfold dst; omega)
  rw [hr.2.2] at this
  exact this
theorem reach_self {n : Int} (hx0 : 0 ≤ x0 ∧ x0 < wd) (hy0 : 0 ≤ y0 ∧ y0 < hi) (hn : 0 ≤ n) : gl (gtab (wd * hi) fun i => reachP wd hi wr x0 y0 n (i % wd) (i / wd)) (x0 + wd * y0) = true := by
  have hr := row_lt (wd := wd) (hi := hi) (a := x0) (b := y0) hx0.1 hx0.2 hy0.1 hy0.2
  have hd := divmod_row (wd := wd) (x := x0) (y := y0) hx0.1 hx0.2
  rw [gl_gtab hr.1 hr.2, hd.1, hd.2]
  unfold reachP
  rw [way_self (by omega), way_self (by omega)]
  exact decide_eq_true (by omega)
/-- Walls keep what they have. -/
theorem wall_step {F : Fld} {x y : Int} (a : 0 ≤ x) (b : x < wd) (c : 0 ≤ y) (d : y < hi) (h : bordB wd hi wr x y = true) : el (stpT wd hi wr P L F).1 (x + wd * y) = el F.1 (x + wd * y) := by
  show el (nwL wd hi wr P L F.1 _ _) (x + wd * y) = _
  rw [el_nwL a b c d]; unfold nwF; rw [if_pos h, atI_in a b c d]
theorem wall {F : Fld} {x y : Int} (a : 0 ≤ x) (b : x < wd) (c : 0 ≤ y) (d : y < hi) (h : bordB wd hi wr x y = true) : ∀ n : Nat, el (rnT wd hi wr P L F n).1 (x + wd * y) = el F.1 (x + wd * y)
  | 0 => rfl
  | n + 1 => (wall_step a b c d h).trans (wall a b c d h n)
theorem wall_i {n : Nat} {i : Int} (hw : 0 < wd) (h0 : 0 ≤ i) (h1 : i < wd * hi) (h : i % wd = 0 ∨ i % wd = wd - 1 ∨ i / wd = 0 ∨ i / wd = hi - 1) : el (rnT wd hi false P L (E, X, Y) n).1 i = el E i := by
  have hr := row_of h0 h1 hw
  have := wall (wr := false) (P := P) (L := L) (F := (E, X, Y)) hr.1.1 hr.1.2 hr.2.1.1 hr.2.1.2 (bord_iff.2 h) n
  rwa [hr.2.2] at this
/-- A step of a field is a field. -/
theorem step_field (hv : validS wd hi P L = true) {F : Fld} (h : fieldB wd hi wr P L F.1 F.2.1 F.2.2 = true) : fieldB wd hi wr P L (stpT wd hi wr P L F).1 (stpT wd hi wr P L F).2.1 (stpT wd hi wr P L F).2.2 = true := by
  have hb := fieldB_b h
  refine field_xy hv ((congrArg Int.ofNat (nwL_len ..)).trans (by simp only [Int.ofNat_eq_natCast]; omega)) ((congrArg Int.ofNat (hxL_len ..)).trans (by simp only [Int.ofNat_eq_natCast]; omega)) ((congrArg Int.ofNat (hyL_len ..)).trans (by simp only [Int.ofNat_eq_natCast]; omega)) fun hw x y a b c d => ?_
  subst hw
  have he := edge_iff.1 (edge_xy h a b c d)
  refine edge_iff.2 ⟨fun hc => ?_, fun hc => ?_, fun hc => ?_⟩
  · rw [wall_step a b c d hc]; exact he.1 hc
  · show feq .f32 (el (hxL wd hi false F.1 F.2.1) (x + wd * y)) 0 = true
    rw [el_hxL a b c d]; unfold hxF
    rw [if_neg (by simp; omega), atI_in a b c d]; exact he.2.1 hc
  · show feq .f32 (el (hyL wd hi false F.1 F.2.2) (x + wd * y)) 0 = true
    rw [el_hyL a b c d]; unfold hyF
    rw [if_neg (by simp; omega), atI_in a b c d]; exact he.2.2 hc
theorem rnT_field (h : fieldB wd hi wr P L E X Y = true) : ∀ n : Nat, fieldB wd hi wr P L (rnT wd hi wr P L (E, X, Y) n).1 (rnT wd hi wr P L (E, X, Y) n).2.1 (rnT wd hi wr P L (E, X, Y) n).2.2 = true
  | 0 => h
  | n + 1 => step_field (fieldB_iff.1 h).1 (rnT_field h n)
theorem run_field {m : Int} {n : Nat} (h : runB wd hi wr P L E X Y m = true) : fieldB wd hi wr P L (rnT wd hi wr P L (E, X, Y) n).1 (rnT wd hi wr P L (E, X, Y) n).2.1 (rnT wd hi wr P L (E, X, Y) n).2.2 = true := by
  simp only [runB, Bool.and_eq_true] at h
  exact rnT_field h.1 n
end
end Go.Wv

/- An operation with an unknown answer beside one that acts, in either order. -/
namespace Go.Wv
def twoB (ops : Array Oper) (listed : Array Bool) (i j : Nat) : Bool := !(Region.ready .any ops listed).isEmpty && (Region.ready .any ops listed).all fun k => k == i || k == j
section
variable {P : Program} {ops : Array Oper} {Q : Env → World → Prop} {ρ : Env} {w w0 : World} {S : Nat → Prop} {f : Nat} {listed : Array Bool}
theorem m_ntwo {t : Tmp} {op op' : Op} {ty ty' : TypeId} {pos pos' : String} {aft aft' : Array Edge} {g g' : Option (Nat × Bool)} {d' : Option Tmp} (i j : Nat) (hr : twoB ops listed i j = true)
    (hi : ops[i]? = some ⟨some t, op, ty, pos, aft, g⟩) (hj : ops[j]? = some ⟨d', op', ty', pos', aft', g'⟩) (hw : want ops ρ ⟨some t, op, ty, pos, aft, g⟩ = true) (hw' : want ops ρ ⟨d', op', ty', pos', aft', g'⟩ = true) (hac : acts op = false) (hac' : acts op' = true)
    (h : ∃ V : Value → Prop, (∀ w', Ext S w0 w' → Yn P ρ ⟨some t, op, ty, pos, aft, g⟩ V w') ∧ ∀ v, V v → wpM P ops (Ext S w0) Q f (listed.setIfInBounds i true) (upd ρ t v) w)
    (h' : ∀ w', Ext0 w w' → opk P ⟨d', op', ty', pos', aft', g'⟩ ρ w' (fun v w'' => (mustC ops j = true → Ext S w0 w'') ∧ wpM P ops (Ext S w0) Q f (listed.setIfInBounds j true) (setd ρ d' v) w'')) : wpM P ops (Ext S w0) Q (f + 1) listed ρ w := by
  simp only [twoB, Bool.and_eq_true, List.all_eq_true, Bool.or_eq_true, beq_iff_eq] at hr
  refine ⟨fun e => (by rw [e] at hr; simp at hr), fun k hk o ho => ?_⟩
  rcases hr.2 k hk with rfl | rfl
  · obtain rfl : (⟨some t, op, ty, pos, aft, g⟩ : Oper) = o := Option.some.inj (hi.symm.trans ho)
    obtain ⟨V, h1, h2⟩ := h
    refine ⟨fun _ _ => ⟨fun w' hc => ?_, fun w' v n hc hrun => ?_⟩, fun _ b => (by rw [hac] at b; cases b), fun e => (by rw [hw] at e; cases e)⟩
    · obtain ⟨v, n, hr, _⟩ := h1 w' hc
      exact ⟨v, n, hr⟩
    · obtain ⟨v', n', hr', hs⟩ := h1 w' hc
      rw [hr'] at hrun
      injection hrun with e1 e2
      injection e1 with e1
      subst e1
      exact h2 _ hs
  · obtain rfl : (⟨d', op', ty', pos', aft', g'⟩ : Oper) = o := Option.some.inj (hj.symm.trans ho)
    exact ⟨fun _ b => (by rw [hac'] at b; cases b), fun _ _ n => h' _ (Ext0.of_draw _ _), fun e => (by rw [hw'] at e; cases e)⟩
end
end Go.Wv

/- Steps of fields of moderate numbers, as whole numbers. -/
namespace Go.Wv
open Ieee
abbrev WS (n : Int) : Int := WZ .f32 n
/-- A finite number that is a multiple of 2 ^ M (in units of the least place), at most 2 ^ b. -/
def gq (M b : Nat) (x : Nat) : Prop := fin .f32 x ∧ (2 : Int) ^ M ∣ val .f32 x ∧ (val .f32 x).natAbs ≤ 2 ^ b
theorem gq_mono {M M' b b' x : Nat} (h : gq M b x) (hM : M' ≤ M) (hb : b ≤ b') : gq M' b' x :=
  ⟨h.1, Int.dvd_trans (by obtain ⟨d, rfl⟩ := Nat.exists_eq_add_of_le hM; rw [Int.pow_add]; exact Int.dvd_mul_right _ _) h.2.1, Nat.le_trans h.2.2 (Nat.pow_le_pow_right (by decide) hb)⟩
theorem abs_pow2 (t : Int) (b : Nat) : (t * 2 ^ b).natAbs = t.natAbs * 2 ^ b := by rw [Int.natAbs_mul, Int.natAbs_pow]; rfl
theorem nat_big {t a b E : Nat} (ht : t ≤ 2 ^ a) (h : a + b ≤ E) : t * 2 ^ b ≤ 2 ^ E := by
  refine Nat.le_trans (Nat.mul_le_mul_right _ ht) ?_
  rw [← Nat.pow_add]; exact Nat.pow_le_pow_right (by decide) h
theorem abs_big {t : Int} {a b E : Nat} (ht : t.natAbs ≤ 2 ^ a) (h : a + b ≤ E) : (t * 2 ^ b).natAbs ≤ 2 ^ E := by rw [abs_pow2]; exact nat_big ht h
theorem abs_add {a b : Int} {e : Nat} (ha : a.natAbs ≤ 2 ^ e) (hb : b.natAbs ≤ 2 ^ e) : (a + b).natAbs ≤ 2 ^ (e + 1) := by
  rw [Nat.pow_succ]; omega
theorem abs_sub {a b : Int} {e : Nat} (ha : a.natAbs ≤ 2 ^ e) (hb : b.natAbs ≤ 2 ^ e) : (a - b).natAbs ≤ 2 ^ (e + 1) := by
  rw [Nat.pow_succ]; omega
theorem pow_le275 {e : Nat} (h : e ≤ 275) {n : Nat} (hn : n ≤ 2 ^ e) : n ≤ 2 ^ emaxU .f32 := Nat.le_trans hn (Nat.pow_le_pow_right (by decide) h)
theorem gq_add {M b x y : Nat} (hx : gq M b x) (hy : gq M b y) (hb : b + 1 ≤ 275) : gq M (b + 1) (fop .add .f32 x y) ∧ val .f32 (fop .add .f32 x y) = WS (val .f32 x + val .f32 y) := by
  have h := abs_add hx.2.2 hy.2.2
  have := add_val hx.1 hy.1 (pow_le275 hb h)
  exact ⟨⟨this.1, by rw [this.2]; exact WZ_dvd (Int.dvd_add hx.2.1 hy.2.1), by rw [this.2]; exact WZ_le h⟩, this.2⟩
theorem gq_sub {M b x y : Nat} (hx : gq M b x) (hy : gq M b y) (hb : b + 1 ≤ 275) : gq M (b + 1) (fop .sub .f32 x y) ∧ val .f32 (fop .sub .f32 x y) = WS (val .f32 x - val .f32 y) := by
  have h := abs_sub hx.2.2 hy.2.2
  have := sub_val hx.1 hy.1 (pow_le275 hb h)
  exact ⟨⟨this.1, by rw [this.2]; exact WZ_dvd (Int.dvd_sub hx.2.1 hy.2.1), by rw [this.2]; exact WZ_le h⟩, this.2⟩
theorem neg_lpl : (-lpl .f32).toNat = 149 := by decide
/-- Products of numbers that have enough noughts behind. -/
theorem gq_mul {M b N c x y : Nat} (hx : gq M b x) (hy : gq N c y) (hM : 149 ≤ M + N) (hc : c ≤ 149) (hb : b ≤ 275) : gq (M + N - 149) b (fop .mul .f32 x y) ∧ val .f32 (fop .mul .f32 x y) = WS (val .f32 x * val .f32 y / 2 ^ 149) := by
  obtain ⟨fx, ⟨p, hp⟩, bx⟩ := hx
  obtain ⟨fy, ⟨q, hq⟩, by_⟩ := hy
  have e : (2 : Int) ^ M * 2 ^ N = 2 ^ (M + N - 149) * 2 ^ 149 := by rw [← Int.pow_add, ← Int.pow_add, Nat.sub_add_cancel hM]
  have hprod : val .f32 x * val .f32 y = (2 ^ (M + N - 149) * (p * q)) * 2 ^ 149 := by
    rw [hp, hq, show (2 : Int) ^ M * p * (2 ^ N * q) = (2 ^ M * 2 ^ N) * (p * q) by rw [Int.mul_assoc, Int.mul_left_comm p, ← Int.mul_assoc], e, Int.mul_assoc, Int.mul_comm (2 ^ 149), ← Int.mul_assoc]
  have hdiv : val .f32 x * val .f32 y / 2 ^ 149 = 2 ^ (M + N - 149) * (p * q) := by
    rw [hprod]; exact Int.mul_ediv_cancel _ (Int.ne_of_gt (Int.pow_pos (by decide)))
  have hQb : (2 ^ (M + N - 149) * (p * q) : Int).natAbs ≤ 2 ^ b := by
    have h1 : (val .f32 x * val .f32 y).natAbs ≤ 2 ^ b * 2 ^ 149 := by
      rw [Int.natAbs_mul]; exact Nat.mul_le_mul bx (Nat.le_trans by_ (Nat.pow_le_pow_right (by decide) hc))
    rw [hprod, Int.natAbs_mul, Int.natAbs_pow] at h1
    exact Nat.le_of_mul_le_mul_right h1 (Nat.two_pow_pos _)
  have := mul_val fx fy (Q := 2 ^ (M + N - 149) * (p * q)) (by rw [hprod, neg_lpl]) (pow_le275 hb hQb)
  rw [hdiv]
  exact ⟨⟨this.1, by rw [this.2]; exact WZ_dvd (Int.dvd_mul_right _ _), by rw [this.2]; exact WZ_le hQb⟩, this.2⟩
theorem gq_half : gq 148 148 1056964608 := ⟨fin_half, by rw [val_half]; exact Int.dvd_refl _, by rw [val_half, Int.natAbs_pow]; exact Nat.le_refl _⟩
/-- Lists of such numbers. -/
def gqL (M b : Nat) (n : Int) (X : List Nat) : Prop := ∀ i, 0 ≤ i → i < n → gq M b (el X i)
def gqF (M b : Nat) (n : Int) (F : Fld) : Prop := gqL M b n F.1 ∧ gqL M b n F.2.1 ∧ gqL M b n F.2.2
/-- Sheets whose numbers are sixteenths and eighths. -/
def shG (n : Int) (P L : List Nat) : Prop := gqL 145 148 n P ∧ ∀ i, 0 ≤ i → i < n → gq 146 149 (fop .sub .f32 1065353216 (el L i))
/-- X and Y behind a half step, E behind a step, in whole numbers. -/
def hvI (a e1 e0 : Int) : Int := WS (a - WS (WS (e1 - e0) / 2))
def hwI (a e1 e0 : Int) : Int := WS (a + WS (WS (e1 - e0) / 2))
def nvI (e l p y1 y0 x1 x0 : Int) : Int := WS (WS (e * l / 2 ^ 149) + WS (p * WS (WS (y1 - y0) - WS (x1 - x0)) / 2 ^ 149))
theorem half_div (n : Int) : 2 ^ 148 * n / 2 ^ 149 = n / 2 := by
  rw [show (2 : Int) ^ 149 = 2 ^ 148 * 2 from Int.pow_succ 2 148, Int.mul_ediv_mul_of_pos _ _ (Int.pow_pos (by decide))]
theorem hx_gq {M b a e1 e0 : Nat} (ha : gq M b a) (h1 : gq M b e1) (h0 : gq M b e0) (hM : 1 ≤ M) (hb : b + 2 ≤ 275) :
    gq (M - 1) (b + 2) (fop .sub .f32 a (fop .mul .f32 1056964608 (fop .sub .f32 e1 e0))) ∧ val .f32 (fop .sub .f32 a (fop .mul .f32 1056964608 (fop .sub .f32 e1 e0))) = hvI (val .f32 a) (val .f32 e1) (val .f32 e0) := by
  obtain ⟨d1, d2⟩ := gq_sub h1 h0 (by omega)
  have hD := d1.2.2
  -- the half of the difference
  obtain ⟨m1, m2⟩ := gq_mul d1 gq_half (by omega) (by omega) (by omega)
  have hcomm : fop .mul .f32 1056964608 (fop .sub .f32 e1 e0) = fop .mul .f32 (fop .sub .f32 e1 e0) 1056964608 := by
    unfold fop floatBits
    show (((FloatKind.f32.format.read _).product (FloatKind.f32.format.read _)).map _).getD _ = (((FloatKind.f32.format.read _).product (FloatKind.f32.format.read _)).map _).getD _
    congr 2
    cases FloatKind.f32.format.read 1056964608 <;> cases FloatKind.f32.format.read ((FloatKind.f32.format.sub e1 e0).getD (qnan .f32)) <;> simp [Datum.product, Bool.xor_comm, Nat.mul_comm, Int.add_comm]
  rw [hcomm]
  have m1' : gq (M - 1) (b + 1) (fop .mul .f32 (fop .sub .f32 e1 e0) 1056964608) := gq_mono m1 (by omega) (by omega)
  obtain ⟨r1, r2⟩ := gq_sub (gq_mono ha (show M - 1 ≤ M by omega) (show b ≤ b + 1 by omega)) m1' (by omega)
  refine ⟨gq_mono r1 (Nat.le_refl _) (by omega), ?_⟩
  rw [r2, m2, d2, val_half, Int.mul_comm _ (2 ^ 148), half_div]; rfl
theorem hy_gq {M b a e1 e0 : Nat} (ha : gq M b a) (h1 : gq M b e1) (h0 : gq M b e0) (hM : 1 ≤ M) (hb : b + 2 ≤ 275) :
    gq (M - 1) (b + 2) (fop .add .f32 a (fop .mul .f32 1056964608 (fop .sub .f32 e1 e0))) ∧ val .f32 (fop .add .f32 a (fop .mul .f32 1056964608 (fop .sub .f32 e1 e0))) = hwI (val .f32 a) (val .f32 e1) (val .f32 e0) := by
  obtain ⟨d1, d2⟩ := gq_sub h1 h0 (by omega)
  obtain ⟨m1, m2⟩ := gq_mul d1 gq_half (by omega) (by omega) (by omega)
  have hcomm : fop .mul .f32 1056964608 (fop .sub .f32 e1 e0) = fop .mul .f32 (fop .sub .f32 e1 e0) 1056964608 := by
    unfold fop floatBits
    show (((FloatKind.f32.format.read _).product (FloatKind.f32.format.read _)).map _).getD _ = (((FloatKind.f32.format.read _).product (FloatKind.f32.format.read _)).map _).getD _
    congr 2
    cases FloatKind.f32.format.read 1056964608 <;> cases FloatKind.f32.format.read ((FloatKind.f32.format.sub e1 e0).getD (qnan .f32)) <;> simp [Datum.product, Bool.xor_comm, Nat.mul_comm, Int.add_comm]
  rw [hcomm]
  have m1' : gq (M - 1) (b + 1) (fop .mul .f32 (fop .sub .f32 e1 e0) 1056964608) := gq_mono m1 (by omega) (by omega)
  obtain ⟨r1, r2⟩ := gq_add (gq_mono ha (show M - 1 ≤ M by omega) (show b ≤ b + 1 by omega)) m1' (by omega)
  refine ⟨gq_mono r1 (Nat.le_refl _) (by omega), ?_⟩
  rw [r2, m2, d2, val_half, Int.mul_comm _ (2 ^ 148), half_div]; rfl
theorem nv_gq {M b e l p y1 y0 x1 x0 : Nat} (he : gq M b e) (hl : gq 146 149 l) (hp : gq 145 148 p) (h1 : gq M b y1) (h0 : gq M b y0) (g1 : gq M b x1) (g0 : gq M b x0) (hM : 4 ≤ M) (hb : b + 3 ≤ 275) :
    gq (M - 4) (b + 3) (fop .add .f32 (fop .mul .f32 e l) (fop .mul .f32 p (fop .sub .f32 (fop .sub .f32 y1 y0) (fop .sub .f32 x1 x0)))) ∧
    val .f32 (fop .add .f32 (fop .mul .f32 e l) (fop .mul .f32 p (fop .sub .f32 (fop .sub .f32 y1 y0) (fop .sub .f32 x1 x0)))) = nvI (val .f32 e) (val .f32 l) (val .f32 p) (val .f32 y1) (val .f32 y0) (val .f32 x1) (val .f32 x0) := by
  obtain ⟨a1, a2⟩ := gq_mul he hl (by omega) (by omega) (by omega)
  obtain ⟨b1, b2⟩ := gq_sub h1 h0 (by omega)
  obtain ⟨c1, c2⟩ := gq_sub g1 g0 (by omega)
  obtain ⟨d1, d2⟩ := gq_sub b1 c1 (by omega)
  obtain ⟨m1, m2⟩ := gq_mul d1 hp (by omega) (by omega) (by omega)
  have hcomm : ∀ u v, fop .mul .f32 u v = fop .mul .f32 v u := by
    intro u v
    unfold fop floatBits
    show (((FloatKind.f32.format.read u).product (FloatKind.f32.format.read v)).map _).getD _ = (((FloatKind.f32.format.read v).product (FloatKind.f32.format.read u)).map _).getD _
    congr 2
    cases FloatKind.f32.format.read u <;> cases FloatKind.f32.format.read v <;> simp [Datum.product, Bool.xor_comm, Nat.mul_comm, Int.add_comm]
  rw [hcomm p]
  -- the product with the speed is at most a half: no greater than before
  have hbd : (val .f32 (fop .mul .f32 (fop .sub .f32 (fop .sub .f32 y1 y0) (fop .sub .f32 x1 x0)) p)).natAbs ≤ 2 ^ (b + 2) := m1.2.2
  obtain ⟨r1, r2⟩ := gq_add (M := M - 4) (b := b + 2) (gq_mono a1 (by omega) (by omega)) (gq_mono m1 (by omega) (by omega)) (by omega)
  refine ⟨r1, ?_⟩
  rw [r2, a2, m2, d2, b2, c2, Int.mul_comm (WS _) (val .f32 p)]; rfl
end Go.Wv

/- Steps, cell by cell, in whole numbers; fields that are twice as great, or opposite, mirrored, exchanged or shifted. -/
namespace Go.Wv
open Ieee
def vl (wd hi : Int) (X : List Nat) (x y : Int) : Int := val .f32 (el X (atI wd hi x y))
def lv (wd hi : Int) (L : List Nat) (x y : Int) : Int := val .f32 (fop .sub .f32 1065353216 (el L (atI wd hi x y)))
theorem nrm_b {x n : Int} (hn : 0 < n) : 0 ≤ (x + n) % n ∧ (x + n) % n < n := ⟨Int.emod_nonneg _ (by omega), Int.emod_lt_of_pos _ hn⟩
theorem nrm_add (x n a : Int) : ((x + n) % n + a + n) % n = (x + a + n) % n := by
  rw [Int.add_emod_right, Int.add_emod_right, Int.add_emod_right, Int.emod_add_emod]
theorem nrm_nrm (x n : Int) : ((x + n) % n + n) % n = (x + n) % n := by
  have := nrm_add x n 0; simp only [Int.add_zero] at this; exact this
theorem nrm_in {x n : Int} (h0 : 0 ≤ x) (h1 : x < n) : (x + n) % n = x := by rw [Int.add_emod_right]; exact Int.emod_eq_of_lt h0 h1
section
variable {wd hi : Int} {wr : Bool} {P L E X Y : List Nat}
theorem atI_nrm (x y : Int) : atI wd hi ((x + wd) % wd) ((y + hi) % hi) = atI wd hi x y := by
  unfold atI; rw [nrm_nrm, nrm_nrm]
theorem atI_up (x y a : Int) : atI wd hi ((x + wd) % wd) ((y + hi) % hi + a) = atI wd hi x (y + a) := by
  unfold atI; rw [nrm_nrm, nrm_add]
theorem atI_rt (x y a : Int) : atI wd hi ((x + wd) % wd + a) ((y + hi) % hi) = atI wd hi (x + a) y := by
  unfold atI; rw [nrm_nrm, nrm_add]
theorem gqL_at {M b : Nat} (hw : 0 < wd) (hh : 0 < hi) (h : gqL M b (wd * hi) X) (x y : Int) : gq M b (el X (atI wd hi x y)) := by
  have := atI_b (wd := wd) (hi := hi) (x := x) (y := y) hw hh
  exact h _ this.1 this.2
theorem hxL_at (hw : 0 < wd) (hh : 0 < hi) (x y : Int) : el (hxL wd hi wr E X) (atI wd hi x y) = if (wr || decide ((y + hi) % hi < hi - 1)) = true then fop .sub .f32 (el X (atI wd hi x y)) (fop .mul .f32 1056964608 (fop .sub .f32 (el E (atI wd hi x (y + 1))) (el E (atI wd hi x y)))) else el X (atI wd hi x y) := by
  have a := nrm_b (x := x) hw
  have b := nrm_b (x := y) hh
  rw [show atI wd hi x y = (x + wd) % wd + wd * ((y + hi) % hi) from rfl, el_hxL a.1 a.2 b.1 b.2]
  unfold hxF
  rw [atI_nrm, atI_up]; rfl
theorem hyL_at (hw : 0 < wd) (hh : 0 < hi) (x y : Int) : el (hyL wd hi wr E Y) (atI wd hi x y) = if (wr || decide ((x + wd) % wd < wd - 1)) = true then fop .add .f32 (el Y (atI wd hi x y)) (fop .mul .f32 1056964608 (fop .sub .f32 (el E (atI wd hi (x + 1) y)) (el E (atI wd hi x y)))) else el Y (atI wd hi x y) := by
  have a := nrm_b (x := x) hw
  have b := nrm_b (x := y) hh
  rw [show atI wd hi x y = (x + wd) % wd + wd * ((y + hi) % hi) from rfl, el_hyL a.1 a.2 b.1 b.2]
  unfold hyF
  rw [atI_nrm, atI_rt]; rfl
theorem nwL_at (hw : 0 < wd) (hh : 0 < hi) (x y : Int) : el (nwL wd hi wr P L E X Y) (atI wd hi x y) = if bordB wd hi wr ((x + wd) % wd) ((y + hi) % hi) = true then el E (atI wd hi x y) else
    fop .add .f32 (fop .mul .f32 (el E (atI wd hi x y)) (fop .sub .f32 1065353216 (el L (atI wd hi x y)))) (fop .mul .f32 (el P (atI wd hi x y)) (fop .sub .f32 (fop .sub .f32 (el Y (atI wd hi x y)) (el Y (atI wd hi (x - 1) y))) (fop .sub .f32 (el X (atI wd hi x y)) (el X (atI wd hi x (y - 1)))))) := by
  have a := nrm_b (x := x) hw
  have b := nrm_b (x := y) hh
  rw [show atI wd hi x y = (x + wd) % wd + wd * ((y + hi) % hi) from rfl, el_nwL a.1 a.2 b.1 b.2]
  unfold nwF nvV
  have e1 : atI wd hi ((x + wd) % wd - 1) ((y + hi) % hi) = atI wd hi (x - 1) y := atI_rt x y (-1)
  have e2 : atI wd hi ((x + wd) % wd) ((y + hi) % hi - 1) = atI wd hi x (y - 1) := atI_up x y (-1)
  rw [atI_nrm, e1, e2]; rfl
/-- A half step, a step. -/
theorem S_X {M b : Nat} (hw : 0 < wd) (hh : 0 < hi) (hE : gqL M b (wd * hi) E) (hX : gqL M b (wd * hi) X) (hM : 1 ≤ M) (hb : b + 2 ≤ 275) (x y : Int) :
    gq (M - 1) (b + 2) (el (hxL wd hi wr E X) (atI wd hi x y)) ∧ vl wd hi (hxL wd hi wr E X) x y = if (wr || decide ((y + hi) % hi < hi - 1)) = true then hvI (vl wd hi X x y) (vl wd hi E x (y + 1)) (vl wd hi E x y) else vl wd hi X x y := by
  unfold vl
  rw [hxL_at hw hh]
  split
  · exact hx_gq (gqL_at hw hh hX x y) (gqL_at hw hh hE x (y + 1)) (gqL_at hw hh hE x y) hM hb
  · exact ⟨gq_mono (gqL_at hw hh hX x y) (by omega) (by omega), rfl⟩
theorem S_Y {M b : Nat} (hw : 0 < wd) (hh : 0 < hi) (hE : gqL M b (wd * hi) E) (hY : gqL M b (wd * hi) Y) (hM : 1 ≤ M) (hb : b + 2 ≤ 275) (x y : Int) :
    gq (M - 1) (b + 2) (el (hyL wd hi wr E Y) (atI wd hi x y)) ∧ vl wd hi (hyL wd hi wr E Y) x y = if (wr || decide ((x + wd) % wd < wd - 1)) = true then hwI (vl wd hi Y x y) (vl wd hi E (x + 1) y) (vl wd hi E x y) else vl wd hi Y x y := by
  unfold vl
  rw [hyL_at hw hh]
  split
  · exact hy_gq (gqL_at hw hh hY x y) (gqL_at hw hh hE (x + 1) y) (gqL_at hw hh hE x y) hM hb
  · exact ⟨gq_mono (gqL_at hw hh hY x y) (by omega) (by omega), rfl⟩
theorem S_E {M b : Nat} (hw : 0 < wd) (hh : 0 < hi) (hS : shG (wd * hi) P L) (hE : gqL M b (wd * hi) E) (hX : gqL M b (wd * hi) X) (hY : gqL M b (wd * hi) Y) (hM : 4 ≤ M) (hb : b + 3 ≤ 275) (x y : Int) :
    gq (M - 4) (b + 3) (el (nwL wd hi wr P L E X Y) (atI wd hi x y)) ∧ vl wd hi (nwL wd hi wr P L E X Y) x y = if bordB wd hi wr ((x + wd) % wd) ((y + hi) % hi) = true then vl wd hi E x y else
      nvI (vl wd hi E x y) (lv wd hi L x y) (vl wd hi P x y) (vl wd hi Y x y) (vl wd hi Y (x - 1) y) (vl wd hi X x y) (vl wd hi X x (y - 1)) := by
  unfold vl lv
  rw [nwL_at hw hh]
  split
  · exact ⟨gq_mono (gqL_at hw hh hE x y) (by omega) (by omega), rfl⟩
  · have hb := atI_b (wd := wd) (hi := hi) (x := x) (y := y) hw hh
    exact nv_gq (gqL_at hw hh hE x y) (hS.2 _ hb.1 hb.2) (gqL_at hw hh hS.1 x y) (gqL_at hw hh hY x y) (gqL_at hw hh hY (x - 1) y) (gqL_at hw hh hX x y) (gqL_at hw hh hX x (y - 1)) hM (by omega)
theorem gqL_of {M b : Nat} (hw : 0 < wd) (_hh : 0 < hi) (h : ∀ x y, gq M b (el X (atI wd hi x y))) : gqL M b (wd * hi) X := fun i h0 h1 => by
  have hr := row_of h0 h1 hw
  have := h (i % wd) (i / wd)
  rwa [atI_in hr.1.1 hr.1.2 hr.2.1.1 hr.2.1.2, hr.2.2] at this
theorem gqL_mono {M b M' b' : Nat} {n : Int} (h : gqL M b n X) (hM : M' ≤ M) (hb : b ≤ b') : gqL M' b' n X := fun i h0 h1 => gq_mono (h i h0 h1) hM hb
theorem gqF_step {M b : Nat} {F : Fld} (hw : 0 < wd) (hh : 0 < hi) (hS : shG (wd * hi) P L) (h : gqF M b (wd * hi) F) (hM : 5 ≤ M) (hb : b + 5 ≤ 275) : gqF (M - 5) (b + 5) (wd * hi) (stpT wd hi wr P L F) := by
  have hx : gqL (M - 1) (b + 2) (wd * hi) (hxL wd hi wr F.1 F.2.1) := gqL_of hw hh fun x y => (S_X hw hh h.1 h.2.1 (by omega) (by omega) x y).1
  have hy : gqL (M - 1) (b + 2) (wd * hi) (hyL wd hi wr F.1 F.2.2) := gqL_of hw hh fun x y => (S_Y hw hh h.1 h.2.2 (by omega) (by omega) x y).1
  refine ⟨?_, gqL_mono hx (by omega) (by omega), gqL_mono hy (by omega) (by omega)⟩
  refine gqL_of hw hh fun x y => ?_
  have := (S_E (wr := wr) hw hh hS (gqL_mono h.1 (show M - 1 ≤ M by omega) (show b ≤ b + 2 by omega)) hx hy (by omega) (by omega) x y).1
  exact gq_mono this (by omega) (by omega)
theorem gqF_run {M b : Nat} {F : Fld} (hw : 0 < wd) (hh : 0 < hi) (hS : shG (wd * hi) P L) (h : gqF M b (wd * hi) F) : ∀ n : Nat, 5 * n ≤ M → b + 5 * n ≤ 275 → gqF (M - 5 * n) (b + 5 * n) (wd * hi) (rnT wd hi wr P L F n)
  | 0, _, _ => by simpa [rnT] using h
  | n + 1, h1, h2 => by
    have := gqF_step (wr := wr) hw hh hS (gqF_run hw hh hS h n (by omega) (by omega)) (by omega) (by omega)
    rw [show M - 5 * (n + 1) = M - 5 * n - 5 by omega, show b + 5 * (n + 1) = b + 5 * n + 5 by omega]
    exact this
end
/-! linear -/
theorem WS_neg (n : Int) : WS (-n) = -WS n := WZ_neg _ _
theorem WS_two (n : Int) : WS (2 * n) = 2 * WS n := by
  have := WZ_shift .f32 n 1
  rw [show (2 : Int) ^ 1 = 2 by rfl, Int.mul_comm n, Int.mul_comm (WZ _ n)] at this
  exact this
def lin (c : Int) : Prop := ∀ n, WS (c * n) = c * WS n
theorem lin_two : lin 2 := WS_two
theorem lin_neg : lin (-1) := fun n => by rw [Int.neg_mul, Int.one_mul, WS_neg]; omega
theorem half_dvd {M b : Nat} {a c : Nat} (ha : gq M b a) (hc : gq M b c) (hM : 1 ≤ M) : (2 : Int) ∣ WS (val .f32 a - val .f32 c) := by
  have h := WZ_dvd (k := .f32) (Int.dvd_sub ha.2.1 hc.2.1)
  refine Int.dvd_trans ?_ h
  obtain ⟨d, rfl⟩ := Nat.exists_eq_add_of_le hM
  rw [Int.pow_add]; exact Int.dvd_mul_right _ _
theorem hv_lin {c a e1 e0 : Int} (hc : lin c) (h : (2 : Int) ∣ WS (e1 - e0)) : hvI (c * a) (c * e1) (c * e0) = c * hvI a e1 e0 := by
  unfold hvI
  rw [← Int.mul_sub, hc, Int.mul_ediv_assoc _ h, hc, ← Int.mul_sub, hc]
theorem hw_lin {c a e1 e0 : Int} (hc : lin c) (h : (2 : Int) ∣ WS (e1 - e0)) : hwI (c * a) (c * e1) (c * e0) = c * hwI a e1 e0 := by
  unfold hwI
  rw [← Int.mul_sub, hc, Int.mul_ediv_assoc _ h, hc, ← Int.mul_add, hc]
theorem nv_lin {c e l p y1 y0 x1 x0 : Int} (hc : lin c) (h1 : (2 : Int) ^ 149 ∣ e * l) (h2 : (2 : Int) ^ 149 ∣ p * WS (WS (y1 - y0) - WS (x1 - x0))) : nvI (c * e) l p (c * y1) (c * y0) (c * x1) (c * x0) = c * nvI e l p y1 y0 x1 x0 := by
  unfold nvI
  rw [← Int.mul_sub, ← Int.mul_sub, hc, hc, ← Int.mul_sub, hc, Int.mul_assoc c, Int.mul_ediv_assoc _ h1, hc, Int.mul_left_comm p, Int.mul_ediv_assoc _ h2, hc, ← Int.mul_add, hc]
theorem hv_neg {a e1 e0 : Int} : hvI (-a) e1 e0 = -hwI a e1 e0 := by
  unfold hvI hwI; rw [← WS_neg]; congr 1; omega
theorem hw_neg {a e1 e0 : Int} : hwI (-a) e1 e0 = -hvI a e1 e0 := by
  unfold hvI hwI; rw [← WS_neg]; congr 1; omega
theorem hw_rev {a e1 e0 : Int} (h : (2 : Int) ∣ WS (e1 - e0)) : hwI (-a) e0 e1 = -hwI a e1 e0 := by
  unfold hwI
  have e : WS (e0 - e1) = -WS (e1 - e0) := by rw [← WS_neg]; congr 1; omega
  have e2 := WS_neg (WS (e1 - e0) / 2)
  have e3 := WS_neg (a + WS (WS (e1 - e0) / 2))
  rw [e, Int.neg_ediv_of_dvd h, e2, ← e3]; congr 1; omega
theorem nv_rev {e l p y1 y0 x1 x0 : Int} : nvI e l p (-y0) (-y1) x1 x0 = nvI e l p y1 y0 x1 x0 := by
  unfold nvI; rw [show -y0 - -y1 = y1 - y0 by omega]
theorem nv_swp {e l p y1 y0 x1 x0 : Int} : nvI e l p (-x1) (-x0) (-y1) (-y0) = nvI e l p y1 y0 x1 x0 := by
  unfold nvI
  have e1 : WS (-x1 - -x0) = -WS (x1 - x0) := by rw [← WS_neg]; congr 1; omega
  have e2 : WS (-y1 - -y0) = -WS (y1 - y0) := by rw [← WS_neg]; congr 1; omega
  rw [e1, e2, show -WS (x1 - x0) - -WS (y1 - y0) = WS (y1 - y0) - WS (x1 - x0) by omega]
end Go.Wv

/- Scaled, mirrored, exchanged, shifted: what steps make of them. -/
namespace Go.Wv
open Ieee
section
variable {wd hi : Int} {wr : Bool} {P L : List Nat}
theorem dvd149 {M b x l : Nat} (hx : gq M b x) (hl : gq 146 149 l) (hM : 4 ≤ M) : (2 : Int) ^ 149 ∣ val .f32 x * val .f32 l := by
  obtain ⟨p, hp⟩ := hx.2.1
  obtain ⟨q, hq⟩ := hl.2.1
  rw [hp, hq]
  refine Int.dvd_trans (b := 2 ^ (M + 146)) ?_ ⟨p * q, ?_⟩
  · exact ⟨2 ^ (M + 146 - 149), by rw [← Int.pow_add, Nat.add_sub_cancel' (show 149 ≤ M + 146 by omega)]⟩
  · rw [Int.pow_add, Int.mul_assoc, Int.mul_left_comm p, ← Int.mul_assoc]
theorem dvd149' {M b p y1 y0 x1 x0 : Nat} (hp : gq 145 148 p) (h1 : gq M b y1) (h0 : gq M b y0) (g1 : gq M b x1) (g0 : gq M b x0) (hM : 4 ≤ M) : (2 : Int) ^ 149 ∣ val .f32 p * WS (WS (val .f32 y1 - val .f32 y0) - WS (val .f32 x1 - val .f32 x0)) := by
  obtain ⟨q, hq⟩ := hp.2.1
  have hd : (2 : Int) ^ M ∣ WS (WS (val .f32 y1 - val .f32 y0) - WS (val .f32 x1 - val .f32 x0)) := WZ_dvd (Int.dvd_sub (WZ_dvd (Int.dvd_sub h1.2.1 h0.2.1)) (WZ_dvd (Int.dvd_sub g1.2.1 g0.2.1)))
  obtain ⟨r, hr⟩ := hd
  rw [hq, hr]
  refine Int.dvd_trans (b := 2 ^ (145 + M)) ?_ ⟨q * r, ?_⟩
  · exact ⟨2 ^ (145 + M - 149), by rw [← Int.pow_add, Nat.add_sub_cancel' (show 149 ≤ 145 + M by omega)]⟩
  · rw [Int.pow_add, Int.mul_assoc, Int.mul_left_comm q, ← Int.mul_assoc]
/-- G is F, scaled. -/
def RSc (wd hi c : Int) (F G : Fld) : Prop := ∀ x y, vl wd hi G.1 x y = c * vl wd hi F.1 x y ∧ vl wd hi G.2.1 x y = c * vl wd hi F.2.1 x y ∧ vl wd hi G.2.2 x y = c * vl wd hi F.2.2 x y
theorem RSc_step {c : Int} {M b : Nat} {F G : Fld} (hc : lin c) (hw : 0 < wd) (hh : 0 < hi) (hS : shG (wd * hi) P L) (hF : gqF M b (wd * hi) F) (hG : gqF M b (wd * hi) G) (hM : 5 ≤ M) (hb : b + 5 ≤ 275) (h : RSc wd hi c F G) :
    RSc wd hi c (stpT wd hi wr P L F) (stpT wd hi wr P L G) := by
  have hX : ∀ x y, vl wd hi (hxL wd hi wr G.1 G.2.1) x y = c * vl wd hi (hxL wd hi wr F.1 F.2.1) x y := fun x y => by
    rw [(S_X hw hh hF.1 hF.2.1 (by omega) (by omega) x y).2, (S_X hw hh hG.1 hG.2.1 (by omega) (by omega) x y).2]
    split
    · rw [(h x y).1, (h x (y + 1)).1, (h x y).2.1]
      exact hv_lin hc (half_dvd (gqL_at hw hh hF.1 x (y + 1)) (gqL_at hw hh hF.1 x y) (by omega))
    · exact (h x y).2.1
  have hY : ∀ x y, vl wd hi (hyL wd hi wr G.1 G.2.2) x y = c * vl wd hi (hyL wd hi wr F.1 F.2.2) x y := fun x y => by
    rw [(S_Y hw hh hF.1 hF.2.2 (by omega) (by omega) x y).2, (S_Y hw hh hG.1 hG.2.2 (by omega) (by omega) x y).2]
    split
    · rw [(h x y).1, (h (x + 1) y).1, (h x y).2.2]
      exact hw_lin hc (half_dvd (gqL_at hw hh hF.1 (x + 1) y) (gqL_at hw hh hF.1 x y) (by omega))
    · exact (h x y).2.2
  have qx : ∀ {K : Fld}, gqF M b (wd * hi) K → gqL (M - 1) (b + 2) (wd * hi) (hxL wd hi wr K.1 K.2.1) := fun hK => gqL_of hw hh fun x y => (S_X hw hh hK.1 hK.2.1 (by omega) (by omega) x y).1
  have qy : ∀ {K : Fld}, gqF M b (wd * hi) K → gqL (M - 1) (b + 2) (wd * hi) (hyL wd hi wr K.1 K.2.2) := fun hK => gqL_of hw hh fun x y => (S_Y hw hh hK.1 hK.2.2 (by omega) (by omega) x y).1
  have qe : ∀ {K : Fld}, gqF M b (wd * hi) K → gqL (M - 1) (b + 2) (wd * hi) K.1 := fun hK => gqL_mono hK.1 (by omega) (by omega)
  intro x y
  refine ⟨?_, hX x y, hY x y⟩
  show vl wd hi (nwL wd hi wr P L G.1 _ _) x y = c * vl wd hi (nwL wd hi wr P L F.1 _ _) x y
  rw [(S_E (wr := wr) hw hh hS (qe hF) (qx hF) (qy hF) (by omega) (by omega) x y).2, (S_E (wr := wr) hw hh hS (qe hG) (qx hG) (qy hG) (by omega) (by omega) x y).2]
  split
  · exact (h x y).1
  · rw [(h x y).1, hX, hX, hY, hY]
    have hb' := atI_b (wd := wd) (hi := hi) (x := x) (y := y) hw hh
    exact nv_lin hc (dvd149 (gqL_at hw hh (qe hF) x y) (hS.2 _ hb'.1 hb'.2) (by omega))
      (dvd149' (gqL_at hw hh hS.1 x y) (gqL_at hw hh (qy hF) x y) (gqL_at hw hh (qy hF) (x - 1) y) (gqL_at hw hh (qx hF) x y) (gqL_at hw hh (qx hF) x (y - 1)) (by omega))
theorem RSc_run {c : Int} {M b : Nat} {F G : Fld} (hc : lin c) (hw : 0 < wd) (hh : 0 < hi) (hS : shG (wd * hi) P L) (hF : gqF M b (wd * hi) F) (hG : gqF M b (wd * hi) G) (h : RSc wd hi c F G) : ∀ n : Nat, 5 * n ≤ M → b + 5 * n ≤ 275 →
    RSc wd hi c (rnT wd hi wr P L F n) (rnT wd hi wr P L G n)
  | 0, _, _ => h
  | n + 1, h1, h2 => RSc_step hc hw hh hS (gqF_run hw hh hS hF n (by omega) (by omega)) (gqF_run hw hh hS hG n (by omega) (by omega)) (by omega) (by omega) (RSc_run hc hw hh hS hF hG h n (by omega) (by omega))
/-- G is F, mirrored. -/
def RMi (wd hi : Int) (F G : Fld) : Prop := ∀ x y, vl wd hi G.1 x y = vl wd hi F.1 (wd - 1 - x) y ∧ vl wd hi G.2.1 x y = vl wd hi F.2.1 (wd - 1 - x) y ∧ vl wd hi G.2.2 x y = -vl wd hi F.2.2 (wd - 2 - x) y
theorem nrm_mir {x n : Int} (hn : 0 < n) : (n - 1 - x + n) % n = n - 1 - (x + n) % n := by
  have h := nrm_b (x := x) hn
  rw [Int.add_emod_right] at h ⊢
  rw [Int.add_emod_right]
  have e := Int.emod_add_mul_ediv x n
  generalize x % n = r at *
  rw [show n - 1 - x = (n - 1 - r) + n * (-(x / n)) by rw [Int.mul_neg]; omega, Int.add_mul_emod_self_left]
  exact Int.emod_eq_of_lt (by omega) (by omega)
theorem nrm_mir2 {x n : Int} (hn : 0 < n) : (n - 2 - x + n) % n = if (x + n) % n = n - 1 then n - 1 else n - 2 - (x + n) % n := by
  have h := nrm_b (x := x) hn
  rw [Int.add_emod_right] at h ⊢
  rw [Int.add_emod_right]
  have e := Int.emod_add_mul_ediv x n
  generalize x % n = r at *
  split
  · rename_i hr
    rw [show n - 2 - x = (n - 1) + n * (-(x / n) - 1) by rw [Int.mul_sub, Int.mul_neg]; omega, Int.add_mul_emod_self_left]
    exact Int.emod_eq_of_lt (by omega) (by omega)
  · rw [show n - 2 - x = (n - 2 - r) + n * (-(x / n)) by rw [Int.mul_neg]; omega, Int.add_mul_emod_self_left]
    exact Int.emod_eq_of_lt (by omega) (by omega)
theorem bord_mir {u v : Int} : bordB wd hi wr (wd - 1 - u) v = bordB wd hi wr u v := by
  unfold bordB
  rw [decide_eq_decide.2 (show wd - 1 - u = 0 ↔ u = wd - 1 by omega), decide_eq_decide.2 (show wd - 1 - u = wd - 1 ↔ u = 0 by omega)]
  cases decide (u = 0) <;> cases decide (u = wd - 1) <;> rfl
theorem bord_swp {u v : Int} : bordB hi wd wr v u = bordB wd hi wr u v := by
  unfold bordB
  cases decide (u = 0) <;> cases decide (u = wd - 1) <;> cases decide (v = 0) <;> cases decide (v = hi - 1) <;> rfl
theorem RMi_step {M b : Nat} {F G : Fld} {P' L' : List Nat} (hw : 0 < wd) (hh : 0 < hi) (hS : shG (wd * hi) P L) (hS' : shG (wd * hi) P' L') (hP : ∀ x y, vl wd hi P' x y = vl wd hi P (wd - 1 - x) y) (hL : ∀ x y, lv wd hi L' x y = lv wd hi L (wd - 1 - x) y)
    (hF : gqF M b (wd * hi) F) (hG : gqF M b (wd * hi) G) (hM : 5 ≤ M) (hb : b + 5 ≤ 275) (h : RMi wd hi F G) : RMi wd hi (stpT wd hi wr P L F) (stpT wd hi wr P' L' G) := by
  have hX : ∀ x y, vl wd hi (hxL wd hi wr G.1 G.2.1) x y = vl wd hi (hxL wd hi wr F.1 F.2.1) (wd - 1 - x) y := fun x y => by
    rw [(S_X hw hh hF.1 hF.2.1 (by omega) (by omega) (wd - 1 - x) y).2, (S_X hw hh hG.1 hG.2.1 (by omega) (by omega) x y).2, (h x y).1, (h x (y + 1)).1, (h x y).2.1]
  have hY : ∀ x y, vl wd hi (hyL wd hi wr G.1 G.2.2) x y = -vl wd hi (hyL wd hi wr F.1 F.2.2) (wd - 2 - x) y := fun x y => by
    rw [(S_Y hw hh hF.1 hF.2.2 (by omega) (by omega) (wd - 2 - x) y).2, (S_Y hw hh hG.1 hG.2.2 (by omega) (by omega) x y).2, (h x y).1, (h (x + 1) y).1, (h x y).2.2]
    have hc : (wr || decide ((wd - 2 - x + wd) % wd < wd - 1)) = (wr || decide ((x + wd) % wd < wd - 1)) := by
      have hr := nrm_b (x := x) hw
      rw [nrm_mir2 hw]
      congr 1
      apply decide_eq_decide.2
      split <;> omega
    rw [hc]
    split
    · rw [show wd - 1 - (x + 1) = wd - 2 - x by omega, show wd - 2 - x + 1 = wd - 1 - x by omega]
      have := half_dvd (gqL_at hw hh hF.1 (wd - 1 - x) y) (gqL_at hw hh hF.1 (wd - 2 - x) y) (by omega)
      exact hw_rev this
    · rfl
  have qx : ∀ {K : Fld}, gqF M b (wd * hi) K → gqL (M - 1) (b + 2) (wd * hi) (hxL wd hi wr K.1 K.2.1) := fun hK => gqL_of hw hh fun x y => (S_X hw hh hK.1 hK.2.1 (by omega) (by omega) x y).1
  have qy : ∀ {K : Fld}, gqF M b (wd * hi) K → gqL (M - 1) (b + 2) (wd * hi) (hyL wd hi wr K.1 K.2.2) := fun hK => gqL_of hw hh fun x y => (S_Y hw hh hK.1 hK.2.2 (by omega) (by omega) x y).1
  have qe : ∀ {K : Fld}, gqF M b (wd * hi) K → gqL (M - 1) (b + 2) (wd * hi) K.1 := fun hK => gqL_mono hK.1 (by omega) (by omega)
  intro x y
  refine ⟨?_, hX x y, hY x y⟩
  show vl wd hi (nwL wd hi wr P' L' G.1 _ _) x y = vl wd hi (nwL wd hi wr P L F.1 _ _) (wd - 1 - x) y
  rw [(S_E (wr := wr) hw hh hS (qe hF) (qx hF) (qy hF) (by omega) (by omega) (wd - 1 - x) y).2, (S_E (wr := wr) hw hh hS' (qe hG) (qx hG) (qy hG) (by omega) (by omega) x y).2, nrm_mir hw, bord_mir]
  split
  · exact (h x y).1
  · rw [(h x y).1, hX, hX, hY, hY, hP, hL, show wd - 2 - (x - 1) = wd - 1 - x by omega, show wd - 1 - x - 1 = wd - 2 - x by omega]
    exact nv_rev
theorem RMi_run {M b : Nat} {F G : Fld} {P' L' : List Nat} (hw : 0 < wd) (hh : 0 < hi) (hS : shG (wd * hi) P L) (hS' : shG (wd * hi) P' L') (hP : ∀ x y, vl wd hi P' x y = vl wd hi P (wd - 1 - x) y) (hL : ∀ x y, lv wd hi L' x y = lv wd hi L (wd - 1 - x) y)
    (hF : gqF M b (wd * hi) F) (hG : gqF M b (wd * hi) G) (h : RMi wd hi F G) : ∀ n : Nat, 5 * n ≤ M → b + 5 * n ≤ 275 → RMi wd hi (rnT wd hi wr P L F n) (rnT wd hi wr P' L' G n)
  | 0, _, _ => h
  | n + 1, h1, h2 => RMi_step hw hh hS hS' hP hL (gqF_run hw hh hS hF n (by omega) (by omega)) (gqF_run hw hh hS' hG n (by omega) (by omega)) (by omega) (by omega) (RMi_run hw hh hS hS' hP hL hF hG h n (by omega) (by omega))
/-- G is F, exchanged. -/
def RSw (wd hi : Int) (F G : Fld) : Prop := ∀ x y, vl hi wd G.1 x y = vl wd hi F.1 y x ∧ vl hi wd G.2.1 x y = -vl wd hi F.2.2 y x ∧ vl hi wd G.2.2 x y = -vl wd hi F.2.1 y x
theorem RSw_step {M b : Nat} {F G : Fld} {P' L' : List Nat} (hw : 0 < wd) (hh : 0 < hi) (hS : shG (wd * hi) P L) (hS' : shG (hi * wd) P' L') (hP : ∀ x y, vl hi wd P' x y = vl wd hi P y x) (hL : ∀ x y, lv hi wd L' x y = lv wd hi L y x)
    (hF : gqF M b (wd * hi) F) (hG : gqF M b (hi * wd) G) (hM : 5 ≤ M) (hb : b + 5 ≤ 275) (h : RSw wd hi F G) : RSw wd hi (stpT wd hi wr P L F) (stpT hi wd wr P' L' G) := by
  have hX : ∀ x y, vl hi wd (hxL hi wd wr G.1 G.2.1) x y = -vl wd hi (hyL wd hi wr F.1 F.2.2) y x := fun x y => by
    rw [(S_Y hw hh hF.1 hF.2.2 (by omega) (by omega) y x).2, (S_X hh hw hG.1 hG.2.1 (by omega) (by omega) x y).2, (h x y).1, (h x (y + 1)).1, (h x y).2.1]
    split
    · exact hv_neg
    · rfl
  have hY : ∀ x y, vl hi wd (hyL hi wd wr G.1 G.2.2) x y = -vl wd hi (hxL wd hi wr F.1 F.2.1) y x := fun x y => by
    rw [(S_X hw hh hF.1 hF.2.1 (by omega) (by omega) y x).2, (S_Y hh hw hG.1 hG.2.2 (by omega) (by omega) x y).2, (h x y).1, (h (x + 1) y).1, (h x y).2.2]
    split
    · exact hw_neg
    · rfl
  have qx : ∀ {a c : Int} {K : Fld}, 0 < a → 0 < c → gqF M b (a * c) K → gqL (M - 1) (b + 2) (a * c) (hxL a c wr K.1 K.2.1) := fun ha hc hK => gqL_of ha hc fun x y => (S_X ha hc hK.1 hK.2.1 (by omega) (by omega) x y).1
  have qy : ∀ {a c : Int} {K : Fld}, 0 < a → 0 < c → gqF M b (a * c) K → gqL (M - 1) (b + 2) (a * c) (hyL a c wr K.1 K.2.2) := fun ha hc hK => gqL_of ha hc fun x y => (S_Y ha hc hK.1 hK.2.2 (by omega) (by omega) x y).1
  have qe : ∀ {n : Int} {K : Fld}, gqF M b n K → gqL (M - 1) (b + 2) n K.1 := fun hK => gqL_mono hK.1 (by omega) (by omega)
  intro x y
  refine ⟨?_, hX x y, hY x y⟩
  show vl hi wd (nwL hi wd wr P' L' G.1 _ _) x y = vl wd hi (nwL wd hi wr P L F.1 _ _) y x
  rw [(S_E (wr := wr) hw hh hS (qe hF) (qx hw hh hF) (qy hw hh hF) (by omega) (by omega) y x).2, (S_E (wr := wr) hh hw hS' (qe hG) (qx hh hw hG) (qy hh hw hG) (by omega) (by omega) x y).2, bord_swp]
  split
  · exact (h x y).1
  · rw [(h x y).1, hX, hX, hY, hY, hP, hL]
    exact nv_swp
theorem RSw_run {M b : Nat} {F G : Fld} {P' L' : List Nat} (hw : 0 < wd) (hh : 0 < hi) (hS : shG (wd * hi) P L) (hS' : shG (hi * wd) P' L') (hP : ∀ x y, vl hi wd P' x y = vl wd hi P y x) (hL : ∀ x y, lv hi wd L' x y = lv wd hi L y x)
    (hF : gqF M b (wd * hi) F) (hG : gqF M b (hi * wd) G) (h : RSw wd hi F G) : ∀ n : Nat, 5 * n ≤ M → b + 5 * n ≤ 275 → RSw wd hi (rnT wd hi wr P L F n) (rnT hi wd wr P' L' G n)
  | 0, _, _ => h
  | n + 1, h1, h2 => RSw_step hw hh hS hS' hP hL (gqF_run hw hh hS hF n (by omega) (by omega)) (gqF_run hh hw hS' hG n (by omega) (by omega)) (by omega) (by omega) (RSw_run hw hh hS hS' hP hL hF hG h n (by omega) (by omega))
/-- G is F, shifted; edges are joined. -/
def RSh (wd hi dx dy : Int) (F G : Fld) : Prop := ∀ x y, vl wd hi G.1 x y = vl wd hi F.1 (x - dx) (y - dy) ∧ vl wd hi G.2.1 x y = vl wd hi F.2.1 (x - dx) (y - dy) ∧ vl wd hi G.2.2 x y = vl wd hi F.2.2 (x - dx) (y - dy)
theorem RSh_step {dx dy : Int} {M b : Nat} {F G : Fld} {P' L' : List Nat} (hw : 0 < wd) (hh : 0 < hi) (hS : shG (wd * hi) P L) (hS' : shG (wd * hi) P' L') (hP : ∀ x y, vl wd hi P' x y = vl wd hi P (x - dx) (y - dy)) (hL : ∀ x y, lv wd hi L' x y = lv wd hi L (x - dx) (y - dy))
    (hF : gqF M b (wd * hi) F) (hG : gqF M b (wd * hi) G) (hM : 5 ≤ M) (hb : b + 5 ≤ 275) (h : RSh wd hi dx dy F G) : RSh wd hi dx dy (stpT wd hi true P L F) (stpT wd hi true P' L' G) := by
  have hX : ∀ x y, vl wd hi (hxL wd hi true G.1 G.2.1) x y = vl wd hi (hxL wd hi true F.1 F.2.1) (x - dx) (y - dy) := fun x y => by
    rw [(S_X (wr := true) hw hh hF.1 hF.2.1 (by omega) (by omega) (x - dx) (y - dy)).2, (S_X (wr := true) hw hh hG.1 hG.2.1 (by omega) (by omega) x y).2, if_pos (Bool.true_or _), if_pos (Bool.true_or _), (h x y).1, (h x (y + 1)).1, (h x y).2.1, show y + 1 - dy = y - dy + 1 by omega]
  have hY : ∀ x y, vl wd hi (hyL wd hi true G.1 G.2.2) x y = vl wd hi (hyL wd hi true F.1 F.2.2) (x - dx) (y - dy) := fun x y => by
    rw [(S_Y (wr := true) hw hh hF.1 hF.2.2 (by omega) (by omega) (x - dx) (y - dy)).2, (S_Y (wr := true) hw hh hG.1 hG.2.2 (by omega) (by omega) x y).2, if_pos (Bool.true_or _), if_pos (Bool.true_or _), (h x y).1, (h (x + 1) y).1, (h x y).2.2, show x + 1 - dx = x - dx + 1 by omega]
  have qx : ∀ {K : Fld}, gqF M b (wd * hi) K → gqL (M - 1) (b + 2) (wd * hi) (hxL wd hi true K.1 K.2.1) := fun hK => gqL_of hw hh fun x y => (S_X hw hh hK.1 hK.2.1 (by omega) (by omega) x y).1
  have qy : ∀ {K : Fld}, gqF M b (wd * hi) K → gqL (M - 1) (b + 2) (wd * hi) (hyL wd hi true K.1 K.2.2) := fun hK => gqL_of hw hh fun x y => (S_Y hw hh hK.1 hK.2.2 (by omega) (by omega) x y).1
  have qe : ∀ {K : Fld}, gqF M b (wd * hi) K → gqL (M - 1) (b + 2) (wd * hi) K.1 := fun hK => gqL_mono hK.1 (by omega) (by omega)
  intro x y
  refine ⟨?_, hX x y, hY x y⟩
  show vl wd hi (nwL wd hi true P' L' G.1 _ _) x y = vl wd hi (nwL wd hi true P L F.1 _ _) (x - dx) (y - dy)
  have hnb : ∀ u v, ¬ bordB wd hi true u v = true := fun u v => by simp [bordB]
  rw [(S_E (wr := true) hw hh hS (qe hF) (qx hF) (qy hF) (by omega) (by omega) (x - dx) (y - dy)).2, (S_E (wr := true) hw hh hS' (qe hG) (qx hG) (qy hG) (by omega) (by omega) x y).2, if_neg (hnb _ _), if_neg (hnb _ _)]
  rw [(h x y).1, hX, hX, hY, hY, hP, hL, show x - 1 - dx = x - dx - 1 by omega, show y - 1 - dy = y - dy - 1 by omega]
theorem RSh_run {dx dy : Int} {M b : Nat} {F G : Fld} {P' L' : List Nat} (hw : 0 < wd) (hh : 0 < hi) (hS : shG (wd * hi) P L) (hS' : shG (wd * hi) P' L') (hP : ∀ x y, vl wd hi P' x y = vl wd hi P (x - dx) (y - dy)) (hL : ∀ x y, lv wd hi L' x y = lv wd hi L (x - dx) (y - dy))
    (hF : gqF M b (wd * hi) F) (hG : gqF M b (wd * hi) G) (h : RSh wd hi dx dy F G) : ∀ n : Nat, 5 * n ≤ M → b + 5 * n ≤ 275 → RSh wd hi dx dy (rnT wd hi true P L F n) (rnT wd hi true P' L' G n)
  | 0, _, _ => h
  | n + 1, h1, h2 => RSh_step hw hh hS hS' hP hL (gqF_run hw hh hS hF n (by omega) (by omega)) (gqF_run hw hh hS' hG n (by omega) (by omega)) (by omega) (by omega) (RSh_run hw hh hS hS' hP hL hF hG h n (by omega) (by omega))
end
end Go.Wv

