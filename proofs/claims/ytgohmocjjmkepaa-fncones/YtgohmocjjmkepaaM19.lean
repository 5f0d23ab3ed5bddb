/- What finite numbers stand for, in whole units of the least place; rounding as a function of whole numbers. -/
import Derived.Test.YtgohmocjjmkepaaM18
set_option linter.unusedSimpArgs false
set_option linter.unusedVariables false
namespace Go.Wv
open Ieee
/-- The exponent (in units of the least place) below which nothing overflows. -/
def emaxU : FloatKind → Nat
  | .f32 => 275
  | .f64 => 2096
def lpl (k : FloatKind) : Int := k.format.leastPlace
def fb (k : FloatKind) : Nat := k.format.fractionBits
theorem emax_rung (k : FloatKind) : (emaxU k - fb k + 2) * k.format.binade < k.format.infRung ∧ fb k ≤ emaxU k := by
  cases k <;> exact ⟨by decide +kernel, by decide⟩
/-- Rounded to so many digits, ties to even. -/
def Wn (k : FloatKind) (m : Nat) : Nat := if m.log2 ≤ fb k then m else Toward.even.cut false m (m.log2 - fb k) * 2 ^ (m.log2 - fb k)
def WZ (k : FloatKind) (n : Int) : Int := if n < 0 then -(Wn k n.natAbs : Int) else (Wn k n.natAbs : Int)
theorem cut_neg (s : Bool) (m d : Nat) : Toward.even.cut s m d = Toward.even.cut false m d := rfl
theorem cut_b {m L d : Nat} (h1 : 2 ^ L ≤ m) (h2 : m < 2 ^ (L + 1)) (hd : d ≤ L) (hl : m.log2 = L) (s : Bool) : 2 ^ (L - d) ≤ Toward.even.cut s m d ∧ Toward.even.cut s m d ≤ 2 ^ (L + 1 - d) := by
  have hg : min d (m.log2 + 2) = d := by omega
  have hlo : 2 ^ (L - d) ≤ m / 2 ^ d := by
    rw [Nat.le_div_iff_mul_le (Nat.two_pow_pos _), ← Nat.pow_add, Nat.sub_add_cancel hd]; exact h1
  have hhi : m / 2 ^ d < 2 ^ (L + 1 - d) := by
    rw [Nat.div_lt_iff_lt_mul (Nat.two_pow_pos _), ← Nat.pow_add, Nat.sub_add_cancel (by omega)]; exact h2
  unfold Toward.cut
  simp only [hg, Nat.one_shiftLeft]
  generalize m / 2 ^ d = q at *
  generalize (decide (2 ^ d < 2 * (m % 2 ^ d)) || 2 ^ d == 2 * (m % 2 ^ d) && q % 2 == 1) = t
  cases t <;> simp <;> omega
theorem Wn_zero (k : FloatKind) : Wn k 0 = 0 := by unfold Wn; rw [if_pos (by simp)]
theorem Wn_small {k : FloatKind} {m : Nat} (h : m.log2 ≤ fb k) : Wn k m = m := by unfold Wn; rw [if_pos h]
theorem Wn_shift (k : FloatKind) (m c : Nat) : Wn k (m * 2 ^ c) = Wn k m * 2 ^ c := by
  by_cases h0 : m = 0
  · subst h0; simp [Wn_zero]
  · unfold Wn
    rw [log2_mul_pow m c h0]
    by_cases h1 : m.log2 ≤ fb k
    · rw [if_pos h1]
      by_cases h2 : m.log2 + c ≤ fb k
      · rw [if_pos h2]
      · rw [if_neg h2, cut_exact false m c _ h0 (by omega), Nat.mul_assoc, ← Nat.pow_add]
        congr 2; omega
    · rw [if_neg h1, if_neg (by omega), show m.log2 + c - fb k = (m.log2 - fb k) + c by omega, cut_shift false m c _ h0, Nat.pow_add, Nat.mul_assoc]
theorem Wn_le {k : FloatKind} {m e : Nat} (h : m ≤ 2 ^ e) : Wn k m ≤ 2 ^ e := by
  by_cases h0 : m = 0
  · subst h0; rw [Wn_zero]; exact Nat.zero_le _
  · by_cases h1 : m.log2 ≤ fb k
    · rw [Wn_small h1]; exact h
    · have a1 : 2 ^ m.log2 ≤ m := Nat.log2_self_le h0
      have a2 : m < 2 ^ (m.log2 + 1) := Nat.lt_log2_self
      have hLe : m.log2 ≤ e := (Nat.pow_le_pow_iff_right (by decide : 1 < 2)).1 (Nat.le_trans a1 h)
      by_cases he : m.log2 = e
      · have hm : m = 1 * 2 ^ e := by rw [he] at a1; omega
        rw [hm, Wn_shift, Wn_small (by rw [show Nat.log2 1 = 0 by decide]; exact Nat.zero_le _)]; omega
      · unfold Wn
        rw [if_neg h1]
        have b := (cut_b a1 a2 (d := m.log2 - fb k) (by omega) rfl false).2
        calc _ ≤ 2 ^ (m.log2 + 1 - (m.log2 - fb k)) * 2 ^ (m.log2 - fb k) := Nat.mul_le_mul_right _ b
          _ = 2 ^ (m.log2 + 1) := by rw [← Nat.pow_add]; congr 1; omega
          _ ≤ 2 ^ e := Nat.pow_le_pow_right (by decide) (by omega)
theorem Wn_dvd {k : FloatKind} {m c : Nat} (h : 2 ^ c ∣ m) : 2 ^ c ∣ Wn k m := by
  obtain ⟨q, rfl⟩ := h
  rw [Nat.mul_comm, Wn_shift]; exact Nat.dvd_mul_left _ _
/-- What the word of a rung stands for. -/
theorem read_kept (k : FloatKind) (s : Bool) {d kept : Nat} (h1 : d = 0 ∨ k.format.binade ≤ kept) (h2 : kept ≤ 2 * k.format.binade) (h3 : d * k.format.binade + kept < k.format.infRung) :
    ∃ m p, k.format.read (k.format.word s (d * k.format.binade + kept)) = .number s m p ∧ lpl k ≤ p ∧ m * 2 ^ (p - lpl k).toNat = kept * 2 ^ d := by
  have hB : 0 < k.format.binade := Nat.two_pow_pos _
  rw [read_rung _ _ (Nat.lt_trans h3 (Format.infRung_lt _))]
  unfold lpl mkR
  generalize k.format.leastPlace = lp
  generalize k.format.binade = B at *
  by_cases a : d * B + kept < B
  · rw [if_pos a]
    have hd : d = 0 := by
      rcases Nat.eq_zero_or_pos d with h | h
      · exact h
      · have : 1 * B ≤ d * B := Nat.mul_le_mul_right _ h
        omega
    subst hd
    exact ⟨_, _, rfl, Int.le_refl _, by simp⟩
  · rw [if_neg a, if_pos h3]
    refine ⟨_, _, rfl, by omega, ?_⟩
    rw [show (lp + (((d * B + kept) / B - 1 : Nat) : Int) - lp).toNat = (d * B + kept) / B - 1 by omega]
    have e1 : (d * B + kept) / B = d + kept / B := by rw [Nat.add_comm, Nat.add_mul_div_right _ _ hB, Nat.add_comm]
    have e2 : (d * B + kept) % B = kept % B := by rw [Nat.add_comm, Nat.add_mul_mod_self_right]
    rw [e1, e2]
    by_cases c : kept < 2 * B
    · by_cases c2 : B ≤ kept
      · have e3 : kept / B = 1 := by rw [Nat.div_eq_iff hB]; omega
        have e4 : kept % B = kept - B := by rw [Nat.mod_eq_sub_mod c2, Nat.mod_eq_of_lt (by omega)]
        rw [e3, e4, Nat.add_sub_cancel, Nat.add_sub_cancel' c2]
      · exfalso
        rcases h1 with h1 | h1
        · subst h1; omega
        · omega
    · have hk : kept = 2 * B := by omega
      subst hk
      rw [Nat.mul_div_cancel _ hB, Nat.mul_mod_left, Nat.add_zero, show d + 2 - 1 = d + 1 by omega, Nat.pow_succ, Nat.mul_comm (2 ^ d) 2, ← Nat.mul_assoc, Nat.mul_comm B 2]
/-- ROUNDING, in whole numbers. -/
theorem nearest_val (k : FloatKind) (s : Bool) {m : Nat} {p : Int} (hp : lpl k ≤ p) (hb : m * 2 ^ (p - lpl k).toNat ≤ 2 ^ emaxU k) :
    ∃ m' p', k.format.read (k.format.nearest s m p) = .number s m' p' ∧ lpl k ≤ p' ∧ m' * 2 ^ (p' - lpl k).toNat = Wn k m * 2 ^ (p - lpl k).toNat := by
  obtain ⟨hr, hf⟩ := emax_rung k
  have hBe : k.format.binade = 2 ^ fb k := rfl
  by_cases h0 : m = 0
  · subst h0
    obtain ⟨a, b, e1, e2, e3⟩ := read_kept k s (d := 0) (kept := 0) (.inl rfl) (Nat.zero_le _) (by simp only [Nat.zero_mul, Nat.add_zero]; omega)
    refine ⟨a, b, ?_, e2, by rw [e3, Wn_zero]; simp⟩
    simpa [Format.nearest] using e1
  · have a1 : 2 ^ m.log2 ≤ m := Nat.log2_self_le h0
    have a2 : m < 2 ^ (m.log2 + 1) := Nat.lt_log2_self
    have hL : m.log2 + (p - lpl k).toNat ≤ emaxU k := by
      apply (Nat.pow_le_pow_iff_right (by decide : 1 < 2)).1
      rw [Nat.pow_add]
      exact Nat.le_trans (Nat.mul_le_mul_right _ a1) hb
    unfold Format.nearest
    rw [if_neg h0]
    have e1 : k.format.leastPlace = lpl k := rfl
    have e2 : k.format.fractionBits = fb k := rfl
    simp only [e1, e2, Nat.shiftLeft_eq]
    generalize hl : max (p + m.log2 - fb k) (lpl k) = last
    have key : ∀ (d kept : Nat), (last - lpl k).toNat = d → Toward.even.cut s (m * 2 ^ (p - last).toNat) (last - p).toNat = kept → (d = 0 ∨ k.format.binade ≤ kept) → kept ≤ 2 * k.format.binade →
        kept * 2 ^ d = Wn k m * 2 ^ (p - lpl k).toNat → d + fb k ≤ emaxU k →
        ∃ m' p', k.format.read (k.format.word s (min ((last - lpl k).toNat * k.format.binade + Toward.even.cut s (m * 2 ^ (p - last).toNat) (last - p).toNat) k.format.infRung)) = .number s m' p' ∧ lpl k ≤ p' ∧ m' * 2 ^ (p' - lpl k).toNat = Wn k m * 2 ^ (p - lpl k).toNat := by
      intro d kept hd hk h1 h2 h3 h4
      rw [hd, hk]
      have hlt : d * k.format.binade + kept < k.format.infRung := by
        have : (d + 2) * k.format.binade ≤ (emaxU k - fb k + 2) * k.format.binade := Nat.mul_le_mul_right _ (by omega)
        rw [Nat.add_mul] at this
        omega
      rw [Nat.min_eq_left (Nat.le_of_lt hlt)]
      obtain ⟨a, b, c1, c2, c3⟩ := read_kept k s h1 h2 hlt
      exact ⟨a, b, c1, c2, c3.trans h3⟩
    by_cases hc : m.log2 ≤ fb k
    · have hle : last ≤ p := by omega
      have hlog : ((m * 2 ^ (p - last).toNat).log2 : Nat) = m.log2 + (p - last).toNat := log2_mul_pow m _ h0
      have b1 : m * 2 ^ (p - last).toNat < 2 ^ (m.log2 + (p - last).toNat + 1) := by rw [← hlog]; exact Nat.lt_log2_self
      have b2 : 2 ^ (m.log2 + (p - last).toNat) ≤ m * 2 ^ (p - last).toNat := by rw [Nat.pow_add]; exact Nat.mul_le_mul_right _ a1
      refine key (last - lpl k).toNat (m * 2 ^ (p - last).toNat) rfl (by rw [show (last - p).toNat = 0 by omega, cut_zero]) ?_ ?_ ?_ (by omega)
      · by_cases hz : last = lpl k
        · exact .inl (by omega)
        · refine .inr (Nat.le_trans ?_ b2)
          rw [hBe]; exact Nat.pow_le_pow_right (by decide) (by omega)
      · refine Nat.le_of_lt (Nat.lt_of_lt_of_le b1 ?_)
        rw [hBe, Nat.mul_comm, ← Nat.pow_succ]; exact Nat.pow_le_pow_right (by decide) (by omega)
      · rw [Wn_small hc, Nat.mul_assoc, ← Nat.pow_add]; congr 2; omega
    · have hla : last = p + m.log2 - fb k := by omega
      have hcb := cut_b a1 a2 (d := m.log2 - fb k) (by omega) rfl s
      refine key (last - lpl k).toNat (Toward.even.cut s m (m.log2 - fb k)) rfl (by rw [show (p - last).toNat = 0 by omega, Nat.pow_zero, Nat.mul_one, show (last - p).toNat = m.log2 - fb k by omega]) ?_ ?_ ?_ (by omega)
      · refine .inr ?_
        rw [hBe]
        refine Nat.le_trans (Nat.pow_le_pow_right (by decide) ?_) hcb.1
        omega
      · rw [hBe, Nat.mul_comm, ← Nat.pow_succ]
        refine Nat.le_trans hcb.2 (Nat.pow_le_pow_right (by decide) ?_)
        omega
      · unfold Wn
        rw [if_neg hc, cut_neg s, Nat.mul_assoc, ← Nat.pow_add]; congr 2; omega
end Go.Wv
