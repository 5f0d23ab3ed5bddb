/- Floats: rounding looks at the number alone; what is read is written back. -/
import Derived.Test.YtgohmocjjmkepaaL1
set_option linter.unusedSimpArgs false
set_option linter.unusedVariables false
namespace Go.Wv
open Ieee

theorem two_cases {q : Nat} (h : q < 2) : q = 0 ∨ q = 1 := by omega

theorem log2_mul_pow (m k : Nat) (hm : m ≠ 0) : (m * 2 ^ k).log2 = m.log2 + k := by
  have h1 : 2 ^ m.log2 ≤ m := Nat.log2_self_le hm
  have h2 : m < 2 ^ (m.log2 + 1) := Nat.lt_log2_self
  have hne : m * 2 ^ k ≠ 0 := Nat.mul_ne_zero hm (Nat.ne_of_gt (Nat.two_pow_pos k))
  rw [Nat.log2_eq_iff hne]
  constructor
  · rw [Nat.pow_add]; exact Nat.mul_le_mul_right _ h1
  · rw [show m.log2 + k + 1 = (m.log2 + 1) + k by omega, Nat.pow_add]; exact Nat.mul_lt_mul_of_pos_right h2 (Nat.two_pow_pos k)

/-- Digits that are nought are cut off without a trace. -/
theorem cut_shift (neg : Bool) (m k d : Nat) (hm : m ≠ 0) : Toward.even.cut neg (m * 2 ^ k) (d + k) = Toward.even.cut neg m d := by
  unfold Toward.cut
  simp only [log2_mul_pow m k hm, Nat.one_shiftLeft]
  have hg : min (d + k) (m.log2 + k + 2) = min d (m.log2 + 2) + k := by omega
  rw [hg]
  generalize min d (m.log2 + 2) = g
  have hp : 0 < 2 ^ k := Nat.two_pow_pos k
  have hdiv : m * 2 ^ k / 2 ^ (g + k) = m / 2 ^ g := by rw [Nat.pow_add]; exact Nat.mul_div_mul_right _ _ hp
  have hmod : m * 2 ^ k % 2 ^ (g + k) = m % 2 ^ g * 2 ^ k := by rw [Nat.pow_add]; exact Nat.mul_mod_mul_right _ _ _
  rw [hdiv, hmod]
  have e1 : (decide (2 ^ (g + k) < 2 * (m % 2 ^ g * 2 ^ k))) = decide (2 ^ g < 2 * (m % 2 ^ g)) := by
    rw [Nat.pow_add, ← Nat.mul_assoc]
    exact decide_eq_decide.2 ⟨fun h => Nat.lt_of_mul_lt_mul_right h, fun h => Nat.mul_lt_mul_of_pos_right h hp⟩
  have e2 : (2 ^ (g + k) == 2 * (m % 2 ^ g * 2 ^ k)) = (2 ^ g == 2 * (m % 2 ^ g)) := by
    rw [Nat.pow_add, ← Nat.mul_assoc, Bool.eq_iff_iff]
    simp only [beq_iff_eq]
    exact ⟨fun h => Nat.eq_of_mul_eq_mul_right hp h, fun h => congrArg (· * 2 ^ k) h⟩
  simp only [e1, e2]

theorem cut_exact (neg : Bool) (m k d : Nat) (hm : m ≠ 0) (h : d ≤ k) : Toward.even.cut neg (m * 2 ^ k) d = m * 2 ^ (k - d) := by
  have := cut_shift neg (m * 2 ^ (k - d)) d 0 (Nat.mul_ne_zero hm (Nat.ne_of_gt (Nat.two_pow_pos _)))
  rw [Nat.mul_assoc, ← Nat.pow_add, Nat.sub_add_cancel h, Nat.zero_add, cut_zero] at this
  exact this

/-- ROUNDING LOOKS AT THE NUMBER ALONE. -/
theorem nearest_shift (f : Format) (neg : Bool) (m k : Nat) (p : Int) (hm : m ≠ 0) : f.nearest neg (m * 2 ^ k) p = f.nearest neg m (p + k) := by
  have hne : m * 2 ^ k ≠ 0 := Nat.mul_ne_zero hm (Nat.ne_of_gt (Nat.two_pow_pos k))
  unfold Format.nearest
  rw [if_neg hm, if_neg hne]
  simp only [log2_mul_pow m k hm, Nat.shiftLeft_eq]
  have hl : p + ((m.log2 + k : Nat) : Int) - f.fractionBits = p + k + m.log2 - f.fractionBits := by omega
  rw [hl]
  generalize max (p + k + m.log2 - f.fractionBits) f.leastPlace = l
  congr 3
  by_cases h1 : l ≤ p
  · rw [show (l - p).toNat = 0 by omega, show (l - (p + k)).toNat = 0 by omega, cut_zero, cut_zero, Nat.mul_assoc, ← Nat.pow_add]
    congr 2; omega
  · rw [show (p - l).toNat = 0 by omega, Nat.pow_zero, Nat.mul_one]
    by_cases h2 : l ≤ p + k
    · rw [show (l - (p + k)).toNat = 0 by omega, cut_zero, cut_exact neg m k _ hm (by omega)]
      congr 2; omega
    · rw [show (p + k - l).toNat = 0 by omega, Nat.pow_zero, Nat.mul_one, show (l - p).toNat = (l - (p + k)).toNat + k by omega, cut_shift neg m k _ hm]

theorem word_inj_rung {f : Format} {neg : Bool} {a b : Nat} (h : a = b) : f.word neg a = f.word neg b := by rw [h]

/-- WHAT IS READ IS WRITTEN BACK. -/
theorem write_mkR (f : Format) (neg : Bool) {r : Nat} (h : r ≤ f.infRung) : f.write (mkR f neg r) = f.word neg r := by
  have hB : 0 < f.binade := Nat.two_pow_pos _
  unfold mkR
  by_cases h1 : r < f.binade
  · rw [if_pos h1]
    show f.nearest neg r f.leastPlace = _
    by_cases h0 : r = 0
    · subst h0; simp [Format.nearest]
    · have hl : r.log2 < f.fractionBits := (Nat.log2_lt h0).2 h1
      have hle : r.log2 ≤ f.fractionBits := Nat.le_of_lt hl
      rw [nearest_exact f neg r _ h0 hle (Int.le_refl _)]
      have hm : max (f.leastPlace + r.log2 - f.fractionBits) f.leastPlace = f.leastPlace := by omega
      rw [hm, Int.sub_self]
      simp only [Int.toNat_zero, Nat.zero_mul, Nat.zero_add, Nat.pow_zero, Nat.mul_one]
      rw [Nat.min_eq_left h]
  · rw [if_neg h1]
    by_cases h2 : r < f.infRung
    · rw [if_pos h2]
      show f.nearest neg (f.binade + r % f.binade) _ = _
      have hm0 : f.binade + r % f.binade ≠ 0 := by omega
      have hlog : (f.binade + r % f.binade).log2 = f.fractionBits := by
        rw [Nat.log2_eq_iff hm0]
        have := Nat.mod_lt r hB
        constructor
        · show f.binade ≤ _; omega
        · rw [Nat.pow_succ]; show _ < f.binade * 2; omega
      have hq : 1 ≤ r / f.binade := (Nat.one_le_div_iff hB).2 (by omega)
      rw [nearest_exact f neg _ _ hm0 (by rw [hlog]; exact Nat.le_refl _) (by omega), hlog]
      have hm : max (f.leastPlace + ((r / f.binade - 1 : Nat) : Int) + f.fractionBits - f.fractionBits) f.leastPlace = f.leastPlace + ((r / f.binade - 1 : Nat) : Int) := by omega
      rw [hm, Int.sub_self]
      have e2 : (f.leastPlace + ((r / f.binade - 1 : Nat) : Int) - f.leastPlace).toNat = r / f.binade - 1 := by omega
      rw [e2]
      simp only [Int.toNat_zero, Nat.pow_zero, Nat.mul_one]
      have e3 : (r / f.binade - 1) * f.binade + (f.binade + r % f.binade) = r := by
        have := Nat.div_add_mod r f.binade
        rw [Nat.sub_mul, Nat.one_mul]
        have h4 : f.binade ≤ r / f.binade * f.binade := Nat.le_mul_of_pos_left _ hq
        rw [Nat.mul_comm] at this
        omega
      rw [e3, Nat.min_eq_left h]
    · rw [if_neg h2]
      by_cases h3 : r = f.infRung
      · rw [if_pos h3, h3]; rfl
      · omega

theorem word_parts (f : Format) (b : Nat) (h : b < 2 * f.signWeight) : f.word (b / f.signWeight % 2 == 1) (b % f.signWeight) = b := by
  have h0 : 0 < f.signWeight := Nat.two_pow_pos _
  have h1 := Nat.div_add_mod b f.signWeight
  have h2 : b / f.signWeight < 2 := (Nat.div_lt_iff_lt_mul h0).2 h
  unfold Format.word
  rcases two_cases h2 with e | e
  · rw [e] at h1 ⊢; simp at h1 ⊢; exact h1
  · rw [e] at h1 ⊢; simp at h1 ⊢; exact h1

theorem wid_eq (k : FloatKind) : wid k = 2 * k.format.signWeight := by
  unfold wid Format.width Format.signWeight
  rw [Nat.add_assoc, Nat.add_comm 1, Nat.pow_succ, Nat.mul_comm]

theorem rung_le {k : FloatKind} {b : Nat} (h : nanb k b = false) : b % k.format.signWeight ≤ k.format.infRung := by
  rw [nan_iff] at h
  have := of_decide_eq_false h
  exact Nat.le_of_not_lt this

theorem write_read {k : FloatKind} {b : Nat} (h : nanb k b = false) (hb : b < wid k) : k.format.write (k.format.read b) = b := by
  show k.format.write (mkR k.format _ _) = b
  rw [write_mkR _ _ (rung_le h)]
  exact word_parts _ _ (by rw [← wid_eq]; exact hb)

theorem neg_word (f : Format) (b : Nat) (h : b < 2 * f.signWeight) : b ^^^ 2 ^ (f.exponentBits + f.fractionBits) = f.word (!(b / f.signWeight % 2 == 1)) (b % f.signWeight) := by
  have hw := word_parts f b h
  have h0 : 0 < f.signWeight := Nat.two_pow_pos _
  have h2 : b / f.signWeight < 2 := (Nat.div_lt_iff_lt_mul h0).2 h
  have h1 := Nat.div_add_mod b f.signWeight
  show b ^^^ f.signWeight = _
  have hlt : b % f.signWeight < f.signWeight := Nat.mod_lt _ h0
  have key : ∀ r, r < f.signWeight → r ^^^ f.signWeight = f.signWeight + r := fun r hr => by
    have := Nat.two_pow_add_eq_or_of_lt hr 1
    rw [Nat.mul_one] at this
    show r ^^^ 2 ^ _ = 2 ^ _ + r
    rw [this]
    apply Nat.eq_of_testBit_eq
    intro i
    simp only [Nat.testBit_xor, Nat.testBit_or, Nat.testBit_two_pow]
    by_cases hi : f.exponentBits + f.fractionBits = i
    · subst hi
      have : r.testBit (f.exponentBits + f.fractionBits) = false := Nat.testBit_lt_two_pow hr
      simp [this]
    · simp [hi]
  unfold Format.word
  rcases two_cases h2 with e | e
  · have hb : b % f.signWeight = b := by rw [e] at h1; simp at h1; omega
    rw [e]; simp
    rw [hb]; exact key b (by omega)
  · have hb : b = f.signWeight + b % f.signWeight := by rw [e] at h1; simp at h1; omega
    rw [e]; simp
    generalize b % f.signWeight = r at *
    rw [hb, ← key r hlt, Nat.xor_assoc, Nat.xor_self, Nat.xor_zero]

theorem neg_write {k : FloatKind} {b : Nat} (h : nanb k b = false) (hb : b < wid k) : k.format.write (k.format.read b).opposite = Op.negFloat k b := by
  unfold Op.negFloat
  rw [neg_word k.format b (by rw [← wid_eq]; exact hb)]
  have e : (k.format.read b).opposite = mkR k.format (!(b / k.format.signWeight % 2 == 1)) (b % k.format.signWeight) := by
    show (mkR k.format _ _).opposite = _
    unfold mkR
    by_cases h1 : b % k.format.signWeight < k.format.binade
    · rw [if_pos h1, if_pos h1]; rfl
    · rw [if_neg h1, if_neg h1]
      by_cases h2 : b % k.format.signWeight < k.format.infRung
      · rw [if_pos h2, if_pos h2]; rfl
      · rw [if_neg h2, if_neg h2]
        by_cases h3 : b % k.format.signWeight = k.format.infRung
        · rw [if_pos h3, if_pos h3]; rfl
        · exact absurd (rung_le h) (by omega)
  rw [e, write_mkR _ _ (rung_le h)]
end Go.Wv
