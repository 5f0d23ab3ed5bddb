/- Floats: from 32 bits to 64. -/
import Derived.Test.YtgohmocjjmkepaaBase7
set_option linter.unusedSimpArgs false
set_option linter.unusedVariables false
namespace Go.Wv
open Ieee

theorem cut_zero (neg : Bool) (n : Nat) : Toward.even.cut neg n 0 = n := by
  simp [Toward.cut, Nat.mod_one]

/-- A number that needs no rounding: its word. -/
theorem nearest_exact (f : Format) (neg : Bool) (m : Nat) (p : Int) (hm : m ≠ 0) (h1 : m.log2 ≤ f.fractionBits) (h2 : f.leastPlace ≤ p) :
    f.nearest neg m p = f.word neg (min ((max (p + m.log2 - f.fractionBits) f.leastPlace - f.leastPlace).toNat * f.binade + m * 2 ^ (p - max (p + m.log2 - f.fractionBits) f.leastPlace).toNat) f.infRung) := by
  unfold Format.nearest
  rw [if_neg hm]
  have hle : max (p + m.log2 - f.fractionBits) f.leastPlace ≤ p := by omega
  simp only
  rw [show (max (p + ↑m.log2 - ↑f.fractionBits) f.leastPlace - p).toNat = 0 by omega, cut_zero, Nat.shiftLeft_eq]

theorem read_rung (f : Format) (neg : Bool) {rung : Nat} (h : rung < f.signWeight) : f.read (f.word neg rung) = mkR f neg rung := by
  have h1 : f.word neg rung % f.signWeight = rung := by
    unfold Format.word
    split
    · rw [Nat.add_mod_left, Nat.mod_eq_of_lt h]
    · exact Nat.mod_eq_of_lt h
  have h2 : (f.word neg rung / f.signWeight % 2 == 1) = neg := by
    have h0 : 0 < f.signWeight := by omega
    unfold Format.word
    split
    · rename_i e
      rw [Nat.add_div_left _ h0, Nat.div_eq_of_lt h, e]; rfl
    · rename_i e
      rw [Nat.div_eq_of_lt h]; simp at e; rw [e]; rfl
  show mkR f _ _ = _
  rw [h1, h2]

theorem mkR_inf (f : Format) (neg : Bool) {r : Nat} (h : r < f.infRung) : (mkR f neg r).isInfinity = false := by
  unfold mkR
  by_cases h1 : r < f.binade
  · rw [if_pos h1]; rfl
  · rw [if_neg h1, if_pos h]; rfl

/-- What a 32-bit word stands for. -/
theorem read32 (b : Nat) : (∃ s m p, single.read b = .number s m p ∧ m < 2 ^ 24 ∧ -149 ≤ p ∧ p ≤ 104) ∨ (∃ s, single.read b = .infinity s) ∨ (∃ s t, single.read b = .nan s t) := by
  show (∃ s m p, mkR single _ _ = .number s m p ∧ _) ∨ (∃ s, mkR single _ _ = .infinity s) ∨ (∃ s t, mkR single _ _ = .nan s t)
  generalize (b / single.signWeight % 2 == 1) = sg
  generalize b % single.signWeight = r
  have e1 : single.binade = 8388608 := rfl
  have e2 : single.infRung = 2139095040 := rfl
  have e3 : single.leastPlace = -149 := by decide
  unfold mkR
  by_cases h1 : r < single.binade
  · rw [if_pos h1]
    exact .inl ⟨_, _, _, rfl, by omega, by rw [e3]; omega, by rw [e3]; omega⟩
  · rw [if_neg h1]
    by_cases h2 : r < single.infRung
    · rw [if_pos h2]
      refine .inl ⟨_, _, _, rfl, ?_, ?_, ?_⟩
      · have := Nat.mod_lt r (show 0 < single.binade by decide); omega
      · rw [e3]; omega
      · rw [e3]
        have : r / single.binade ≤ 254 := by rw [e1]; omega
        omega
    · rw [if_neg h2]
      by_cases h3 : r = single.infRung
      · rw [if_pos h3]; exact .inr (.inl ⟨_, rfl⟩)
      · rw [if_neg h3]; exact .inr (.inr ⟨_, _, rfl⟩)

theorem log2_lt24 {m : Nat} (h : m < 2 ^ 24) : m.log2 ≤ 23 := by
  by_cases h0 : m = 0
  · subst h0; decide
  · have := (Nat.log2_lt h0).2 h; omega

theorem wide_rung (s : Bool) (m : Nat) (p : Int) (hm : m < 2 ^ 24) (h1 : -149 ≤ p) (h2 : p ≤ 104) : ∃ r, double.write (.number s m p) = double.word s r ∧ r < double.infRung := by
  show ∃ r, double.nearest s m p = _ ∧ _
  by_cases h0 : m = 0
  · subst h0
    exact ⟨0, by simp [Format.nearest], by decide⟩
  · have hl := log2_lt24 hm
    have e1 : double.fractionBits = 52 := rfl
    have e2 : double.leastPlace = -1074 := by decide
    have e3 : double.infRung = 2047 * double.binade := congrArg (· * double.binade) (by decide)
    have e5 : 2 ^ 53 = 2 * double.binade := by show 2 ^ 53 = 2 * 2 ^ 52; rw [Nat.pow_succ 2 52, Nat.mul_comm]
    have e6 : 0 < double.binade := Nat.two_pow_pos _
    rw [nearest_exact double s m p h0 (by omega) (by omega)]
    refine ⟨_, rfl, ?_⟩
    have hk : m * 2 ^ (p - max (p + m.log2 - double.fractionBits) double.leastPlace).toNat < 2 ^ 53 := by
      have h3 : m < 2 ^ (m.log2 + 1) := Nat.lt_log2_self
      have h4 : (p - max (p + m.log2 - double.fractionBits) double.leastPlace).toNat ≤ 52 - m.log2 := by omega
      calc m * 2 ^ (p - max (p + m.log2 - double.fractionBits) double.leastPlace).toNat
          ≤ m * 2 ^ (52 - m.log2) := Nat.mul_le_mul_left _ (Nat.pow_le_pow_right (by decide) h4)
        _ < 2 ^ (m.log2 + 1) * 2 ^ (52 - m.log2) := Nat.mul_lt_mul_of_pos_right h3 (Nat.two_pow_pos _)
        _ = 2 ^ 53 := by rw [← Nat.pow_add]; congr 1; omega
    have h5 : (max (p + m.log2 - double.fractionBits) double.leastPlace - double.leastPlace).toNat ≤ 1200 := by omega
    have h6 : (max (p + m.log2 - double.fractionBits) double.leastPlace - double.leastPlace).toNat * double.binade ≤ 1200 * double.binade := Nat.mul_le_mul_right _ h5
    rw [e5] at hk
    rw [e3]
    generalize double.binade = B at *
    generalize (max (p + m.log2 - double.fractionBits) double.leastPlace - double.leastPlace).toNat * B = X at *
    generalize m * 2 ^ (p - max (p + m.log2 - double.fractionBits) double.leastPlace).toNat = Y at *
    omega

theorem can_nearest (k : FloatKind) (n : Int) : can k (k.nearest n) = k.nearest n := can_of_not (nanb_write (k := k) (d := .number (n < 0) n.natAbs 0) rfl) (k.format.write_lt (.number (n < 0) n.natAbs 0))
/-- 'float64(x)', up to payloads. -/
def widen (x : Nat) : Nat := (floatToFloatBits .f32 x .f64).getD (qnan .f64)
theorem wideC {a r A : Nat} (h : Cn .f64 r (widen (can .f32 a))) (h1 : Cn .f32 a A) : Cn .f64 r (widen A) := by rw [← h1.1]; exact h
theorem cn_nearest (k : FloatKind) (n : Int) : Cn k (k.nearest n) (k.nearest n) := ⟨can_nearest k n, k.format.write_lt (.number (n < 0) n.natAbs 0)⟩
theorem wide_nan {b : Nat} (h : nanb .f32 b = true) : floatToFloatBits .f32 b .f64 = none := by
  have h' : (single.read b).isNaN = true := h
  unfold floatToFloatBits
  rw [if_neg (by decide)]
  show (match single.read b with | .nan _ _ => _ | .infinity s => _ | .number s m e => _) = _
  cases hr : single.read b with
  | nan s t => rfl
  | number s m p => rw [hr] at h'; cases h'
  | infinity s => rw [hr] at h'; cases h'
theorem widen_can (x : Nat) : widen (can .f32 x) = widen x := by
  unfold widen
  by_cases h : nanb .f32 x = true
  · rw [wide_nan h, wide_nan (by rw [nanb_can]; exact h)]
  · have hr : single.read (can .f32 x) = single.read x := read_can (k := .f32) (by simpa using h)
    unfold floatToFloatBits
    rw [if_neg (by decide), if_neg (by decide)]
    show (match single.read (can .f32 x) with | .nan _ _ => _ | .infinity s => _ | .number s m e => _ : Option Nat).getD _ = _
    rw [hr]
    rfl

section
variable {P : Program} {ρ : Env} {w : World} {d : Option Tmp} {ty : TypeId} {pos : String} {aft : Array Edge} {g : Option (Nat × Bool)} {x : Operand}

theorem run_wide (b : Nat) (w : World) : ∃ r n, (Conv.floatToFloat .f32 b .f64).run P w = .ok (.float .f64 r) (w.drewN n) ∧ Cn .f64 r (widen (can .f32 b)) := by
  rw [widen_can]
  rcases read32 b with ⟨s, m, p, hr, h1, h2, h3⟩ | ⟨s, hr⟩ | ⟨s, t, hr⟩
  · obtain ⟨r, e1, e2⟩ := wide_rung s m p h1 h2 h3
    have hinf : (double.read (double.write (.number s m p))).isInfinity = false := by
      rw [e1, read_rung _ _ (Nat.lt_trans e2 (Format.infRung_lt _))]; exact mkR_inf _ _ e2
    have hb : floatToFloatBits .f32 b .f64 = some (double.write (.number s m p)) := by
      unfold floatToFloatBits
      rw [if_neg (by decide)]
      show (match single.read b with | .nan _ _ => none | .infinity s => some (double.write (.infinity s)) | .number s m e => if (double.read (double.write (.number s m e))).isInfinity then none else some (double.write (.number s m e))) = _
      rw [hr]; simp only [hinf]; rfl
    refine ⟨_, 0, ?_, by unfold widen; rw [hb]; exact ⟨can_of_not (b := double.write (.number s m p)) (nanb_write (k := .f64) (d := .number s m p) rfl) (double.write_lt _), double.write_lt _⟩⟩
    unfold Conv.floatToFloat
    rw [if_neg (by decide)]
    show (match single.read b with | .nan _ _ => _ | .infinity s => _ | .number s m e => _ : Sem Value).run P w = _
    rw [hr]
    show (if (double.read (double.write (.number s m p))).isInfinity then _ else _ : Sem Value).run P w = _
    rw [hinf]; rfl
  · have hb : floatToFloatBits .f32 b .f64 = some (double.write (.infinity s)) := by
      unfold floatToFloatBits
      rw [if_neg (by decide)]
      show (match single.read b with | .nan _ _ => none | .infinity s => some (double.write (.infinity s)) | .number s m e => if (double.read (double.write (.number s m e))).isInfinity then none else some (double.write (.number s m e))) = _
      rw [hr]
    refine ⟨_, 0, ?_, by unfold widen; rw [hb]; exact ⟨can_of_not (b := double.write (.infinity s)) (nanb_write (k := .f64) (d := .infinity s) rfl) (double.write_lt _), double.write_lt _⟩⟩
    unfold Conv.floatToFloat
    rw [if_neg (by decide)]
    show (match single.read b with | .nan _ _ => _ | .infinity s => _ | .number s m e => _ : Sem Value).run P w = _
    rw [hr]; rfl
  · refine ⟨(Question.nanConv .f64 b).cut (w.tape w.drawn (Question.nanConv .f64 b)), 1, ?_, ?_, cut_lt64 _⟩
    · unfold Conv.floatToFloat
      rw [if_neg (by decide)]
      show (match single.read b with | .nan _ _ => _ | .infinity s => _ | .number s m e => _ : Sem Value).run P w = _
      rw [hr]
      simp only [Sem.run_bind, run_choose (.nanConv .f64 b) rfl w]
      rfl
    · unfold widen
      rw [wide_nan (by show (single.read b).isNaN = true; rw [hr]; rfl)]
      exact can_of_nan (nan_cut64 _)

theorem n_wide {S T : Nat} {b : Nat} (hS : (P.underlying S).isSome = true) (hT : P.underlying T = some (.float .f64)) (hx : ev ρ x = .float .f32 b) :
    Yn P ρ ⟨d, .convert S T x, ty, pos, aft, g⟩ (fun v => ∃ r, v = .float .f64 r ∧ Cn .f64 r (widen (can .f32 b))) w := by
  obtain ⟨r, n, hr, hc⟩ := run_wide (P := P) b w
  obtain ⟨u, hu⟩ := Option.isSome_iff_exists.1 hS
  refine ⟨_, n, ?_, r, rfl, hc⟩
  cases u <;> simp [execOp, convert, hx, run_underlying hu, run_underlying hT, hr]
end
end Go.Wv
