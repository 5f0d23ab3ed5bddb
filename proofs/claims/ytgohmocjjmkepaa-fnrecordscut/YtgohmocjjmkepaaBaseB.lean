/- Texts that the walks rest on, joined. -/
import Derived.Test.YtgohmocjjmkepaaBaseA
set_option linter.unusedSimpArgs false
set_option linter.unusedVariables false
/- Floats: from 32 bits to 64. -/
namespace Go.Wv
open Ieee

theorem cut_zero (neg : Bool) (n : Nat) : Toward.even.cut neg n 0 = n := by
  simp [Toward.cut, Nat.mod_one]

/-- A number that needs no rounding: its word. -/
theorem nearest_exact (f : Format) (neg : Bool) (m : Nat) (p : Int) (hm : m ≠ 0) (h1 : m.log2 ≤ f.fractionBits) (h2 : f.leastPlace ≤ p) :
    f.nearest neg m p = f.word neg (min ((max (p + m.log2 - f.fractionBits) f.leastPlace - f.leastPlace).toNat * f.binade + m * 2 ^ (p - max (p + m.log2 - f.fractionBits) f.leastPlace).toNat) f.infRung) := by
  unfold Format.nearest
  rw [if_neg hm]
  have hle : max (p + m.log2 - f.fractionBits) f.leastPlace ≤ p := by omega
  simp only
  rw [show (max (p + ↑m.log2 - ↑f.fractionBits) f.leastPlace - p).toNat = 0 by omega, cut_zero, Nat.shiftLeft_eq]

theorem read_rung (f : Format) (neg : Bool) {rung : Nat} (h : rung < f.signWeight) : f.read (f.word neg rung) = mkR f neg rung := by
  have h1 : f.word neg rung % f.signWeight = rung := by
    unfold Format.word
    split
    · rw [Nat.add_mod_left, Nat.mod_eq_of_lt h]
    · exact Nat.mod_eq_of_lt h
  have h2 : (f.word neg rung / f.signWeight % 2 == 1) = neg := by
    have h0 : 0 < f.signWeight := by omega
    unfold Format.word
    split
    · rename_i e
      rw [Nat.add_div_left _ h0, Nat.div_eq_of_lt h, e]; rfl
    · rename_i e
      rw [Nat.div_eq_of_lt h]; simp at e; rw [e]; rfl
  show mkR f _ _ = _
  rw [h1, h2]

theorem mkR_inf (f : Format) (neg : Bool) {r : Nat} (h : r < f.infRung) : (mkR f neg r).isInfinity = false := by
  unfold mkR
  by_cases h1 : r < f.binade
  · rw [if_pos h1]; rfl
  · rw [if_neg h1, if_pos h]; rfl

/-- What a 32-bit word stands for. -/
theorem read32 (b : Nat) : (∃ s m p, single.read b = .number s m p ∧ m < 2 ^ 24 ∧ -149 ≤ p ∧ p ≤ 104) ∨ (∃ s, single.read b = .infinity s) ∨ (∃ s t, single.read b = .nan s t) := by
  show (∃ s m p, mkR single _ _ = .number s m p ∧ _) ∨ (∃ s, mkR single _ _ = .infinity s) ∨ (∃ s t, mkR single _ _ = .nan s t)
  generalize (b / single.signWeight % 2 == 1) = sg
  generalize b % single.signWeight = r
  have e1 : single.binade = 8388608 := rfl
  have e2 : single.infRung = 2139095040 := rfl
  have e3 : single.leastPlace = -149 := by decide
  unfold mkR
  by_cases h1 : r < single.binade
  · rw [if_pos h1]
    exact .inl ⟨_, _, _, rfl, by omega, by rw [e3]; omega, by rw [e3]; omega⟩
  · rw [if_neg h1]
    by_cases h2 : r < single.infRung
    · rw [if_pos h2]
      refine .inl ⟨_, _, _, rfl, ?_, ?_, ?_⟩
      · have := Nat.mod_lt r (show 0 < single.binade by decide); omega
      · rw [e3]; omega
      · rw [e3]
        have : r / single.binade ≤ 254 := by rw [e1]; omega
        omega
    · rw [if_neg h2]
      by_cases h3 : r = single.infRung
      · rw [if_pos h3]; exact .inr (.inl ⟨_, rfl⟩)
      · rw [if_neg h3]; exact .inr (.inr ⟨_, _, rfl⟩)

theorem log2_lt24 {m : Nat} (h : m < 2 ^ 24) : m.log2 ≤ 23 := by
  by_cases h0 : m = 0
  · subst h0; decide
  · have := (Nat.log2_lt h0).2 h; omega

theorem wide_rung (s : Bool) (m : Nat) (p : Int) (hm : m < 2 ^ 24) (h1 : -149 ≤ p) (h2 : p ≤ 104) : ∃ r, double.write (.number s m p) = double.word s r ∧ r < double.infRung := by
  show ∃ r, double.nearest s m p = _ ∧ _
  by_cases h0 : m = 0
  · subst h0
    exact ⟨0, by simp [Format.nearest], by decide⟩
  · have hl := log2_lt24 hm
    have e1 : double.fractionBits = 52 := rfl
    have e2 : double.leastPlace = -1074 := by decide
    have e3 : double.infRung = 2047 * double.binade := congrArg (· * double.binade) (by decide)
    have e5 : 2 ^ 53 = 2 * double.binade := by show 2 ^ 53 = 2 * 2 ^ 52; rw [Nat.pow_succ 2 52, Nat.mul_comm]
    have e6 : 0 < double.binade := Nat.two_pow_pos _
    rw [nearest_exact double s m p h0 (by omega) (by omega)]
    refine ⟨_, rfl, ?_⟩
    have hk : m * 2 ^ (p - max (p + m.log2 - double.fractionBits) double.leastPlace).toNat < 2 ^ 53 := by
      have h3 : m < 2 ^ (m.log2 + 1) := Nat.lt_log2_self
      have h4 : (p - max (p + m.log2 - double.fractionBits) double.leastPlace).toNat ≤ 52 - m.log2 := by omega
      calc m * 2 ^ (p - max (p + m.log2 - double.fractionBits) double.leastPlace).toNat
          ≤ m * 2 ^ (52 - m.log2) := Nat.mul_le_mul_left _ (Nat.pow_le_pow_right (by decide) h4)
        _ < 2 ^ (m.log2 + 1) * 2 ^ (52 - m.log2) := Nat.mul_lt_mul_of_pos_right h3 (Nat.two_pow_pos _)
        _ = 2 ^ 53 := by rw [← Nat.pow_add]; congr 1; omega
    have h5 : (max (p + m.log2 - double.fractionBits) double.leastPlace - double.leastPlace).toNat ≤ 1200 := by omega
    have h6 : (max (p + m.log2 - double.fractionBits) double.leastPlace - double.leastPlace).toNat * double.binade ≤ 1200 * double.binade := Nat.mul_le_mul_right _ h5
    rw [e5] at hk
    rw [e3]
    generalize double.binade = B at *
    generalize (max (p + m.log2 - double.fractionBits) double.leastPlace - double.leastPlace).toNat * B = X at *
    generalize m * 2 ^ (p - max (p + m.log2 - double.fractionBits) double.leastPlace).toNat = Y at *
    omega

theorem can_nearest (k : FloatKind) (n : Int) : can k (k.nearest n) = k.nearest n := can_of_not (nanb_write (k := k) (d := .number (n < 0) n.natAbs 0) rfl) (k.format.write_lt (.number (n < 0) n.natAbs 0))
/-- 'float64(x)', up to payloads. -/
def widen (x : Nat) : Nat := (floatToFloatBits .f32 x .f64).getD (qnan .f64)
theorem wideC {a r A : Nat} (h : Cn .f64 r (widen (can .f32 a))) (h1 : Cn .f32 a A) : Cn .f64 r (widen A) := by rw [← h1.1]; exact h
theorem cn_nearest (k : FloatKind) (n : Int) : Cn k (k.nearest n) (k.nearest n) := ⟨can_nearest k n, k.format.write_lt (.number (n < 0) n.natAbs 0)⟩
theorem wide_nan {b : Nat} (h : nanb .f32 b = true) : floatToFloatBits .f32 b .f64 = none := by
  have h' : (single.read b).isNaN = true := h
  unfold floatToFloatBits
  rw [if_neg (by decide)]
  show (match single.read b with | .nan _ _ => _ | .infinity s => _ | .number s m e => _) = _
  cases hr : single.read b with
  | nan s t => rfl
  | number s m p => rw [hr] at h'; cases h'
  | infinity s => rw [hr] at h'; cases h'
theorem widen_can (x : Nat) : widen (can .f32 x) = widen x := by
  unfold widen
  by_cases h : nanb .f32 x = true
  · rw [wide_nan h, wide_nan (by rw [nanb_can]; exact h)]
  · have hr : single.read (can .f32 x) = single.read x := read_can (k := .f32) (by simpa using h)
    unfold floatToFloatBits
    rw [if_neg (by decide), if_neg (by decide)]
    show (match single.read (can .f32 x) with | .nan _ _ => _ | .infinity s => _ | .number s m e => _ : Option Nat).getD _ = _
    rw [hr]
    rfl

section
variable {P : Program} {ρ : Env} {w : World} {d : Option Tmp} {ty : TypeId} {pos : String} {aft : Array Edge} {g : Option (Nat × Bool)} {x : Operand}

theorem run_wide (b : Nat) (w : World) : ∃ r n, (Conv.floatToFloat .f32 b .f64).run P w = .ok (.float .f64 r) (w.drewN n) ∧ Cn .f64 r (widen (can .f32 b)) := by
  rw [widen_can]
  rcases read32 b with ⟨s, m, p, hr, h1, h2, h3⟩ | ⟨s, hr⟩ | ⟨s, t, hr⟩
  · obtain ⟨r, e1, e2⟩ := wide_rung s m p h1 h2 h3
    have hinf : (double.read (double.write (.number s m p))).isInfinity = false := by
      rw [e1, read_rung _ _ (Nat.lt_trans e2 (Format.infRung_lt _))]; exact mkR_inf _ _ e2
    have hb : floatToFloatBits .f32 b .f64 = some (double.write (.number s m p)) := by
      unfold floatToFloatBits
      rw [if_neg (by decide)]
      show (match single.read b with | .nan _ _ => none | .infinity s => some (double.write (.infinity s)) | .number s m e => if (double.read (double.write (.number s m e))).isInfinity then none else some (double.write (.number s m e))) = _
      rw [hr]; simp only [hinf]; rfl
    refine ⟨_, 0, ?_, by unfold widen; rw [hb]; exact ⟨can_of_not (b := double.write (.number s m p)) (nanb_write (k := .f64) (d := .number s m p) rfl) (double.write_lt _), double.write_lt _⟩⟩
    unfold Conv.floatToFloat
    rw [if_neg (by decide)]
    show (match single.read b with | .nan _ _ => _ | .infinity s => _ | .number s m e => _ : Sem Value).run P w = _
    rw [hr]
    show (if (double.read (double.write (.number s m p))).isInfinity then _ else _ : Sem Value).run P w = _
    rw [hinf]; rfl
  · have hb : floatToFloatBits .f32 b .f64 = some (double.write (.infinity s)) := by
      unfold floatToFloatBits
      rw [if_neg (by decide)]
      show (match single.read b with | .nan _ _ => none | .infinity s => some (double.write (.infinity s)) | .number s m e => if (double.read (double.write (.number s m e))).isInfinity then none else some (double.write (.number s m e))) = _
      rw [hr]
    refine ⟨_, 0, ?_, by unfold widen; rw [hb]; exact ⟨can_of_not (b := double.write (.infinity s)) (nanb_write (k := .f64) (d := .infinity s) rfl) (double.write_lt _), double.write_lt _⟩⟩
    unfold Conv.floatToFloat
    rw [if_neg (by decide)]
    show (match single.read b with | .nan _ _ => _ | .infinity s => _ | .number s m e => _ : Sem Value).run P w = _
    rw [hr]; rfl
  · refine ⟨(Question.nanConv .f64 b).cut (w.tape w.drawn (Question.nanConv .f64 b)), 1, ?_, ?_, cut_lt64 _⟩
    · unfold Conv.floatToFloat
      rw [if_neg (by decide)]
      show (match single.read b with | .nan _ _ => _ | .infinity s => _ | .number s m e => _ : Sem Value).run P w = _
      rw [hr]
      simp only [Sem.run_bind, run_choose (.nanConv .f64 b) rfl w]
      rfl
    · unfold widen
      rw [wide_nan (by show (single.read b).isNaN = true; rw [hr]; rfl)]
      exact can_of_nan (nan_cut64 _)

theorem n_wide {S T : Nat} {b : Nat} (hS : (P.underlying S).isSome = true) (hT : P.underlying T = some (.float .f64)) (hx : ev ρ x = .float .f32 b) :
    Yn P ρ ⟨d, .convert S T x, ty, pos, aft, g⟩ (fun v => ∃ r, v = .float .f64 r ∧ Cn .f64 r (widen (can .f32 b))) w := by
  obtain ⟨r, n, hr, hc⟩ := run_wide (P := P) b w
  obtain ⟨u, hu⟩ := Option.isSome_iff_exists.1 hS
  refine ⟨_, n, ?_, r, rfl, hc⟩
  cases u <;> simp [execOp, convert, hx, run_underlying hu, run_underlying hT, hr]
end
end Go.Wv

/- Lists: small laws for the walks. -/
namespace Go.Wv
def flts (xs : List Nat) : List Value := xs.map (Value.float .f32)
theorem flts_length (xs : List Nat) : (flts xs).length = xs.length := List.length_map ..
theorem map_at {α : Type} {f : α → Value} {xs : List α} {k j : Nat} (hk : k < xs.length) (hj : j = k) : (xs.map f)[j]? = some (f xs[k]) := by
  subst hj; simp [hk]
theorem fill_step {α : Type} (f : α → Value) (xs : List α) {k j : Nat} (hk : k < xs.length) (hj : j = k) (z : Value) :
    ((xs.take k).map f ++ List.replicate (xs.length - k) z).set j (f xs[k]) = (xs.take (k + 1)).map f ++ List.replicate (xs.length - (k + 1)) z := by
  subst hj
  have hl : ((xs.take j).map f).length = j := by simp; omega
  rw [List.set_append_right _ _ (by rw [hl]; exact Nat.le_refl _), hl, Nat.sub_self, show xs.length - j = (xs.length - (j + 1)) + 1 by omega, List.replicate_succ, List.set_cons_zero,
    List.take_succ_eq_append_getElem hk, List.map_append, List.append_assoc]
  rfl
theorem fill_start {α : Type} (f : α → Value) (xs : List α) (z : Value) : (xs.take 0).map f ++ List.replicate (xs.length - 0) z = List.replicate xs.length z := by simp
theorem fill_made {α : Type} (f : α → Value) (xs : List α) {z : Value} {m : Nat} (hz : z.cells = #[z]) (hm : m = xs.length) : (madeCells z.cells m).toList = (xs.take 0).map f ++ List.replicate (xs.length - 0) z := by
  rw [fill_start, made_one z hz, hm]
theorem fill_end {α : Type} (f : α → Value) (xs : List α) (z : Value) {k : Nat} (h : ¬ (k : Int) < (xs.length : Nat)) : (xs.take k).map f ++ List.replicate (xs.length - k) z = xs.map f := by
  have : xs.length ≤ k := by omega
  rw [List.take_of_length_le this, Nat.sub_eq_zero_of_le this]; simp
theorem Own.cast {w : World} {B n c T s n' : Nat} {a : Option Addr} {cs cs' : List Value} (h : Own w B a n c T s cs) (hn : n = n') (hc : cs = cs') : Own w B a n' c T s cs' := by subst hn; subst hc; exact h
/-- Canonical bits. -/
def cn (xs : List Nat) : List Nat := xs.map (can .f32)
theorem cn_length (xs : List Nat) : (cn xs).length = xs.length := List.length_map ..
theorem cn_get {xs : List Nat} {k : Nat} (h : k < xs.length) : (cn xs)[k]'(by rw [cn_length]; exact h) = can .f32 xs[k] := by simp [cn]
theorem cn_eq {xs ys : List Nat} (h : cn xs = cn ys) {k : Nat} (hx : k < xs.length) (hy : k < ys.length) : can .f32 xs[k] = can .f32 ys[k] := by
  have h1 := cn_get hx
  have h2 := cn_get hy
  rw [← h1, ← h2]
  congr 1
theorem cn_len {xs ys : List Nat} (h : cn xs = cn ys) : xs.length = ys.length := by rw [← cn_length xs, h, cn_length]

theorem order_self (k : FloatKind) {x : Nat} (h : nanb k x = false) : k.format.order x x = some .eq := by
  unfold nanb at h
  show (k.format.read x).order (k.format.read x) = _
  cases hd : k.format.read x with
  | number s m p => simp [Ieee.Datum.order]
  | infinity s => simp [Ieee.Datum.order]
  | nan s t => rw [hd] at h; cases h
theorem order_nan {k : FloatKind} {x y : Nat} (h : nanb k x = true) : k.format.order x y = none := Go.Wv.order_nan_l h
theorem fne_self_of_not {k : FloatKind} {x : Nat} (h : nanb k x = false) : fne k x x = false := by unfold fne; rw [order_self k h]; rfl
theorem feq_self_of_not {k : FloatKind} {x : Nat} (h : nanb k x = false) : feq k x x = true := by unfold feq; rw [order_self k h]; rfl
theorem fne_self (k : FloatKind) (x : Nat) : fne k x x = nanb k x := by
  cases h : nanb k x
  · exact fne_self_of_not h
  · unfold fne; rw [order_nan h]; rfl
theorem feq_self (k : FloatKind) (x : Nat) : feq k x x = !nanb k x := by
  cases h : nanb k x
  · exact feq_self_of_not h
  · unfold feq; rw [order_nan h]; rfl
theorem nearest_not (k : FloatKind) (n : Int) : nanb k (k.nearest n) = false := nanb_write (k := k) (d := .number (n < 0) n.natAbs 0) rfl
end Go.Wv

/- Floats: rounding looks at the number alone; what is read is written back. -/
namespace Go.Wv
open Ieee

theorem two_cases {q : Nat} (h : q < 2) : q = 0 ∨ q = 1 := by omega

theorem log2_mul_pow (m k : Nat) (hm : m ≠ 0) : (m * 2 ^ k).log2 = m.log2 + k := by
  have h1 : 2 ^ m.log2 ≤ m := Nat.log2_self_le hm
  have h2 : m < 2 ^ (m.log2 + 1) := Nat.lt_log2_self
  have hne : m * 2 ^ k ≠ 0 := Nat.mul_ne_zero hm (Nat.ne_of_gt (Nat.two_pow_pos k))
  rw [Nat.log2_eq_iff hne]
  constructor
  · rw [Nat.pow_add]; exact Nat.mul_le_mul_right _ h1
  · rw [show m.log2 + k + 1 = (m.log2 + 1) + k by omega, Nat.pow_add]; exact Nat.mul_lt_mul_of_pos_right h2 (Nat.two_pow_pos k)

/-- Digits that are nought are cut off without a trace. -/
theorem cut_shift (neg : Bool) (m k d : Nat) (hm : m ≠ 0) : Toward.even.cut neg (m * 2 ^ k) (d + k) = Toward.even.cut neg m d := by
  unfold Toward.cut
  simp only [log2_mul_pow m k hm, Nat.one_shiftLeft]
  have hg : min (d + k) (m.log2 + k + 2) = min d (m.log2 + 2) + k := by omega
  rw [hg]
  generalize min d (m.log2 + 2) = g
  have hp : 0 < 2 ^ k := Nat.two_pow_pos k
  have hdiv : m * 2 ^ k / 2 ^ (g + k) = m / 2 ^ g := by rw [Nat.pow_add]; exact Nat.mul_div_mul_right _ _ hp
  have hmod : m * 2 ^ k % 2 ^ (g + k) = m % 2 ^ g * 2 ^ k := by rw [Nat.pow_add]; exact Nat.mul_mod_mul_right _ _ _
  rw [hdiv, hmod]
  have e1 : (decide (2 ^ (g + k) < 2 * (m % 2 ^ g * 2 ^ k))) = decide (2 ^ g < 2 * (m % 2 ^ g)) := by
    rw [Nat.pow_add, ← Nat.mul_assoc]
    exact decide_eq_decide.2 ⟨fun h => Nat.lt_of_mul_lt_mul_right h, fun h => Nat.mul_lt_mul_of_pos_right h hp⟩
  have e2 : (2 ^ (g + k) == 2 * (m % 2 ^ g * 2 ^ k)) = (2 ^ g == 2 * (m % 2 ^ g)) := by
    rw [Nat.pow_add, ← Nat.mul_assoc, Bool.eq_iff_iff]
    simp only [beq_iff_eq]
    exact ⟨fun h => Nat.eq_of_mul_eq_mul_right hp h, fun h => congrArg (· * 2 ^ k) h⟩
  simp only [e1, e2]

theorem cut_exact (neg : Bool) (m k d : Nat) (hm : m ≠ 0) (h : d ≤ k) : Toward.even.cut neg (m * 2 ^ k) d = m * 2 ^ (k - d) := by
  have := cut_shift neg (m * 2 ^ (k - d)) d 0 (Nat.mul_ne_zero hm (Nat.ne_of_gt (Nat.two_pow_pos _)))
  rw [Nat.mul_assoc, ← Nat.pow_add, Nat.sub_add_cancel h, Nat.zero_add, cut_zero] at this
  exact this

/-- ROUNDING LOOKS AT THE NUMBER ALONE. -/
theorem nearest_shift (f : Format) (neg : Bool) (m k : Nat) (p : Int) (hm : m ≠ 0) : f.nearest neg (m * 2 ^ k) p = f.nearest neg m (p + k) := by
  have hne : m * 2 ^ k ≠ 0 := Nat.mul_ne_zero hm (Nat.ne_of_gt (Nat.two_pow_pos k))
  unfold Format.nearest
  rw [if_neg hm, if_neg hne]
  simp only [log2_mul_pow m k hm, Nat.shiftLeft_eq]
  have hl : p + ((m.log2 + k : Nat) : Int) - f.fractionBits = p + k + m.log2 - f.fractionBits := by omega
  rw [hl]
  generalize max (p + k + m.log2 - f.fractionBits) f.leastPlace = l
  congr 3
  by_cases h1 : l ≤ p
  · rw [show (l - p).toNat = 0 by omega, show (l - (p + k)).toNat = 0 by omega, cut_zero, cut_zero, Nat.mul_assoc, ← Nat.pow_add]
    congr 2; omega
  · rw [show (p - l).toNat = 0 by omega, Nat.pow_zero, Nat.mul_one]
    by_cases h2 : l ≤ p + k
    · rw [show (l - (p + k)).toNat = 0 by omega, cut_zero, cut_exact neg m k _ hm (by omega)]
      congr 2; omega
    · rw [show (p + k - l).toNat = 0 by omega, Nat.pow_zero, Nat.mul_one, show (l - p).toNat = (l - (p + k)).toNat + k by omega, cut_shift neg m k _ hm]

theorem word_inj_rung {f : Format} {neg : Bool} {a b : Nat} (h : a = b) : f.word neg a = f.word neg b := by rw [h]

/-- WHAT IS READ IS WRITTEN BACK. -/
theorem write_mkR (f : Format) (neg : Bool) {r : Nat} (h : r ≤ f.infRung) : f.write (mkR f neg r) = f.word neg r := by
  have hB : 0 < f.binade := Nat.two_pow_pos _
  unfold mkR
  by_cases h1 : r < f.binade
  · rw [if_pos h1]
    show f.nearest neg r f.leastPlace = _
    by_cases h0 : r = 0
    · subst h0; simp [Format.nearest]
    · have hl : r.log2 < f.fractionBits := (Nat.log2_lt h0).2 h1
      have hle : r.log2 ≤ f.fractionBits := Nat.le_of_lt hl
      rw [nearest_exact f neg r _ h0 hle (Int.le_refl _)]
      have hm : max (f.leastPlace + r.log2 - f.fractionBits) f.leastPlace = f.leastPlace := by omega
      rw [hm, Int.sub_self]
      simp only [Int.toNat_zero, Nat.zero_mul, Nat.zero_add, Nat.pow_zero, Nat.mul_one]
      rw [Nat.min_eq_left h]
  · rw [if_neg h1]
    by_cases h2 : r < f.infRung
    · rw [if_pos h2]
      show f.nearest neg (f.binade + r % f.binade) _ = _
      have hm0 : f.binade + r % f.binade ≠ 0 := by omega
      have hlog : (f.binade + r % f.binade).log2 = f.fractionBits := by
        rw [Nat.log2_eq_iff hm0]
        have := Nat.mod_lt r hB
        constructor
        · show f.binade ≤ _; omega
        · rw [Nat.pow_succ]; show _ < f.binade * 2; omega
      have hq : 1 ≤ r / f.binade := (Nat.one_le_div_iff hB).2 (by omega)
      rw [nearest_exact f neg _ _ hm0 (by rw [hlog]; exact Nat.le_refl _) (by omega), hlog]
      have hm : max (f.leastPlace + ((r / f.binade - 1 : Nat) : Int) + f.fractionBits - f.fractionBits) f.leastPlace = f.leastPlace + ((r / f.binade - 1 : Nat) : Int) := by omega
      rw [hm, Int.sub_self]
      have e2 : (f.leastPlace + ((r / f.binade - 1 : Nat) : Int) - f.leastPlace).toNat = r / f.binade - 1 := by omega
      rw [e2]
      simp only [Int.toNat_zero, Nat.pow_zero, Nat.mul_one]
      have e3 : (r / f.binade - 1) * f.binade + (f.binade + r % f.binade) = r := by
        have := Nat.div_add_mod r f.binade
        rw [Nat.sub_mul, Nat.one_mul]
        have h4 : f.binade ≤ r / f.binade * f.binade := Nat.le_mul_of_pos_left _ hq
        rw [Nat.mul_comm] at this
        omega
      rw [e3, Nat.min_eq_left h]
    · rw [if_neg h2]
      by_cases h3 : r = f.infRung
      · rw [if_pos h3, h3]; rfl
      · omega

theorem word_parts (f : Format) (b : Nat) (h : b < 2 * f.signWeight) : f.word (b / f.signWeight % 2 == 1) (b % f.signWeight) = b := by
  have h0 : 0 < f.signWeight := Nat.two_pow_pos _
  have h1 := Nat.div_add_mod b f.signWeight
  have h2 : b / f.signWeight < 2 := (Nat.div_lt_iff_lt_mul h0).2 h
  unfold Format.word
  rcases two_cases h2 with e | e
  · rw [e] at h1 ⊢; simp at h1 ⊢; exact h1
  · rw [e] at h1 ⊢; simp at h1 ⊢; exact h1

theorem wid_eq (k : FloatKind) : wid k = 2 * k.format.signWeight := by
  unfold wid Format.width Format.signWeight
  rw [Nat.add_assoc, Nat.add_comm 1, Nat.pow_succ, Nat.mul_comm]

theorem rung_le {k : FloatKind} {b : Nat} (h : nanb k b = false) : b % k.format.signWeight ≤ k.format.infRung := by
  rw [nan_iff] at h
  have := of_decide_eq_false h
  exact Nat.le_of_not_lt this

theorem write_read {k : FloatKind} {b : Nat} (h : nanb k b = false) (hb : b < wid k) : k.format.write (k.format.read b) = b := by
  show k.format.write (mkR k.format _ _) = b
  rw [write_mkR _ _ (rung_le h)]
  exact word_parts _ _ (by rw [← wid_eq]; exact hb)

theorem neg_word (f : Format) (b : Nat) (h : b < 2 * f.signWeight) : b ^^^ 2 ^ (f.exponentBits + f.fractionBits) = f.word (!(b / f.signWeight % 2 == 1)) (b % f.signWeight) := by
  have hw := word_parts f b h
  have h0 : 0 < f.signWeight := Nat.two_pow_pos _
  have h2 : b / f.signWeight < 2 := (Nat.div_lt_iff_lt_mul h0).2 h
  have h1 := Nat.div_add_mod b f.signWeight
  show b ^^^ f.signWeight = _
  have hlt : b % f.signWeight < f.signWeight := Nat.mod_lt _ h0
  have key : ∀ r, r < f.signWeight → r ^^^ f.signWeight = f.signWeight + r := fun r hr => by
    have := Nat.two_pow_add_eq_or_of_lt hr 1
    rw [Nat.mul_one] at this
    show r ^^^ 2 ^ _ = 2 ^ _ + r
    rw [this]
    apply Nat.eq_of_testBit_eq
    intro i
    simp only [Nat.testBit_xor, Nat.testBit_or, Nat.testBit_two_pow]
    by_cases hi : f.exponentBits + f.fractionBits = i
    · subst hi
      have : r.testBit (f.exponentBits + f.fractionBits) = false := Nat.testBit_lt_two_pow hr
      simp [this]
    · simp [hi]
  unfold Format.word
  rcases two_cases h2 with e | e
  · have hb : b % f.signWeight = b := by rw [e] at h1; simp at h1; omega
    rw [e]; simp
    rw [hb]; exact key b (by omega)
  · have hb : b = f.signWeight + b % f.signWeight := by rw [e] at h1; simp at h1; omega
    rw [e]; simp
    generalize b % f.signWeight = r at *
    rw [hb, ← key r hlt, Nat.xor_assoc, Nat.xor_self, Nat.xor_zero]

theorem neg_write {k : FloatKind} {b : Nat} (h : nanb k b = false) (hb : b < wid k) : k.format.write (k.format.read b).opposite = Op.negFloat k b := by
  unfold Op.negFloat
  rw [neg_word k.format b (by rw [← wid_eq]; exact hb)]
  have e : (k.format.read b).opposite = mkR k.format (!(b / k.format.signWeight % 2 == 1)) (b % k.format.signWeight) := by
    show (mkR k.format _ _).opposite = _
    unfold mkR
    by_cases h1 : b % k.format.signWeight < k.format.binade
    · rw [if_pos h1, if_pos h1]; rfl
    · rw [if_neg h1, if_neg h1]
      by_cases h2 : b % k.format.signWeight < k.format.infRung
      · rw [if_pos h2, if_pos h2]; rfl
      · rw [if_neg h2, if_neg h2]
        by_cases h3 : b % k.format.signWeight = k.format.infRung
        · rw [if_pos h3, if_pos h3]; rfl
        · exact absurd (rung_le h) (by omega)
  rw [e, write_mkR _ _ (rung_le h)]
end Go.Wv

/- Lists of numbers by their indices. -/
namespace Go.Wv
/-- The number at an index. -/
def el (xs : List Nat) (i : Int) : Nat := xs.getD i.toNat 0
/-- The list with another number at an index. -/
def put (xs : List Nat) (i : Int) (v : Nat) : List Nat := xs.set i.toNat v
theorem put_length (xs : List Nat) (i : Int) (v : Nat) : (put xs i v).length = xs.length := List.length_set ..
theorem el_get {xs : List Nat} {i : Int} (h0 : 0 ≤ i) (h1 : i < (xs.length : Int)) : xs[i.toNat]? = some (el xs i) := by
  have h : i.toNat < xs.length := by omega
  simp [el, h]
theorem fl_at {xs : List Nat} {i : Int} (h0 : 0 ≤ i) (h1 : i < (xs.length : Int)) : (flts xs)[i.toNat * 1]? = some (.float .f32 (el xs i)) := by
  rw [Nat.mul_one, flts, List.getElem?_map, el_get h0 h1]; rfl
theorem can_zero : can .f32 0 = 0 := by kernel_rfl
theorem cn_zero : Cn .f32 0 0 := cnLit (by kernel_rfl) (by kernel_rfl)
theorem cn_el {xs X : List Nat} (h : cn xs = X) (i : Int) : can .f32 (el xs i) = el X i := by
  subst h
  simp only [el, cn, List.getD_eq_getElem?_getD, List.getElem?_map]
  cases xs[i.toNat]? <;> simp [can_zero]
theorem flts_put (xs : List Nat) (i : Int) (v : Nat) : (flts xs).set (i.toNat * 1) (.float .f32 v) = flts (put xs i v) := by
  rw [Nat.mul_one, flts, flts, put, List.map_set]
theorem cn_put {xs X : List Nat} {v V : Nat} (h : cn xs = X) (hv : can .f32 v = V) (i : Int) : cn (put xs i v) = put X i V := by
  subst h; subst hv
  simp [cn, put, List.map_set]
theorem el_put {xs : List Nat} {i : Int} (h0 : 0 ≤ i) (h1 : i < (xs.length : Int)) (v : Nat) (j : Int) (hj : 0 ≤ j) : el (put xs i v) j = if j = i then v else el xs j := by
  have h : i.toNat < xs.length := by omega
  by_cases e : j = i
  · subst e; rw [if_pos rfl]; simp [el, put, h]
  · rw [if_neg e]
    have e' : i.toNat ≠ j.toNat := by omega
    simp [el, put, e']
theorem ext_el {xs ys : List Nat} (hl : xs.length = ys.length) (h : ∀ i, 0 ≤ i → i < (ys.length : Int) → el xs i = el ys i) : xs = ys := by
  apply List.ext_getElem? 
  intro n
  by_cases hn : n < ys.length
  · have h1 := el_get (xs := xs) (i := n) (by omega) (by omega)
    have h2 := el_get (xs := ys) (i := n) (by omega) (by omega)
    rw [Int.toNat_natCast] at h1 h2
    rw [h1, h2, h n (by omega) (by omega)]
  · rw [List.getElem?_eq_none (by omega), List.getElem?_eq_none (by omega)]
theorem made_flts (m : Nat) {n : Nat} (h : n = m * 1) : (madeCells (Value.float .f32 0).cells n).toList = flts (List.replicate m 0) := by
  subst h
  rw [made_one _ rfl, flts, List.map_replicate, Nat.mul_one]
theorem el_replicate (m : Nat) (i : Int) : el (List.replicate m 0) i = 0 := by
  simp only [el, List.getD_eq_getElem?_getD, List.getElem?_replicate]
  split <;> rfl
theorem flts_snoc (xs : List Nat) (r : Nat) : flts xs ++ [Value.float .f32 r] = flts (xs ++ [r]) := by simp [flts]
theorem flts_app (xs ys : List Nat) : flts xs ++ flts ys = flts (xs ++ ys) := by simp [flts]
theorem flts_nil : flts [] = [] := rfl
theorem flts_one' (ys : List Nat) : ∀ u ∈ flts ys, u.oneCell' = true := by
  intro u hu
  simp only [flts, List.mem_map] at hu
  obtain ⟨x, _, rfl⟩ := hu; rfl
theorem cn_snoc {xs X : List Nat} {r R : Nat} (h : cn xs = X) (hr : can .f32 r = R) : cn (xs ++ [r]) = X ++ [R] := by subst h; subst hr; simp [cn]
theorem cn_app {xs X ys Y : List Nat} (h : cn xs = X) (hr : cn ys = Y) : cn (xs ++ ys) = X ++ Y := by subst h; subst hr; simp [cn]
theorem cn_lenX {xs X : List Nat} (h : cn xs = X) : X.length = xs.length := by subst h; exact cn_length xs
/-- The numbers of a table. -/
def tab (n : Int) (g : Int → Nat) : List Nat := (List.range n.toNat).map fun (i : Nat) => g (i : Int)
theorem tab_length (n : Int) (g : Int → Nat) : (tab n g).length = n.toNat := by simp [tab]
theorem tab_zero (g : Int → Nat) : tab 0 g = [] := rfl
theorem tab_succ {n : Int} (h : 0 ≤ n) (g : Int → Nat) : tab (n + 1) g = tab n g ++ [g n] := by
  unfold tab
  rw [show (n + 1).toNat = n.toNat + 1 by omega, List.range_succ, List.map_append]
  simp [Int.toNat_of_nonneg h]
theorem el_tab {n : Int} {g : Int → Nat} {i : Int} (h0 : 0 ≤ i) (h1 : i < n) : el (tab n g) i = g i := by
  have : i.toNat < n.toNat := by omega
  simp [el, tab, this, Int.toNat_of_nonneg h0]
theorem tab_ext {n : Int} {g h : Int → Nat} (e : ∀ i, 0 ≤ i → i < n → g i = h i) : tab n g = tab n h := by
  unfold tab
  apply List.map_congr_left
  intro i hi
  rw [List.mem_range] at hi
  exact e i (by omega) (by omega)
theorem tab_of {xs : List Nat} {n : Int} {g : Int → Nat} (hl : (xs.length : Int) = n) (h : ∀ i, 0 ≤ i → i < n → el xs i = g i) : xs = tab n g := by
  apply ext_el
  · rw [tab_length]; omega
  · intro i h0 h1
    rw [tab_length] at h1
    rw [el_tab h0 (by omega), h i h0 (by omega)]
/-- The marks that the laws write: rising numbers. -/
def marks (k : Int) (n : Nat) : List Nat := tab n fun i => FloatKind.nearest .f32 (k + i)
theorem marks_length (k : Int) (n : Nat) : (marks k n).length = n := by simp [marks, tab_length]
theorem el_marks {k : Int} {n : Nat} {i : Int} (h0 : 0 ≤ i) (h1 : i < (n : Int)) : el (marks k n) i = FloatKind.nearest .f32 (k + i) := el_tab h0 h1
theorem can_el_marks {k : Int} {n : Nat} {i : Int} (h0 : 0 ≤ i) (h1 : i < (n : Int)) : can .f32 (el (marks k n) i) = FloatKind.nearest .f32 (k + i) := by
  rw [el_marks h0 h1, can_nearest]
theorem fne_marks (k : Int) : fne .f32 (FloatKind.nearest .f32 k) (FloatKind.nearest .f32 k) = false := fne_self_of_not (nearest_not _ _)
theorem Sl.low {w : World} {a : Option Addr} {cs : List Value} (h : Sl w a cs) : cs = [] ∨ ∀ k, inA a k → k < w.heap.size := by
  cases cs with
  | nil => exact .inl rfl
  | cons c cs => exact .inr (h.lt (by simp))
theorem Sl.extL {S : Nat → Prop} {w1 w2 : World} {B : Nat} {a : Option Addr} {cs : List Value} (h : Sl w1 a cs) (low : cs = [] ∨ ∀ k, inA a k → k < B) (e : Ext S w1 w2) (hs : ∀ k, S k → k < B → False) : Sl w2 a cs := by
  rcases low with rfl | low
  · exact Sl.nil _ _
  · exact h.ext e fun k hk hk' => hs k hk' (low k hk)
theorem Sl.fmarks0 (w : World) (a : Option Addr) (k : Int) : Sl w a (flts (marks k 0)) := Sl.nil _ _
theorem Own.fnil (w : World) (B T : Nat) : Own w B none 0 0 T 1 (flts []) := Own.nil w B T 1
theorem Ext.none {w w' : World} (h : Ext (inA none) w w') : Ext0 w w' := h.mono fun k hk => by simp [inA] at hk
theorem marks_done {n : Nat} {zs : List Nat} {k : Int} (hl : zs.length = n) (h : ∀ i, 0 ≤ i → i < (n : Int) → el zs i = FloatKind.nearest .f32 (k + i)) : zs = marks k n :=
  tab_of (by omega) h
theorem not_fne_marks {n : Nat} {k i : Int} (h0 : 0 ≤ i) (h1 : i < (n : Int)) : ¬ fne .f32 (el (cn (marks k n)) i) (FloatKind.nearest .f32 (k + i)) = true := by
  rw [← cn_el rfl, can_el_marks h0 h1, fne_marks]; simp
theorem cn_zeros (n : Nat) : cn (List.replicate n 0) = List.replicate n 0 := by simp [cn, can_zero]
theorem Sl.fnil (w : World) (a : Option Addr) : Sl w a (flts []) := Sl.nil _ _
theorem el_same {xs zs : List Nat} {k : Int} (hl : zs.length = xs.length) (h0 : 0 ≤ k) (h1 : k < (xs.length : Int)) (h : ∀ i, 0 ≤ i → i < k → el zs i = el xs i) : ∀ i, 0 ≤ i → i < k + 1 → el (put zs k (el xs k)) i = el xs i := fun i h2 h3 => by
  rw [el_put h0 (by omega) _ _ h2]
  by_cases e : i = k
  · subst e; rw [if_pos rfl]
  · rw [if_neg e]; exact h i h2 (by omega)
theorem el_mark {n : Nat} {zs : List Nat} {k j : Int} (hl : zs.length = n) (h0 : 0 ≤ j) (h1 : j < (n : Int)) (h : ∀ i, 0 ≤ i → i < j → el zs i = FloatKind.nearest .f32 (k + i)) : ∀ i, 0 ≤ i → i < j + 1 → el (put zs j (FloatKind.nearest .f32 (k + j))) i = FloatKind.nearest .f32 (k + i) := fun i h2 h3 => by
  rw [el_put h0 (by omega) _ _ h2]
  by_cases e : i = j
  · subst e; rw [if_pos rfl]
  · rw [if_neg e]; exact h i h2 (by omega)
end Go.Wv

/- Floats: nought minus a number; sizes. -/
namespace Go.Wv
open Ieee
theorem read_place {f : Format} {b : Nat} {t : Bool} {n : Nat} {j : Int} (h : f.read b = .number t n j) : f.leastPlace ≤ j := by
  have h' : mkR f (b / f.signWeight % 2 == 1) (b % f.signWeight) = .number t n j := h
  unfold mkR at h'
  split at h'
  · injection h' with _ _ h3; omega
  · split at h'
    · injection h' with _ _ h3; omega
    · split at h' <;> cases h'
theorem read_zero (k : FloatKind) : k.format.read 0 = .number false 0 k.format.leastPlace := by cases k <;> kernel_rfl
theorem order_zero {k : FloatKind} {x : Nat} {t : Bool} {n : Nat} {j : Int} (h : k.format.read x = .number t n j) : k.format.order x 0 = some (compare (signed t n (j - k.format.leastPlace).toNat) 0) := by
  have hp := read_place h
  show (k.format.read x).order (k.format.read 0) = _
  rw [h, read_zero]
  simp only [Datum.order, Int.min_eq_right hp, signed, Int.sub_self, Int.toNat_zero, Nat.shiftLeft_zero]
  simp
theorem signed_zero {t : Bool} {n u : Nat} : signed t n u = 0 ↔ n = 0 := by
  have hp := Nat.two_pow_pos u
  have : n * 2 ^ u = 0 ↔ n = 0 := by
    constructor
    · intro h; rcases Nat.mul_eq_zero.1 h with h | h
      · exact h
      · omega
    · intro h; rw [h, Nat.zero_mul]
  unfold signed
  rw [Nat.shiftLeft_eq]
  rw [← this]
  generalize n * 2 ^ u = m
  cases t <;> simp
theorem feq_zero {k : FloatKind} {x : Nat} {t : Bool} {n : Nat} {j : Int} (h : k.format.read x = .number t n j) : feq k x 0 = decide (n = 0) := by
  unfold feq
  rw [order_zero h]
  by_cases hn : n = 0
  · have := (signed_zero (t := t) (u := (j - k.format.leastPlace).toNat)).2 hn
    rw [this]; simp [hn]
  · have h' : signed t n (j - k.format.leastPlace).toNat ≠ 0 := fun e => hn (signed_zero.1 e)
    simp [hn]
    intro e
    exact h' (by simpa using e)
theorem sub0 {k : FloatKind} {x : Nat} (h : nanb k x = false) (hw : x < wid k) : fop .sub k 0 x = if feq k x 0 = true then 0 else fneg k x := by
  have hneg : fneg k x = Op.negFloat k x := by simp [fneg, h]
  rw [hneg, ← neg_write h hw]
  unfold fop floatBits
  show (((k.format.read 0).sum (k.format.read x).opposite).map k.format.write).getD _ = _
  rw [read_zero]
  cases hd : k.format.read x with
  | nan s t => unfold nanb at h; rw [hd] at h; cases h
  | infinity s =>
    have : feq k x 0 = false := by
      unfold feq
      show ((k.format.read x).order (k.format.read 0) == _) = _
      rw [hd, read_zero]; cases s <;> rfl
    simp [Datum.sum, Datum.opposite, this]
  | number t n j =>
    have hp := read_place hd
    rw [feq_zero hd]
    simp only [Datum.opposite, Datum.sum, Int.min_eq_left hp, Int.sub_self, Int.toNat_zero, Option.map_some, Option.getD_some]
    have e0 : signed false 0 0 = 0 := rfl
    rw [e0, Int.zero_add]
    by_cases hn : n = 0
    · have := (signed_zero (t := !t) (u := (j - k.format.leastPlace).toNat)).2 hn
      rw [this, if_pos rfl]
      simp [hn, Format.write, Format.nearest, Format.word]
    · have h' : signed (!t) n (j - k.format.leastPlace).toNat ≠ 0 := fun e => hn (signed_zero.1 e)
      rw [if_neg h', if_neg (by simpa using hn)]
      have hs : (decide (signed (!t) n (j - k.format.leastPlace).toNat < 0)) = !t ∧ (signed (!t) n (j - k.format.leastPlace).toNat).natAbs = n * 2 ^ (j - k.format.leastPlace).toNat := by
        have hpos : 0 < n * 2 ^ (j - k.format.leastPlace).toNat := Nat.mul_pos (Nat.pos_of_ne_zero hn) (Nat.two_pow_pos _)
        unfold signed
        rw [Nat.shiftLeft_eq]
        generalize n * 2 ^ (j - k.format.leastPlace).toNat = m at *
        cases t <;> simp <;> omega
      rw [hs.1, hs.2]
      show k.format.nearest (!t) _ _ = k.format.nearest (!t) n j
      rw [nearest_shift _ _ _ _ _ hn]
      congr 1
      omega
/-- '|x|' -/
def szX (x : Nat) : Nat := if flt .f32 x 0 then fneg .f32 x else if feq .f32 x 0 then 0 else x
theorem nan_of_order {k : FloatKind} {x y : Nat} {o : Ordering} (h : k.format.order x y = some o) : nanb k x = false := by
  cases hn : nanb k x
  · rfl
  · rw [order_nan hn] at h; cases h
theorem szX_le {x X : Nat} (hX0 : Cn .f32 x X) (h : fle .f32 X 0 = true) : fop .sub .f32 0 X = szX X := by
  have hX := hX0.1
  have hn : nanb .f32 X = false := by
    unfold fle at h
    rcases Bool.or_eq_true _ _ ▸ h with h | h <;> exact nan_of_order (by simpa using h)
  rw [sub0 hn (by subst hX; exact can_lt _ _)]
  unfold szX
  unfold fle at h
  rcases Bool.or_eq_true _ _ ▸ h with h | h
  · have h' : FloatKind.f32.format.order X 0 = some .lt := by simpa using h
    simp [flt, feq, h']
  · have h' : FloatKind.f32.format.order X 0 = some .eq := by simpa using h
    simp [flt, feq, h']
theorem szX_gt {X : Nat} (h : ¬ fle .f32 X 0 = true) : X = szX X := by
  unfold szX
  have h1 : flt .f32 X 0 = false := by unfold fle at h; unfold flt; simp at h; simp [h.1]
  have h2 : feq .f32 X 0 = false := by unfold fle at h; unfold feq; simp at h; simp [h.2]
  simp [h1, h2]
end Go.Wv

/- Slices whose elements are rows of cells; stores into them. -/
namespace Go.Wv
theorem take_mid {L cs new : List Value} {j m : Nat} (hL : L.take cs.length = cs) (hj : j + m ≤ cs.length) (hn : new.length = m) : (L.take j ++ new ++ L.drop (j + m)).take cs.length = cs.take j ++ new ++ cs.drop (j + m) := by
  obtain ⟨r, hr⟩ : ∃ r, L = cs ++ r := ⟨L.drop cs.length, by rw [← List.take_append_drop cs.length L, hL]; simp⟩
  subst hr
  rw [List.take_append_of_le_length (l₁ := cs) (by omega), List.drop_append_of_le_length (l₁ := cs) (by omega), ← List.append_assoc]
  exact List.take_left' (by simp; omega)
section
variable {P : Program} {ρ : Env} {w : World} {d : Option Tmp} {ty : TypeId} {pos : String} {aft : Array Edge} {g : Option (Nat × Bool)} {x y : Operand} {v : Value} {K : Value → World → Prop}
/-- A store of some cells into a slice that the call made. -/
theorem k_storeElN {T T' B n c s j m : Nat} {a : Option Addr} {cs cs' : List Value} (hB : szB P T m = true) (hx : ev ρ x = .pointer (some (sat a j))) (hy : ev ρ y = v) (hv : v.cells.size = m) (h1 : ∀ u ∈ v.cells.toList, u.oneCell' = true) (h0 : 0 < m)
    (ho : Own w B a n c T' s cs) (hj : j + m ≤ cs.length) (hc : cs.take j ++ v.cells.toList ++ cs.drop (j + m) = cs')
    (h : ∀ w', Ext (inA a) w w' → w'.heap.size = w.heap.size → Own w' B a n c T' s cs' → K undef w') : opk P ⟨d, .store T x y, ty, pos, aft, g⟩ ρ w K := by
  have hlen : cs'.length = cs.length := by
    rw [← hc]; simp [hv]; omega
  rcases ho.2 with ⟨_, hn⟩ | ⟨gg, cap, cur, hv', hb, hg, hnc, hcm, hcs, htake⟩
  · have := ho.1; rw [hn, Nat.zero_mul] at this; omega
  simp only [Value.slice.injEq] at hv'
  obtain ⟨rfl, _, rfl⟩ := hv'
  have hle : cs.length ≤ cur.size := by rw [← htake]; simp; omega
  have hst := run_storeCells_at P gg j T' v.cells.toList 0 cur w hg (by simpa [hv] using Nat.le_trans hj hle) h1
  have hadd : sat (some ⟨gg, 0, none⟩) j = ⟨gg, j, none⟩ := by simp [sat]
  unfold opk
  simp only [execOp, Instr.storeAt, Instr.sureAddr, storeVar, hx, hy, hv, hadd, Sem.run_bind, Sem.run_pure, Result.andThen_ok, szB_spec hB, hst, ne_eq, not_true_eq_false, if_false]
  refine h _ ⟨rfl, rfl, rfl, by simp, fun k _ hk => setRow_other w gg k _ fun e => hk (by simp [inA, e])⟩ (by simp) ⟨by rw [hlen]; exact ho.1, .inr ⟨gg, c, _, rfl, hb, setRow_heap w gg cur _ T' (0, 0) hg, hnc, hcm, ?_, ?_⟩⟩
  · simp [hv]; omega
  · rw [← hc]
    simp only [Nat.add_zero, Array.length_toList, hv]
    rw [← ho.1]
    exact take_mid (by rw [ho.1]; exact htake) hj (by simpa using hv)
theorem y_fldEl {T f o j : Nat} {a : Option Addr} (hB : fldB P T f o = true) (hx : ev ρ x = .pointer (some (sat a j))) (ha : ∃ b off, a = some ⟨b, off, none⟩) : Yv P ρ ⟨d, .fieldAddr T x f, ty, pos, aft, g⟩ (.pointer (some (sat a (j + o)))) w := by
  obtain ⟨b, off, rfl⟩ := ha
  have := y_fld (P := P) (ρ := ρ) (w := w) (d := d) (ty := ty) (pos := pos) (aft := aft) (g := g) (b := b) (o := off + j) hB hx
  simpa [sat, Nat.add_assoc] using this
end
section
variable {α : Type} (f : α → List Value) (s : Nat)
/-- The cells of rows. -/
def flat (xs : List α) : List Value := xs.flatMap f
variable {f s}
theorem flat_length (hf : ∀ x, (f x).length = s) (xs : List α) : (flat f xs).length = xs.length * s := by
  induction xs with
  | nil => simp [flat]
  | cons x xs ih => simp only [flat, List.flatMap_cons, List.length_append, hf, List.length_cons] at *; rw [ih, Nat.add_mul, Nat.one_mul, Nat.add_comm]
theorem flat_drop (hf : ∀ x, (f x).length = s) : ∀ (xs : List α) (k : Nat), (flat f xs).drop (k * s) = flat f (xs.drop k)
  | [], k => by simp [flat]
  | x :: xs, 0 => by simp
  | x :: xs, k + 1 => by
    have ih := flat_drop hf xs k
    simp only [flat, List.flatMap_cons, List.drop_succ_cons] at *
    rw [Nat.add_mul, Nat.one_mul, Nat.add_comm, ← List.drop_drop, List.drop_left' (hf x), ih]
theorem flat_take (hf : ∀ x, (f x).length = s) : ∀ (xs : List α) (k : Nat), (flat f xs).take (k * s) = flat f (xs.take k)
  | [], k => by simp [flat]
  | x :: xs, 0 => by simp [flat]
  | x :: xs, k + 1 => by
    have ih := flat_take hf xs k
    simp only [flat, List.flatMap_cons, List.take_succ_cons] at *
    rw [Nat.add_mul, Nat.one_mul, Nat.add_comm, List.take_add, List.take_append_of_le_length (by rw [hf]; exact Nat.le_refl _), List.take_of_length_le (by rw [hf]; exact Nat.le_refl _), List.drop_append_of_le_length (by rw [hf]; exact Nat.le_refl _), List.drop_of_length_le (by rw [hf]; exact Nat.le_refl _), List.nil_append, ih]
variable [Inhabited α]
/-- The row at an index. -/
def gl (xs : List α) (i : Int) : α := xs.getD i.toNat default
def pl (xs : List α) (i : Int) (v : α) : List α := xs.set i.toNat v
omit [Inhabited α] in
theorem pl_length (xs : List α) (i : Int) (v : α) : (pl xs i v).length = xs.length := List.length_set ..
theorem drop_gl {xs : List α} {i : Int} (h0 : 0 ≤ i) (h1 : i < (xs.length : Int)) : xs.drop i.toNat = gl xs i :: xs.drop (i.toNat + 1) := by
  have h : i.toNat < xs.length := by omega
  rw [List.drop_eq_getElem_cons h]; simp [gl, h]
theorem flat_row (hf : ∀ x, (f x).length = s) {xs : List α} {i : Int} (h0 : 0 ≤ i) (h1 : i < (xs.length : Int)) : ((flat f xs).drop (i.toNat * s)).take s = f (gl xs i) := by
  rw [flat_drop hf, drop_gl h0 h1]
  simp only [flat, List.flatMap_cons]
  rw [List.take_append_of_le_length (by rw [hf]; exact Nat.le_refl _), List.take_of_length_le (by rw [hf]; exact Nat.le_refl _)]
theorem flat_cell (hf : ∀ x, (f x).length = s) {xs : List α} {i : Int} (h0 : 0 ≤ i) (h1 : i < (xs.length : Int)) {j : Nat} {u : Value} (hu : (f (gl xs i))[j]? = some u) : (flat f xs)[i.toNat * s + j]? = some u := by
  have hj : j < s := by rw [← hf (gl xs i)]; exact (List.getElem?_eq_some_iff.1 hu).1
  rw [← List.getElem?_drop, ← hu, ← flat_row hf h0 h1, List.getElem?_take, if_pos hj]
omit [Inhabited α] in
theorem set_eq {xs : List α} {i : Int} (h0 : 0 ≤ i) (h1 : i < (xs.length : Int)) (v : α) : pl xs i v = xs.take i.toNat ++ v :: xs.drop (i.toNat + 1) := by
  have h : i.toNat < xs.length := by omega
  rw [pl, List.set_eq_take_append_cons_drop, if_pos h]
omit [Inhabited α] in
theorem flat_put (hf : ∀ x, (f x).length = s) {xs : List α} {i : Int} (h0 : 0 ≤ i) (h1 : i < (xs.length : Int)) (v : α) : (flat f xs).take (i.toNat * s) ++ f v ++ (flat f xs).drop (i.toNat * s + s) = flat f (pl xs i v) := by
  rw [set_eq h0 h1, flat_take hf, show i.toNat * s + s = (i.toNat + 1) * s by rw [Nat.add_mul, Nat.one_mul], flat_drop hf]
  simp [flat]
theorem flat_set (hf : ∀ x, (f x).length = s) {xs : List α} {i : Int} (h0 : 0 ≤ i) (h1 : i < (xs.length : Int)) {j : Nat} {u : Value} {v : α} (hj : j < s) (hv : (f (gl xs i)).set j u = f v) : (flat f xs).set (i.toNat * s + j) u = flat f (pl xs i v) := by
  have h : i.toNat < xs.length := by omega
  have e : flat f xs = flat f (xs.take i.toNat) ++ (f (gl xs i) ++ flat f (xs.drop (i.toNat + 1))) := by
    conv => lhs; rw [← List.take_append_drop i.toNat xs, drop_gl h0 h1]
    simp [flat]
  have hl : (flat f (xs.take i.toNat)).length = i.toNat * s := by rw [flat_length hf, List.length_take, Nat.min_eq_left (by omega)]
  rw [e, List.set_append_right _ _ (by rw [hl]; omega), hl, Nat.add_sub_cancel_left, List.set_append_left _ _ (by rw [hf]; exact hj), hv, set_eq h0 h1]
  simp [flat]
theorem gl_pl {xs : List α} {i : Int} (h0 : 0 ≤ i) (h1 : i < (xs.length : Int)) (v : α) (j : Int) (hj : 0 ≤ j) : gl (pl xs i v) j = if j = i then v else gl xs j := by
  have h : i.toNat < xs.length := by omega
  by_cases e : j = i
  · subst e; rw [if_pos rfl]; simp [gl, pl, h]
  · rw [if_neg e]
    have e' : i.toNat ≠ j.toNat := by omega
    simp [gl, pl, e']
theorem ext_gl {xs ys : List α} (hl : xs.length = ys.length) (h : ∀ i, 0 ≤ i → i < (ys.length : Int) → gl xs i = gl ys i) : xs = ys := by
  apply List.ext_getElem hl
  intro n h1 h2
  have := h n (by omega) (by omega)
  simpa [gl, h1, h2] using this
omit [Inhabited α] in
theorem flat_snoc (xs : List α) (v : α) : flat f xs ++ f v = flat f (xs ++ [v]) := by simp [flat]
end

theorem made_flat {α : Type} [Inhabited α] {f : α → List Value} {s : Nat} (hf : ∀ x, (f x).length = s) (hs : 0 < s) {z : Value} (z0 : α) (hz : z.cells.toList = f z0) (n : Nat) : (madeCells z.cells (n * s)).toList = flat f (List.replicate n z0) := by
  have hzs : z.cells.size = s := by rw [← hf z0, ← hz]; simp
  apply List.ext_getElem?
  intro j
  by_cases hj : j < n * s
  · have h1 : j / s < n := (Nat.div_lt_iff_lt_mul hs).2 hj
    have h2 : j % s < s := Nat.mod_lt _ hs
    have h4 : j / s * s + j % s = j := Nat.div_add_mod' j s
    generalize j / s = q at h1 h4
    have h7 : gl (List.replicate n z0) (q : Int) = z0 := by simp [gl, h1]
    have h3 := flat_cell (f := f) hf (xs := List.replicate n z0) (i := (q : Int)) (by omega) (by simp; omega) (j := j % s) (u := (f z0)[j % s]'(by rw [hf]; exact h2)) (by
      rw [h7]; simp [hf, h2])
    rw [Int.toNat_natCast, h4] at h3
    rw [h3]
    have h5 : j % s < z.cells.size := by rw [hzs]; exact h2
    have h6 : (f z0)[j % s]'(by rw [hf]; exact h2) = z.cells[j % s] := by
      have : (f z0)[j % s]? = z.cells.toList[j % s]? := by rw [hz]
      simpa [hf, h2, h5] using this
    rw [h6]
    simp [madeCells, hj, hzs, h2]
  · rw [List.getElem?_eq_none (by simp [size_madeCells]; omega), List.getElem?_eq_none (by rw [flat_length hf, List.length_replicate]; omega)]
theorem flat_nil {α : Type} (f : α → List Value) : flat f [] = [] := rfl
/-- Probes; whole numbers. -/
def prC (p : Int × Int) : List Value := [.int .i64 p.1, .int .i64 p.2]
theorem prC_len (p : Int × Int) : (prC p).length = 2 := rfl
def inC (n : Int) : List Value := [.int .i64 n]
theorem inC_len (n : Int) : (inC n).length = 1 := rfl
def boC (b : Bool) : List Value := [.bool b]
theorem boC_len (b : Bool) : (boC b).length = 1 := rfl
theorem gl_same {α : Type} [Inhabited α] {xs zs : List α} {k : Int} (hl : zs.length = xs.length) (h0 : 0 ≤ k) (h1 : k < (xs.length : Int)) (h : ∀ i, 0 ≤ i → i < k → gl zs i = gl xs i) : ∀ i, 0 ≤ i → i < k + 1 → gl (pl zs k (gl xs k)) i = gl xs i := fun i h2 h3 => by
  rw [gl_pl h0 (by omega) _ _ h2]
  by_cases e : i = k
  · subst e; rw [if_pos rfl]
  · rw [if_neg e]; exact h i h2 (by omega)
theorem gl_put {α : Type} [Inhabited α] {n : Nat} {zs : List α} {j : Int} {v : α} {g : Int → α} (hl : zs.length = n) (h0 : 0 ≤ j) (h1 : j < (n : Int)) (hv : v = g j) (h : ∀ i, 0 ≤ i → i < j → gl zs i = g i) : ∀ i, 0 ≤ i → i < j + 1 → gl (pl zs j v) i = g i := fun i h2 h3 => by
  rw [gl_pl h0 (by omega) _ _ h2]
  by_cases e : i = j
  · subst e; rw [if_pos rfl]; exact hv
  · rw [if_neg e]; exact h i h2 (by omega)
/-- A table of rows. -/
def gtab {α : Type} (n : Int) (g : Int → α) : List α := (List.range n.toNat).map fun (i : Nat) => g (i : Int)
theorem gtab_length {α : Type} (n : Int) (g : Int → α) : (gtab n g).length = n.toNat := by simp [gtab]
theorem gl_gtab {α : Type} [Inhabited α] {n : Int} {g : Int → α} {i : Int} (h0 : 0 ≤ i) (h1 : i < n) : gl (gtab n g) i = g i := by
  have : i.toNat < n.toNat := by omega
  simp [gl, gtab, this, Int.toNat_of_nonneg h0]
theorem gtab_of {α : Type} [Inhabited α] {xs : List α} {n : Int} {g : Int → α} (hl : (xs.length : Int) = n) (h : ∀ i, 0 ≤ i → i < n → gl xs i = g i) : xs = gtab n g := by
  apply ext_gl
  · rw [gtab_length]; omega
  · intro i h0 h1
    rw [gtab_length] at h1
    rw [gl_gtab h0 (by omega), h i h0 (by omega)]
def pmarks (k : Int) (n : Nat) : List (Int × Int) := gtab n fun i => (k + 2 * i, k + 2 * i + 1)
theorem pmarks_length (k : Int) (n : Nat) : (pmarks k n).length = n := by simp [pmarks, gtab_length]
def imarks (k : Int) (n : Nat) : List Int := gtab n fun i => k + i
theorem imarks_length (k : Int) (n : Nat) : (imarks k n).length = n := by simp [imarks, gtab_length]
end Go.Wv

/- Facts in bundles: what is known of blocks and lists, carried along as one. -/
namespace Go.Wv
/-- What the cells of one element hold. -/
structure Kd (α : Type) where
  sz : Nat
  rep : α → List Value → Prop
  pos : 0 < sz
  len : ∀ {x cs}, rep x cs → cs.length = sz
  one : ∀ {x cs}, rep x cs → ∀ u ∈ cs, u.oneCell' = true
section
variable {α : Type}
def Reps (k : Kd α) : List α → List Value → Prop
  | [], cs => cs = []
  | x :: xs, cs => ∃ c d, cs = c ++ d ∧ k.rep x c ∧ Reps k xs d
variable {k : Kd α}
theorem reps_len : ∀ {X : List α} {cs : List Value}, Reps k X cs → cs.length = X.length * k.sz
  | [], _, h => by cases h; simp
  | x :: X, _, ⟨c, d, h, h1, h2⟩ => by
    subst h
    rw [List.length_append, k.len h1, reps_len h2, List.length_cons, Nat.add_mul, Nat.one_mul, Nat.add_comm]
theorem reps_one {x : α} {cs : List Value} (h : k.rep x cs) : Reps k [x] cs := ⟨cs, [], by simp, h, rfl⟩
theorem reps_cons {x : α} {X : List α} {c d : List Value} (h : k.rep x c) (h2 : Reps k X d) : Reps k (x :: X) (c ++ d) := ⟨c, d, rfl, h, h2⟩
theorem reps_app : ∀ {X Y : List α} {cs ds : List Value}, Reps k X cs → Reps k Y ds → Reps k (X ++ Y) (cs ++ ds)
  | [], _, _, _, h, h2 => by cases h; exact h2
  | x :: X, _, _, _, ⟨c, d, h, h1, h3⟩, h2 => by subst h; exact ⟨c, d ++ _, by simp, h1, reps_app h3 h2⟩
theorem reps_cell : ∀ {X : List α} {cs : List Value}, Reps k X cs → ∀ u ∈ cs, u.oneCell' = true
  | [], _, h => by cases h; simp
  | x :: X, _, ⟨c, d, h, h1, h2⟩ => by
    subst h
    intro u hu
    rcases List.mem_append.1 hu with hu | hu
    · exact k.one h1 u hu
    · exact reps_cell h2 u hu
theorem reps_rep {z : α} {c : List Value} (h : k.rep z c) : ∀ n, Reps k (List.replicate n z) (List.replicate n c).flatten
  | 0 => rfl
  | n + 1 => by rw [List.replicate_succ, List.replicate_succ, List.flatten_cons]; exact reps_cons h (reps_rep h n)
theorem reps_split : ∀ {X Y : List α} {cs : List Value}, Reps k (X ++ Y) cs → Reps k X (cs.take (X.length * k.sz)) ∧ Reps k Y (cs.drop (X.length * k.sz))
  | [], _, _, h => by simpa [Reps] using h
  | x :: X, Y, _, ⟨c, d, h, h1, h2⟩ => by
    subst h
    obtain ⟨h3, h4⟩ := reps_split h2
    have e : (x :: X).length * k.sz = c.length + X.length * k.sz := by rw [List.length_cons, k.len h1, Nat.add_mul, Nat.one_mul, Nat.add_comm]
    rw [e]
    refine ⟨⟨c, d.take (X.length * k.sz), ?_, h1, h3⟩, ?_⟩
    · rw [List.take_append, List.take_of_length_le (by omega), Nat.add_sub_cancel_left]
    · rw [List.drop_append, List.drop_of_length_le (by omega), List.nil_append, Nat.add_sub_cancel_left]; exact h4
variable [Inhabited α]
theorem cut_at {X : List α} {i : Int} (h0 : 0 ≤ i) (h1 : i < (X.length : Int)) : X = X.take i.toNat ++ (gl X i :: X.drop (i.toNat + 1)) := by
  rw [← drop_gl h0 h1, List.take_append_drop]
omit [Inhabited α] in
theorem take_len {X : List α} {i : Int} (h1 : i < (X.length : Int)) (h0 : 0 ≤ i) : (X.take i.toNat).length = i.toNat := by rw [List.length_take]; omega
theorem reps_parts {X : List α} {cs : List Value} {i : Int} (h : Reps k X cs) (h0 : 0 ≤ i) (h1 : i < (X.length : Int)) :
    ∃ p c d, cs = p ++ (c ++ d) ∧ p.length = i.toNat * k.sz ∧ k.rep (gl X i) c ∧ Reps k (X.take i.toNat) p ∧ Reps k (X.drop (i.toNat + 1)) d := by
  rw [cut_at h0 h1] at h
  obtain ⟨h2, c, d, h3, h4, h5⟩ := reps_split h
  rw [take_len h1 h0] at h2 h3
  refine ⟨cs.take (i.toNat * k.sz), c, d, by rw [← h3, List.take_append_drop], ?_, h4, h2, h5⟩
  rw [reps_len h2, take_len h1 h0]
theorem reps_at {X : List α} {cs : List Value} {i : Int} (h : Reps k X cs) (h0 : 0 ≤ i) (h1 : i < (X.length : Int)) : ∃ c, k.rep (gl X i) c ∧ ∀ j u, c[j]? = some u → cs[i.toNat * k.sz + j]? = some u := by
  obtain ⟨p, c, d, rfl, hp, hc, _, _⟩ := reps_parts h h0 h1
  refine ⟨c, hc, fun j u hj => ?_⟩
  have hl : j < c.length := (List.getElem?_eq_some_iff.1 hj).1
  rw [List.getElem?_append_right (by omega), ← hp, Nat.add_sub_cancel_left, List.getElem?_append_left hl]; exact hj
theorem reps_set {X : List α} {cs : List Value} {i : Int} (h : Reps k X cs) (h0 : 0 ≤ i) (h1 : i < (X.length : Int)) {x : α} {j : Nat} {new : List Value} (hj : j + new.length ≤ k.sz)
    (hx : ∀ c, k.rep (gl X i) c → k.rep x (c.take j ++ new ++ c.drop (j + new.length))) : Reps k (pl X i x) (cs.take (i.toNat * k.sz + j) ++ new ++ cs.drop (i.toNat * k.sz + j + new.length)) := by
  obtain ⟨p, c, d, rfl, hp, hc, hP, hD⟩ := reps_parts h h0 h1
  have hcl := k.len hc
  rw [set_eq h0 h1]
  have e1 : (p ++ (c ++ d)).take (i.toNat * k.sz + j) = p ++ c.take j := by
    rw [← hp, List.take_append, List.take_of_length_le (by omega), Nat.add_sub_cancel_left, List.take_append_of_le_length (by omega)]
  have e2 : (p ++ (c ++ d)).drop (i.toNat * k.sz + j + new.length) = c.drop (j + new.length) ++ d := by
    rw [← hp, Nat.add_assoc, List.drop_append, List.drop_of_length_le (by omega), List.nil_append, Nat.add_sub_cancel_left, List.drop_append_of_le_length (by omega)]
  rw [e1, e2]
  have := reps_app hP (reps_cons (hx c hc) hD)
  simpa [List.append_assoc] using this
end
/-- A list that is read; a list of the call's own. -/
def Rd {α : Type} (w : World) (k : Kd α) (a : Option Addr) (n : Nat) (X : List α) : Prop := ∃ cs, X.length = n ∧ Reps k X cs ∧ Sl w a cs
def Ow {α : Type} (w : World) (k : Kd α) (a : Option Addr) (n c T : Nat) (X : List α) : Prop := ∃ cs, X.length = n ∧ Reps k X cs ∧ Own w 0 a n c T k.sz cs
inductive Fact : Type 1 where
  | blk (b : Nat) (cs : List Value) (T : Nat)
  | sl (a : Option Addr) (cs : List Value)
  | rd {α : Type} (k : Kd α) (a : Option Addr) (n : Nat) (X : List α)
  | ow {α : Type} (k : Kd α) (a : Option Addr) (n c T : Nat) (X : List α)
  | fam {α : Type} (k : Kd α) (T : Nat) (p : Nat → Prop) (Z : List (Option Addr × Nat × Nat)) (X : List (List α))
/-- Own lists, those with 'p', pairwise apart. -/
def Fam {α : Type} (w : World) (k : Kd α) (T : Nat) (p : Nat → Prop) (Z : List (Option Addr × Nat × Nat)) (X : List (List α)) : Prop :=
  Z.length = X.length ∧ (∀ i, p i → ∀ z x, Z[i]? = some z → X[i]? = some x → Ow w k z.1 z.2.1 z.2.2 T x) ∧ ∀ i j, p i → p j → i ≠ j → ∀ zi zj, Z[i]? = some zi → Z[j]? = some zj → ∀ b, inA zi.1 b → inA zj.1 b → False
def Fact.holds (w : World) : Fact → Prop
  | .blk b cs T => Blk w b cs T
  | .sl a cs => Sl w a cs
  | .rd k a n X => Rd w k a n X
  | .ow k a n c T X => Ow w k a n c T X
  | .fam k T p Z X => Fam w k T p Z X
/-- The blocks that a fact speaks of. -/
def Fact.has : Fact → Nat → Prop
  | .blk b _ _, k => k = b
  | .sl a cs, k => cs ≠ [] ∧ inA a k
  | .rd _ a n _, k => n ≠ 0 ∧ inA a k
  | .ow _ a _ _ _ _, k => inA a k
  | .fam _ _ p Z _, k => ∃ i z, p i ∧ Z[i]? = some z ∧ inA z.1 k
def Fact.ro : Fact → Bool
  | .sl .. => true
  | .rd .. => true
  | _ => false
def All (w : World) (L : List Fact) : Prop := ∀ f ∈ L, f.holds w
def Ap (f g : Fact) : Prop := ∀ k, f.has k → g.has k → False
def Rel (f g : Fact) : Prop := (f.ro = true ∧ g.ro = true) ∨ Ap f g
def Pw (L : List Fact) : Prop := L.Pairwise Rel
theorem Rd.cells_ne {α : Type} {k : Kd α} {X : List α} {cs : List Value} {n : Nat} (hl : X.length = n) (h : Reps k X cs) (hn : cs ≠ []) : n ≠ 0 := by
  intro e
  have := reps_len h
  rw [hl, e, Nat.zero_mul] at this
  exact hn (List.eq_nil_of_length_eq_zero this)
theorem Fact.lt {f : Fact} {w : World} (h : f.holds w) : ∀ k, f.has k → k < w.heap.size := by
  cases f with
  | blk b cs T => intro k hk; cases hk; exact Blk.lt h
  | sl a cs => intro k hk; exact Sl.lt h hk.1 k hk.2
  | rd kd a n X =>
    obtain ⟨cs, hl, hr, hs⟩ := h
    intro k hk
    refine Sl.lt hs (fun e => ?_) k hk.2
    have := reps_len hr
    rw [hl, e, List.length_nil] at this
    exact hk.1 (by have := kd.pos; rcases Nat.eq_zero_or_pos n with h | h; exact h; have : 0 < n * kd.sz := Nat.mul_pos h kd.pos; omega)
  | ow kd a n c T X => intro k hk; obtain ⟨cs, _, _, hs⟩ := h; exact (Own.blk hs k hk).2
  | fam kd T p Z X =>
    rintro k ⟨i, z, hp, hz, hk⟩
    have hi : i < X.length := by rw [← h.1]; exact (List.getElem?_eq_some_iff.1 hz).1
    obtain ⟨cs, _, _, hs⟩ := h.2.1 i hp z _ hz (List.getElem?_eq_getElem hi)
    exact (Own.blk hs k hk).2
theorem Fact.keep {f : Fact} {w w' : World} {S : Nat → Prop} (h : f.holds w) (e : Ext S w w') (hn : ∀ k, f.has k → S k → False) : f.holds w' := by
  cases f with
  | blk b cs T => exact Blk.ext h e (fun hs => hn b rfl hs)
  | sl a cs =>
    by_cases hc : cs = []
    · subst hc; exact Sl.nil _ _
    · exact Sl.ext h e (fun k hk hs => hn k ⟨hc, hk⟩ hs)
  | rd kd a n X =>
    obtain ⟨cs, hl, hr, hs⟩ := h
    refine ⟨cs, hl, hr, ?_⟩
    by_cases hc : cs = []
    · subst hc; exact Sl.nil _ _
    · exact Sl.ext hs e (fun k hk hs => hn k ⟨Rd.cells_ne hl hr hc, hk⟩ hs)
  | ow kd a n c T X =>
    obtain ⟨cs, hl, hr, hs⟩ := h
    exact ⟨cs, hl, hr, Own.ext hs e (fun k hk hs => hn k hk hs)⟩
  | fam kd T p Z X =>
    refine ⟨h.1, fun i hp z x hz hx => ?_, h.2.2⟩
    obtain ⟨cs, hl, hr, hs⟩ := h.2.1 i hp z x hz hx
    exact ⟨cs, hl, hr, Own.ext hs e (fun k hk hs => hn k ⟨i, z, hp, hz, hk⟩ hs)⟩
theorem Fact.keep0 {f : Fact} {w w' : World} (h : f.holds w) (e : Ext0 w w') : f.holds w' := f.keep h e fun _ _ h => h.elim
section
variable {w w' : World} {L : List Fact}
theorem All.nil : All w [] := fun _ h => by cases h
theorem All.cons {f : Fact} (h : f.holds w) (H : All w L) : All w (f :: L) := fun g hg => by
  rcases List.mem_cons.1 hg with rfl | hg
  · exact h
  · exact H g hg
theorem All.ext0 (H : All w L) (e : Ext0 w w') : All w' L := fun f hf => Fact.keep0 (H f hf) e
theorem All.get (H : All w L) (i : Nat) {f : Fact} (h : L[i]? = some f) : f.holds w := H f (List.mem_of_getElem? h)
theorem All.app {L2 : List Fact} (H : All w L) (H2 : All w L2) : All w (L ++ L2) := fun f hf => (List.mem_append.1 hf).elim (H f) (H2 f)
theorem Rel.symm {f g : Fact} (h : Rel f g) : Rel g f := h.elim (fun h => .inl ⟨h.2, h.1⟩) fun h => .inr fun k a b => h k b a
theorem Rel.ap {f g : Fact} (h : Rel f g) (hf : f.ro = false) : Ap f g := h.elim (fun h => by rw [hf] at h; cases h.1) id
theorem Pw.nil : Pw [] := List.Pairwise.nil
theorem Pw.ro (h : L.all Fact.ro = true) : Pw L := by
  induction L with
  | nil => exact Pw.nil
  | cons f L ih =>
    simp only [List.all_cons, Bool.and_eq_true] at h
    exact List.pairwise_cons.2 ⟨fun g hg => .inl ⟨h.1, List.all_eq_true.1 h.2 g hg⟩, ih h.2⟩
theorem Pw.one (f : Fact) : Pw [f] := List.pairwise_cons.2 ⟨fun _ h => (by cases h), List.Pairwise.nil⟩
theorem Pw.rel (P : Pw L) {i j : Nat} {f g : Fact} (hij : i < j) (hi : L[i]? = some f) (hj : L[j]? = some g) : Rel f g := by
  obtain ⟨h1, rfl⟩ := List.getElem?_eq_some_iff.1 hi
  obtain ⟨h2, rfl⟩ := List.getElem?_eq_some_iff.1 hj
  exact List.pairwise_iff_getElem.1 P i j h1 h2 hij
theorem Pw.rel' (P : Pw L) {i j : Nat} {f g : Fact} (hij : i ≠ j) (hi : L[i]? = some f) (hj : L[j]? = some g) : Rel f g := by
  rcases Nat.lt_or_gt_of_ne hij with h | h
  · exact P.rel h hi hj
  · exact (P.rel h hj hi).symm
def nodupB : List Nat → Bool
  | [] => true
  | i :: is => !is.contains i && nodupB is
/-- Facts chosen by their indices. -/
theorem All.pick (H : All w L) (is : List Nat) {fs : List Fact} (h : is.map (fun i => L[i]?) = fs.map some) : All w fs := by
  induction is generalizing fs with
  | nil => cases fs with
    | nil => exact All.nil
    | cons => cases h
  | cons i is ih => cases fs with
    | nil => cases h
    | cons f fs =>
      simp only [List.map_cons, List.cons.injEq] at h
      exact All.cons (H.get i h.1) (ih h.2)
theorem Pw.pick (P : Pw L) (is : List Nat) {fs : List Fact} (h : is.map (fun i => L[i]?) = fs.map some) (hn : nodupB is = true) : Pw fs := by
  induction is generalizing fs with
  | nil => cases fs with
    | nil => exact Pw.nil
    | cons => cases h
  | cons i is ih => cases fs with
    | nil => cases h
    | cons f fs =>
      simp only [List.map_cons, List.cons.injEq] at h
      simp only [nodupB, Bool.and_eq_true, Bool.not_eq_true', List.contains_eq_mem, decide_eq_false_iff_not] at hn
      refine List.pairwise_cons.2 ⟨fun g hg => ?_, ih h.2 hn.2⟩
      have hg' : some g ∈ is.map (fun i => L[i]?) := by rw [h.2]; exact List.mem_map.2 ⟨g, hg, rfl⟩
      obtain ⟨j, hj, hjg⟩ := List.mem_map.1 hg'
      exact P.rel' (fun e : i = j => hn.1 (by rw [e]; exact hj)) h.1 hjg
theorem Pw.app {L2 : List Fact} (P : Pw L) (P2 : Pw L2) (h : ∀ f ∈ L, ∀ g ∈ L2, Rel f g) : Pw (L ++ L2) := List.pairwise_append.2 ⟨P, P2, h⟩
end
/-- Facts on what was not there. -/
def New (w w' : World) (L : List Fact) : Prop := Ext0 w w' ∧ All w' L ∧ Pw L ∧ ∀ f ∈ L, ∀ k, f.has k → w.heap.size ≤ k
theorem New.ext {w w' : World} {L : List Fact} (h : New w w' L) : Ext0 w w' := h.1
theorem New.one {w w' : World} {f : Fact} (e : Ext0 w w') (h : f.holds w') (hd : ∀ k, f.has k → w.heap.size ≤ k) : New w w' [f] :=
  ⟨e, All.cons h All.nil, Pw.one f, fun g hg => by rcases List.mem_cons.1 hg with rfl | hg; exact hd; cases hg⟩
/-- What a call may write: the blocks of those facts that are not only read. -/
def hasW (L : List Fact) (k : Nat) : Prop := ∃ f ∈ L, f.ro = false ∧ f.has k
/-- What a call has written: facts in the place of facts. -/
def Upd (w w' : World) (L L' : List Fact) : Prop := Ext (hasW L) w w' ∧ All w' L' ∧ Pw L' ∧ ∀ f ∈ L', ∀ k, f.has k → k < w.heap.size → hasW L k
def dropIx : List Fact → List Nat → Nat → List Fact
  | [], _, _ => []
  | f :: L, is, i => if is.contains i then dropIx L is (i + 1) else f :: dropIx L is (i + 1)
theorem dropIx_mem {f : Fact} : ∀ {L : List Fact} {is : List Nat} {i : Nat}, f ∈ dropIx L is i → ∃ j, j + i ∉ is ∧ L[j]? = some f
  | [], _, _, h => by cases h
  | g :: L, is, i, h => by
    unfold dropIx at h
    split at h
    · obtain ⟨j, h1, h2⟩ := dropIx_mem h
      exact ⟨j + 1, by rwa [Nat.add_assoc, Nat.add_comm 1], by simpa using h2⟩
    · rename_i hc
      rcases List.mem_cons.1 h with rfl | h
      · exact ⟨0, by simpa using hc, by simp⟩
      · obtain ⟨j, h1, h2⟩ := dropIx_mem h
        exact ⟨j + 1, by rwa [Nat.add_assoc, Nat.add_comm 1], by simpa using h2⟩
theorem dropIx_sub : ∀ (L : List Fact) (is : List Nat) (i : Nat), (dropIx L is i).Sublist L
  | [], _, _ => List.Sublist.refl _
  | g :: L, is, i => by
    unfold dropIx
    split
    · exact (dropIx_sub L is (i + 1)).cons _
    · exact (dropIx_sub L is (i + 1)).cons_cons _
/-- All that is known in a call that began at 'w0' and may write 'S' of what was there: one hypothesis. -/
structure Bu (w0 : World) (S : Nat → Prop) (w : World) (L : List Fact) : Prop where
  all : All w L
  pw : Pw L
  hi : ∀ f ∈ L, f.ro = false → ∀ k, f.has k → k < w0.heap.size → S k
  ext : Ext S w0 w
section
variable {w0 w w' : World} {S : Nat → Prop} {L : List Fact}
theorem Bu.init (H : All w L) (P : Pw L) : Bu w (hasW L) w L := ⟨H, P, fun f hf hr _ hk _ => ⟨f, hf, hr, hk⟩, Ext.refl _ _⟩
theorem Bu.ro (H : All w L) (h : L.all Fact.ro = true) : Bu w no w L := ⟨H, Pw.ro h, fun f hf hr => (by have := List.all_eq_true.1 h f hf; rw [hr] at this; cases this), Ext.refl _ _⟩
theorem Bu.ext0 (B : Bu w0 S w L) (e : Ext0 w w') : Bu w0 S w' L := ⟨B.all.ext0 e, B.pw, B.hi, B.ext.trans e.any⟩
theorem Bu.b (B : Bu w0 S w L) (i : Nat) {b T : Nat} {cs : List Value} (h : L[i]? = some (.blk b cs T)) : Blk w b cs T := B.all.get i h
theorem Bu.s (B : Bu w0 S w L) (i : Nat) {a : Option Addr} {cs : List Value} (h : L[i]? = some (.sl a cs)) : Sl w a cs := B.all.get i h
theorem Bu.r {α : Type} {k : Kd α} (B : Bu w0 S w L) (i : Nat) {a : Option Addr} {n : Nat} {X : List α} (h : L[i]? = some (.rd k a n X)) : Rd w k a n X := B.all.get i h
theorem Bu.o {α : Type} {k : Kd α} (B : Bu w0 S w L) (i : Nat) {a : Option Addr} {n c T : Nat} {X : List α} (h : L[i]? = some (.ow k a n c T X)) : Ow w k a n c T X := B.all.get i h
/-- Something new. -/
theorem Bu.new (B : Bu w0 S w L) {L' : List Fact} (N : New w w' L') : Bu w0 S w' (L' ++ L) := by
  obtain ⟨e, h1, h2, h3⟩ := N
  refine ⟨h1.app (B.all.ext0 e), h2.app B.pw fun f hf g hg => .inr fun k a b => Nat.not_lt.2 (h3 f hf k a) (Fact.lt (B.all g hg) k b), fun f hf hr k hk hl => ?_, B.ext.trans e.any⟩
  rcases List.mem_append.1 hf with hf | hf
  · exact absurd hl (Nat.not_lt.2 (Nat.le_trans B.ext.size (h3 f hf k hk)))
  · exact B.hi f hf hr k hk hl
/-- Some facts are replaced by what was written in their place. -/
theorem Bu.upd (B : Bu w0 S w L) (is : List Nat) {L1 L2 : List Fact} (h : is.map (fun i => L[i]?) = L1.map some) (U : Upd w w' L1 L2) : Bu w0 S w' (L2 ++ dropIx L is 0) := by
  obtain ⟨e, h1, h2, h3⟩ := U
  have hw : ∀ k, hasW L1 k → ∃ f j, j ∈ is ∧ L[j]? = some f ∧ f.ro = false ∧ f.has k := fun k hk => by
    obtain ⟨f, hf, hr, hh⟩ := hk
    have : some f ∈ is.map (fun i => L[i]?) := by rw [h]; exact List.mem_map.2 ⟨f, hf, rfl⟩
    obtain ⟨j, hj, hjf⟩ := List.mem_map.1 this
    exact ⟨f, j, hj, hjf, hr, hh⟩
  have apart : ∀ g ∈ dropIx L is 0, ∀ k, g.has k → hasW L1 k → False := fun g hg k hgk hk => by
    obtain ⟨f, j, hj, hjf, hr, hh⟩ := hw k hk
    obtain ⟨i, hi, hig⟩ := dropIx_mem hg
    exact (B.pw.rel' (fun e => hi (by rw [Nat.add_zero, ← e]; exact hj)) hjf hig).ap hr k hh hgk
  refine ⟨h1.app fun g hg => Fact.keep (B.all g ((dropIx_sub L is 0).subset hg)) e (apart g hg), h2.app (B.pw.sublist (dropIx_sub L is 0)) fun f hf g hg => .inr fun k a b => ?_, fun f hf hr k hk hl => ?_, B.ext.fresh e fun k hk hl => ?_⟩
  · have hlt := Fact.lt (B.all g ((dropIx_sub L is 0).subset hg)) k b
    exact apart g hg k b (h3 f hf k a hlt)
  · rcases List.mem_append.1 hf with hf | hf
    · obtain ⟨f', j, hj, hjf, hr', hh⟩ := hw k (h3 f hf k hk (Nat.lt_of_lt_of_le hl B.ext.size))
      exact B.hi f' (List.mem_of_getElem? hjf) hr' k hh hl
    · exact B.hi f ((dropIx_sub L is 0).subset hf) hr k hk hl
  · obtain ⟨f', j, hj, hjf, hr', hh⟩ := hw k hk
    exact B.hi f' (List.mem_of_getElem? hjf) hr' k hh hl
theorem Bu.pick (B : Bu w0 S w L) (is : List Nat) {fs : List Fact} (h : is.map (fun i => L[i]?) = fs.map some) (hn : nodupB is = true) : Bu w0 S w fs :=
  ⟨B.all.pick is h, B.pw.pick is h hn, fun f hf => by
    have : some f ∈ is.map (fun i => L[i]?) := by rw [h]; exact List.mem_map.2 ⟨f, hf, rfl⟩
    obtain ⟨j, _, hjf⟩ := List.mem_map.1 this
    exact B.hi f (List.mem_of_getElem? hjf), B.ext⟩
/-- What a call gives back: facts on what it made. -/
theorem Bu.give (B : Bu w0 no w L) (is : List Nat) {fs : List Fact} (h : is.map (fun i => L[i]?) = fs.map some) (hn : nodupB is = true) (hr : fs.all (fun f => !f.ro) = true) : New w0 w fs := by
  have B' := B.pick is h hn
  refine ⟨B.ext, B'.all, B'.pw, fun f hf k hk => Nat.not_lt.1 fun hl => ?_⟩
  have := List.all_eq_true.1 hr f hf
  exact B'.hi f hf (by simpa using this) k hk hl
/-- What a call gives back: facts on what it wrote. -/
theorem Bu.wrote {L1 : List Fact} (B : Bu w0 (hasW L1) w L) (is : List Nat) {fs : List Fact} (h : is.map (fun i => L[i]?) = fs.map some) (hn : nodupB is = true) (hr : fs.all (fun f => !f.ro) = true) : Upd w0 w L1 fs := by
  have B' := B.pick is h hn
  refine ⟨B.ext, B'.all, B'.pw, fun f hf k hk hl => ?_⟩
  have := List.all_eq_true.1 hr f hf
  exact B'.hi f hf (by simpa using this) k hk hl
/-- A fact is told in other words. -/
theorem Bu.cast (B : Bu w0 S w L) (i : Nat) {f f' : Fact} (h : L[i]? = some f) (hf : f'.holds w) (hr : f'.ro = f.ro) (hh : ∀ k, f'.has k → f.has k) : Bu w0 S w (L.set i f') := by
  have hmem := List.mem_of_getElem? h
  have hset : ∀ g ∈ L.set i f', ∃ g' ∈ L, g.ro = g'.ro ∧ ∀ k, g.has k → g'.has k := fun g hg => by
    rcases List.mem_or_eq_of_mem_set hg with hg | rfl
    · exact ⟨g, hg, rfl, fun _ h => h⟩
    · exact ⟨f, hmem, hr, hh⟩
  refine ⟨fun g hg => ?_, ?_, fun g hg hgr k hk hl => ?_, B.ext⟩
  · rcases List.mem_or_eq_of_mem_set hg with hg | rfl
    · exact B.all g hg
    · exact hf
  · refine List.pairwise_iff_getElem.2 fun a b ha hb hab => ?_
    have ha' : a < L.length := by simpa using ha
    have hb' : b < L.length := by simpa using hb
    have key := List.pairwise_iff_getElem.1 B.pw a b ha' hb' hab
    obtain ⟨hil, hif⟩ := List.getElem?_eq_some_iff.1 h
    rw [List.getElem_set, List.getElem_set]
    split
    · rename_i hia
      subst hia
      rw [if_neg (by omega)]
      rw [hif] at key
      exact key.elim (fun x => .inl ⟨hr.trans x.1, x.2⟩) fun x => .inr fun k p q => x k (hh k p) q
    · split
      · rename_i hib
        subst hib
        rw [hif] at key
        exact key.elim (fun x => .inl ⟨x.1, hr.trans x.2⟩) fun x => .inr fun k p q => x k p (hh k q)
      · exact key
  · obtain ⟨g', h1, h2, h3⟩ := hset g hg
    exact B.hi g' h1 (h2 ▸ hgr) k (h3 k hk) hl
theorem Bu.castX {α : Type} {k : Kd α} (B : Bu w0 S w L) (i : Nat) {a : Option Addr} {n n' c T : Nat} {X X' : List α} (h : L[i]? = some (.ow k a n c T X)) (hn : n = n') (hX : X = X') : Bu w0 S w (L.set i (.ow k a n' c T X')) := by
  subst hn; subst hX
  exact B.cast i h (B.o i h) rfl fun _ h => h
/-- One fact was written. -/
theorem Bu.set (B : Bu w0 S w L) (i : Nat) {f f' : Fact} {T : Nat → Prop} (h : L[i]? = some f) (hw : f.ro = false) (e : Ext T w w') (hT : ∀ k, T k → f.has k) (hf' : f'.holds w') (hat : ∀ k, f'.has k → f.has k ∨ w.heap.size ≤ k) : Bu w0 S w' (f' :: dropIx L [i] 0) := by
  have hW : ∀ k, f.has k → hasW [f] k := fun k hk => ⟨f, by simp, hw, hk⟩
  refine B.upd (L1 := [f]) (L2 := [f']) [i] (by simp [h]) ⟨e.mono fun k hk => hW k (hT k hk), All.cons hf' All.nil, Pw.one _, fun g hg k hk hl => ?_⟩
  rcases List.mem_cons.1 hg with rfl | hg
  · rcases hat k hk with h1 | h1
    · exact hW k h1
    · exact absurd hl (Nat.not_lt.2 h1)
  · cases hg
/-- The facts 'i' and 'j' are apart. -/
theorem Bu.ap (B : Bu w0 S w L) (i j : Nat) {f g : Fact} (hi : L[i]? = some f) (hj : L[j]? = some g) (hij : (i != j) = true) (hg : g.ro = false) : ∀ k, f.has k → g.has k → False :=
  fun k a b => (B.pw.rel' (by simpa using fun e => by simp [e] at hij) hj hi).ap hg k b a
theorem Bu.keep (B : Bu w0 S w L) (i j : Nat) {f g : Fact} {T : Nat → Prop} (hi : L[i]? = some f) (hj : L[j]? = some g) (hij : (i != j) = true) (hg : g.ro = false) (e : Ext T w w') (hT : ∀ k, T k → g.has k) : f.holds w' :=
  Fact.keep (B.all.get i hi) e fun k a b => B.ap i j hi hj hij hg k a (hT k b)
theorem Bu.sub (B : Bu w0 S w L) {L' : List Fact} (h : L'.Sublist L) : Bu w0 S w L' := ⟨fun f hf => B.all f (h.subset hf), B.pw.sublist h, fun f hf => B.hi f (h.subset hf), B.ext⟩
end
end Go.Wv

/- Kinds of elements, and the operations on lists. -/
namespace Go.Wv
def kF : Kd Nat := ⟨1, fun x cs => ∃ r, cs = [.float .f32 r] ∧ Cn .f32 r x, by decide, fun ⟨_, h, _⟩ => by subst h; rfl, fun ⟨_, h, _⟩ => by subst h; simp [Value.oneCell']⟩
def kI : Kd Int := ⟨1, fun x cs => cs = [.int .i64 x], by decide, fun h => by subst h; rfl, fun h => by subst h; simp [Value.oneCell']⟩
def kB : Kd Bool := ⟨1, fun x cs => cs = [.bool x], by decide, fun h => by subst h; rfl, fun h => by subst h; simp [Value.oneCell']⟩
def kP : Kd (Int × Int) := ⟨2, fun x cs => cs = [.int .i64 x.1, .int .i64 x.2], by decide, fun h => by subst h; rfl, fun h => by subst h; simp [Value.oneCell']⟩
/-- A source: place, hard, wave. -/
structure Src where
  (x y : Int) (hd : Bool) (kd tt ln : Int) (tn sz : Nat) (sd : Int)
deriving Inhabited
def kS : Kd Src := ⟨9, fun s cs => ∃ r1 r2, cs = [.int .i64 s.x, .int .i64 s.y, .bool s.hd, .int .i64 s.kd, .int .i64 s.tt, .int .i64 s.ln, .float .f32 r1, .float .f32 r2, .int .i64 s.sd] ∧ Cn .f32 r1 s.tn ∧ Cn .f32 r2 s.sz,
  by decide, fun ⟨_, _, h, _⟩ => by subst h; rfl, fun ⟨_, _, h, _⟩ => by subst h; simp [Value.oneCell']⟩
/-- Cells in a row, from 'j' on. -/
def Row (w : World) (a : Option Addr) (j : Nat) (cs : List Value) : Prop := ∀ i u, cs[i]? = some u → ∃ b off, a = some ⟨b, off, none⟩ ∧ w.cell? ⟨b, off + j + i, none⟩ = some u
section
variable {w w' : World} {a : Option Addr} {j : Nat} {cs : List Value} {S : Nat → Prop}
theorem Row.cell (h : Row w a j cs) {i : Nat} {u : Value} (hu : cs[i]? = some u) : w.cell? (sat a (j + i)) = some u := by
  obtain ⟨b, off, rfl, hc⟩ := h i u hu
  simp only [sat]; rw [← Nat.add_assoc]; exact hc
theorem Row.ext (h : Row w a j cs) (e : Ext S w w') (hn : ∀ k, inA a k → S k → False) : Row w' a j cs := fun i u hu => by
  obtain ⟨b, off, rfl, hc⟩ := h i u hu
  exact ⟨b, off, rfl, cell_ext hc e (fun hs => hn b rfl hs)⟩
theorem Row.ext0 (h : Row w a j cs) (e : Ext0 w w') : Row w' a j cs := h.ext e fun _ _ h => h.elim
theorem Row.addr (h : Row w a j cs) (hne : 0 < cs.length) : ∃ b off, a = some ⟨b, off, none⟩ := by
  obtain ⟨b, off, ha, _⟩ := h 0 _ (List.getElem?_eq_getElem hne)
  exact ⟨b, off, ha⟩
end
section
variable {α : Type} {k : Kd α} {w w' : World} {a : Option Addr} {n c T : Nat} {X : List α}
theorem Rd.len (h : Rd w k a n X) : X.length = n := let ⟨_, h, _⟩ := h; h
theorem Ow.len (h : Ow w k a n c T X) : X.length = n := let ⟨_, h, _⟩ := h; h
theorem Ow.rd (h : Ow w k a n c T X) : Rd w k a n X := let ⟨cs, h1, h2, h3⟩ := h; ⟨cs, h1, h2, h3.sl⟩
theorem Rd.ext0 (h : Rd w k a n X) (e : Ext0 w w') : Rd w' k a n X := Fact.keep0 (f := .rd k a n X) h e
theorem Ow.ext0 (h : Ow w k a n c T X) (e : Ext0 w w') : Ow w' k a n c T X := Fact.keep0 (f := .ow k a n c T X) h e
theorem Rd.nil (w : World) (k : Kd α) (a : Option Addr) : Rd w k a 0 [] := ⟨[], rfl, rfl, Sl.nil _ _⟩
theorem Ow.nil (w : World) (k : Kd α) (T : Nat) : Ow w k none 0 0 T [] := ⟨[], rfl, rfl, Own.nil w 0 T k.sz⟩
theorem Rd.cast (h : Rd w k a n X) {n' : Nat} {X' : List α} (hn : n = n') (hX : X = X') : Rd w k a n' X' := by subst hn; subst hX; exact h
theorem New.nilO (w : World) (k : Kd α) (T : Nat) : New w w [.ow k none 0 0 T ([] : List α)] := New.one (Ext.refl _ _) (Ow.nil w k T) fun _ h => by simp [Fact.has, inA] at h
theorem Rd.addr (h : Rd w k a n X) (h0 : 0 < n) : ∃ b off, a = some ⟨b, off, none⟩ := by
  obtain ⟨cs, h1, h2, h3⟩ := h
  refine h3.addr ?_
  rw [reps_len h2, h1]
  exact Nat.mul_pos h0 k.pos
theorem Rd.at [Inhabited α] (h : Rd w k a n X) (i : Int) (h0 : 0 ≤ i) (h1 : i < (n : Int)) : ∃ c, k.rep (gl X i) c ∧ Row w a (i.toNat * k.sz) c := by
  obtain ⟨cs, h2, h3, h4⟩ := h
  obtain ⟨c, hc, hx⟩ := reps_at h3 h0 (by omega)
  refine ⟨c, hc, fun j u hj => ?_⟩
  obtain ⟨b, off, ha, hcell⟩ := h4 _ u (hx j u hj)
  exact ⟨b, off, ha, by rw [Nat.add_assoc]; exact hcell⟩
theorem Rd.atF {X : List Nat} (h : Rd w kF a n X) (i : Int) (h0 : 0 ≤ i) (h1 : i < (n : Int)) : ∃ r, Cn .f32 r (el X i) ∧ Row w a (i.toNat * 1) [.float .f32 r] := by
  obtain ⟨_, ⟨r, rfl, hr⟩, hR⟩ := h.at i h0 h1
  exact ⟨r, hr, hR⟩
theorem Rd.atI {X : List Int} (h : Rd w kI a n X) (i : Int) (h0 : 0 ≤ i) (h1 : i < (n : Int)) : Row w a (i.toNat * 1) [.int .i64 (gl X i)] := by
  obtain ⟨_, rfl, hR⟩ := h.at i h0 h1
  exact hR
theorem Rd.atB {X : List Bool} (h : Rd w kB a n X) (i : Int) (h0 : 0 ≤ i) (h1 : i < (n : Int)) : Row w a (i.toNat * 1) [.bool (gl X i)] := by
  obtain ⟨_, rfl, hR⟩ := h.at i h0 h1
  exact hR
theorem Rd.atP {X : List (Int × Int)} (h : Rd w kP a n X) (i : Int) (h0 : 0 ≤ i) (h1 : i < (n : Int)) : Row w a (i.toNat * 2) [.int .i64 (gl X i).1, .int .i64 (gl X i).2] := by
  obtain ⟨_, rfl, hR⟩ := h.at i h0 h1
  exact hR
theorem Rd.atS {X : List Src} (h : Rd w kS a n X) (i : Int) (h0 : 0 ≤ i) (h1 : i < (n : Int)) : ∃ r1 r2, Cn .f32 r1 (gl X i).tn ∧ Cn .f32 r2 (gl X i).sz ∧
    Row w a (i.toNat * 9) [.int .i64 (gl X i).x, .int .i64 (gl X i).y, .bool (gl X i).hd, .int .i64 (gl X i).kd, .int .i64 (gl X i).tt, .int .i64 (gl X i).ln, .float .f32 r1, .float .f32 r2, .int .i64 (gl X i).sd] := by
  obtain ⟨_, ⟨r1, r2, rfl, h1, h2⟩, hR⟩ := h.at i h0 h1
  exact ⟨r1, r2, h1, h2, hR⟩
/-- A part of a list. -/
def soff (a : Option Addr) (j : Nat) : Option Addr := a.map fun a => ⟨a.block, a.off + j, none⟩
theorem Rd.sub (h : Rd w k a n X) (lo hi : Nat) (h0 : lo ≤ hi) (h1 : hi ≤ n) : Rd w k (soff a (lo * k.sz)) (hi - lo) ((X.drop lo).take (hi - lo)) := by
  obtain ⟨cs, h2, h3, h4⟩ := h
  have e : X = X.take lo ++ ((X.drop lo).take (hi - lo) ++ (X.drop lo).drop (hi - lo)) := by rw [List.take_append_drop, List.take_append_drop]
  have hl : (X.take lo).length = lo := by rw [List.length_take]; omega
  rw [e] at h3
  obtain ⟨_, h5⟩ := reps_split h3
  obtain ⟨h6, _⟩ := reps_split h5
  have hm : ((X.drop lo).take (hi - lo)).length = hi - lo := by rw [List.length_take, List.length_drop]; omega
  refine ⟨_, hm, h6, fun j u hj => ?_⟩
  rw [List.getElem?_take] at hj
  split at hj
  · rw [List.getElem?_drop, hl] at hj
    obtain ⟨b, off, rfl, hc⟩ := h4 _ _ hj
    exact ⟨b, off + lo * k.sz, rfl, by rw [Nat.add_assoc]; exact hc⟩
  · cases hj
end
section
variable {P : Program} {ρ : Env} {w : World} {d : Option Tmp} {ty : TypeId} {pos : String} {aft : Array Edge} {g : Option (Nat × Bool)} {x y z : Operand} {v u : Value} {K : Value → World → Prop}
theorem y_loadR {T n j : Nat} {a : Option Addr} {vs : List Value} (hB : aggB P T n = true) (h : ev ρ x = .pointer (some (sat a j))) (hn : vs.length = n) (h0 : 0 < n) (hR : Row w a j vs) :
    Yv P ρ ⟨d, .load T x, ty, pos, aft, g⟩ (.agg vs.toArray) w := by
  obtain ⟨b, off, rfl⟩ := hR.addr (by omega)
  refine y_loadn (o := off + j) hB h hn fun i u hu => ?_
  obtain ⟨b', off', he, hc⟩ := hR i u hu
  cases he
  exact hc
/-- Part of a row's cells, as a struct. -/
theorem Row.part {a : Option Addr} {j o m : Nat} {cs vs : List Value} (h : Row w a j cs) (hv : (cs.drop o).take m = vs) : Row w a (j + o) vs := fun i u hu => by
  subst hv
  rw [List.getElem?_take] at hu
  split at hu
  · rw [List.getElem?_drop] at hu
    obtain ⟨b, off, ha, hc⟩ := h _ _ hu
    exact ⟨b, off, ha, by rw [← hc]; congr 2; omega⟩
  · cases hu
theorem k_boxN {T : Nat} {cs : List Value} (hx : ev ρ x = v) (hc : v.cells.toList = cs) (h : ∀ b w', New w w' [.blk b cs T] → K (.pointer (some ⟨b, 0, none⟩)) w') :
    opk P ⟨d, .box T x, ty, pos, aft, g⟩ ρ w K :=
  k_box hx hc fun b w' hb e hB => h b w' (New.one e hB fun k hk => by cases hk; exact Nat.le_of_eq hb.symm)
theorem k_allocN {T : Nat} {z : Value} {cs : List Value} (hz : zeroB P T z) (hc : z.cells.toList = cs) (h : ∀ b w', New w w' [.blk b cs T] → K (.pointer (some ⟨b, 0, none⟩)) w') :
    opk P ⟨d, .alloc T, ty, pos, aft, g⟩ ρ w K :=
  k_alloc hz hc fun b w' hb e hB => h b w' (New.one e hB fun k hk => by cases hk; exact Nat.le_of_eq hb.symm)
theorem New.ge {w w' : World} {b : Nat} {cs : List Value} {T : Nat} (h : New w w' [.blk b cs T]) : w.heap.size ≤ b := h.2.2.2 (.blk b cs T) (List.mem_singleton.2 rfl) b rfl
section
variable {α : Type} {k : Kd α}
theorem new_own {w w' : World} {b n c e : Nat} {X : List α} {cs : List Value} (hb : b = w.heap.size) (e0 : Ext0 w w') (hl : X.length = n) (hX : Reps k X cs) (ho : Own w' w.heap.size (some ⟨b, 0, none⟩) n c e k.sz cs) : New w w' [.ow k (some ⟨b, 0, none⟩) n c e X] :=
  New.one e0 ⟨cs, hl, hX, ho.base (Nat.zero_le _)⟩ fun q hq => by
    have : b = q := by simpa [Fact.has, inA] using hq
    omega
theorem flatten_madeCells (z : Value) (s n : Nat) (hs : z.cells.size = s) (h0 : 0 < s) : (madeCells z.cells (n * s)).toList = (List.replicate n z.cells.toList).flatten := by
  have h1 := made_flat (f := fun (_ : Unit) => z.cells.toList) (s := s) (fun _ => by simpa using hs) h0 (z := z) () rfl n
  rw [h1]
  unfold flat
  induction n with
  | zero => rfl
  | succ n ih =>
    rw [List.replicate_succ, List.replicate_succ, List.flatMap_cons, List.flatten_cons]
    congr 1
    have h2 := made_flat (f := fun (_ : Unit) => z.cells.toList) (s := s) (fun _ => by simpa using hs) h0 (z := z) () rfl n
    exact ih h2
theorem k_mkO {T e bytes : Nat} {z : Value} {z0 : α} {m : Int} (hT : SlT P T e k.sz bytes z) (hz : k.rep z0 z.cells.toList) (hx : ev ρ x = .int .i64 m) (hy : ev ρ y = .int .i64 m) (h0 : 0 ≤ m) (h1 : (bytes : Int) * m ≤ 140737488355328) (h2 : m ≤ 9223372036854775807)
    (h : ∀ b w', New w w' [.ow k (some ⟨b, 0, none⟩) m.toNat m.toNat e (List.replicate m.toNat z0)] → K (.slice (some ⟨b, 0, none⟩) m.toNat m.toNat) w') :
    opk P ⟨d, .makeSlice T x y, ty, pos, aft, g⟩ ρ w K :=
  k_mk hT hx hy h0 h1 h2 fun b w' hb e0 ho => h b w' (new_own hb e0 (by simp) (by
    rw [flatten_madeCells z k.sz m.toNat hT.2.2.1 k.pos]; exact reps_rep hz _) ho)
theorem k_bsliceO {T e bytes n : Nat} {z : Value} {parts : Array (Nat × Operand)} {cells : Array Value} {X : List α} (hT : SlT P T e k.sz bytes z) (hn : n * k.sz ≤ 16777216)
    (hf : Instr.fill (fun i => some (i * k.sz, k.sz)) (madeCells z.cells (n * k.sz)) (parts.map fun (i, x) => (i, ev ρ x)).toList = some cells) (hX : Reps k X cells.toList) (hl : X.length = n)
    (h : ∀ b w', New w w' [.ow k (some ⟨b, 0, none⟩) n n e X] → K (.slice (some ⟨b, 0, none⟩) n n) w') :
    opk P ⟨d, .buildSlice T n parts, ty, pos, aft, g⟩ ρ w K :=
  k_bslice hT hn hf (by have := reps_len hX; rw [hl] at this; simpa using this) fun b w' hb e0 ho => h b w' (new_own hb e0 hl hX ho)
/-- An append to a list of the call's own. -/
theorem k_appO {T e bytes : Nat} {z : Value} {ts : Array TypeId} (hT : SlT P T e k.sz bytes z) (hts : ts = #[T, T]) {n c m cm : Nat} {a ad : Option Addr} {X Y : List α} (hx : ev ρ x = .slice a n c) (hy : ev ρ y = .slice ad m cm)
    (ho : Ow w k a n c e X) (hs : Rd w k ad m Y) (hb : (n + m) * bytes ≤ 140737488355328) (hm : n + m ≤ maxLen)
    (h : ∀ a' c' w', Upd w w' [.ow k a n c e X] [.ow k a' (n + m) c' e (X ++ Y)] → K (.slice a' (n + m) c') w') :
    opk P ⟨d, .call { callee := .builtin .append, args := #[x, y], argTypes := ts }, ty, pos, aft, g⟩ ρ w K := by
  obtain ⟨cs, h1, h2, h3⟩ := ho
  obtain ⟨ds, h4, h5, h6⟩ := hs
  refine k_append hT hts hx hy h3 h6 (by rw [reps_len h5, h4]) (reps_cell h5) hb hm (Nat.zero_le _) fun a' c' w' e0 ho' hk => h a' c' w' ?_
  refine ⟨e0.mono fun q hq => ⟨_, List.mem_singleton.2 rfl, rfl, hq⟩, All.cons ⟨cs ++ ds, by rw [List.length_append, h1, h4], reps_app h2 h5, ho'⟩ All.nil, Pw.one _, fun f hf q hq hl => ?_⟩
  rcases List.mem_cons.1 hf with rfl | hf
  · rcases hk q hq with h | h
    · exact ⟨_, List.mem_singleton.2 rfl, rfl, h⟩
    · exact absurd hl (Nat.not_lt.2 h)
  · cases hf
/-- A store into an element of a list of the call's own. -/
theorem k_stO [Inhabited α] {T T' n c i' : Nat} {m : Nat} {a : Option Addr} {X : List α} {i : Int} {j : Nat} {x' : α} {new : List Value} (hB : szB P T m = true) (hx : ev ρ x = .pointer (some (sat a i'))) (hi' : i' = i.toNat * k.sz + j) (hy : ev ρ y = v) (hv : v.cells.toList = new) (hm : new.length = m) (h1 : ∀ u ∈ new, u.oneCell' = true) (hm0 : 0 < m)
    (ho : Ow w k a n c T' X) (h0 : 0 ≤ i) (hl : i < (n : Int)) (hj : j + m ≤ k.sz) (hr : ∀ q, k.rep (gl X i) q → k.rep x' (q.take j ++ new ++ q.drop (j + m)))
    (h : ∀ w', Upd w w' [.ow k a n c T' X] [.ow k a n c T' (pl X i x')] → K undef w') : opk P ⟨d, .store T x y, ty, pos, aft, g⟩ ρ w K := by
  subst hi'
  subst hm
  obtain ⟨cs, h2, h3, h4⟩ := ho
  have hcl := reps_len h3
  have hle : i.toNat * k.sz + j + new.length ≤ cs.length := by
    have : (i.toNat + 1) * k.sz ≤ n * k.sz := Nat.mul_le_mul_right _ (by omega)
    rw [Nat.add_mul, Nat.one_mul] at this
    rw [hcl, h2]; omega
  have hvs : v.cells.size = new.length := by rw [← hv]; simp
  refine k_storeElN (m := new.length) hB hx hy hvs (by rw [hv]; exact h1) hm0 h4 hle rfl fun w' e0 _ ho' => h w' ?_
  refine ⟨e0.mono fun q hq => ⟨_, List.mem_singleton.2 rfl, rfl, hq⟩, All.cons ⟨_, by rw [pl_length, h2], reps_set h3 h0 (by omega) hj hr, by rw [← hv]; rw [← hv] at ho'; exact ho'⟩ All.nil, Pw.one _, fun f hf q hq _ => ?_⟩
  rcases List.mem_cons.1 hf with rfl | hf
  · exact ⟨_, List.mem_singleton.2 rfl, rfl, hq⟩
  · cases hf
end
/-- A store into a block of the call's own. -/
theorem k_stB {T T' b o n : Nat} {cs cs' : List Value} (hB : szB P T n = true) (hx : ev ρ x = .pointer (some ⟨b, o, none⟩)) (hy : ev ρ y = v) (hv : v.cells.size = n) (hb : Blk w b cs T')
    (h1 : ∀ u ∈ v.cells.toList, u.oneCell' = true) (hl : o + n ≤ cs.length) (hc : cs.take o ++ v.cells.toList ++ cs.drop (o + n) = cs')
    (h : ∀ w', Upd w w' [.blk b cs T'] [.blk b cs' T'] → K undef w') : opk P ⟨d, .store T x y, ty, pos, aft, g⟩ ρ w K :=
  k_store hB hx hy hv hb h1 hl hc fun w' e0 _ hb' => h w' ⟨e0.mono fun q hq => ⟨_, List.mem_singleton.2 rfl, rfl, hq⟩, All.cons hb' All.nil, Pw.one _, fun f hf q hq _ => by
    rcases List.mem_cons.1 hf with rfl | hf
    · exact ⟨_, List.mem_singleton.2 rfl, rfl, hq⟩
    · cases hf⟩
theorem Upd.ext {w w' : World} {L L' : List Fact} (h : Upd w w' L L') : Ext (hasW L) w w' := h.1
/-- What is written from a world on that was not there before stays apart from what was. -/
theorem Upd.at1 {w w' : World} {b : Nat} {cs cs' : List Value} {T : Nat} (h : Upd w w' [.blk b cs T] [.blk b cs' T]) : Ext (at1 b) w w' := h.1.mono fun k hk => by
  obtain ⟨f, hf, _, hh⟩ := hk
  rcases List.mem_cons.1 hf with rfl | hf
  · exact hh
  · cases hf
end
section
variable {w0 w w' : World} {S : Nat → Prop} {L : List Fact}
theorem Bu.new1 (B : Bu w0 S w L) {f : Fact} (N : New w w' [f]) : Bu w0 S w' (f :: L) := B.new N
theorem Bu.new2 (B : Bu w0 S w L) {f g : Fact} (N : New w w' [f, g]) : Bu w0 S w' (f :: g :: L) := B.new N
theorem Bu.new3 (B : Bu w0 S w L) {f g h : Fact} (N : New w w' [f, g, h]) : Bu w0 S w' (f :: g :: h :: L) := B.new N
theorem Bu.new4 (B : Bu w0 S w L) {f g h i : Fact} (N : New w w' [f, g, h, i]) : Bu w0 S w' (f :: g :: h :: i :: L) := B.new N
/-- In a region that writes what fact 'j' speaks of. -/
theorem Bu.bx (B : Bu w0 S w L) (i j : Nat) {b T : Nat} {cs : List Value} {g : Fact} {U : Nat → Prop} (hi : L[i]? = some (.blk b cs T)) (hj : L[j]? = some g) (hij : (i != j) = true) (hg : g.ro = false) (e : Ext U w w') (hU : ∀ k, U k → g.has k) : Blk w' b cs T :=
  B.keep i j hi hj hij hg e hU
theorem Bu.sx (B : Bu w0 S w L) (i j : Nat) {a : Option Addr} {cs : List Value} {g : Fact} {U : Nat → Prop} (hi : L[i]? = some (.sl a cs)) (hj : L[j]? = some g) (hij : (i != j) = true) (hg : g.ro = false) (e : Ext U w w') (hU : ∀ k, U k → g.has k) : Sl w' a cs :=
  B.keep i j hi hj hij hg e hU
theorem Bu.rowr {α : Type} {k : Kd α} (B : Bu w0 S w L) (i j : Nat) {a : Option Addr} {n q : Nat} {X : List α} {cs : List Value} {g : Fact} {U : Nat → Prop} (hi : L[i]? = some (.rd k a n X)) (hj : L[j]? = some g) (hij : (i != j) = true) (hg : g.ro = false) (hn : 0 < n) (hR : Row w a q cs) (e : Ext U w w') (hU : ∀ k, U k → g.has k) : Row w' a q cs :=
  hR.ext e fun kx h1 h2 => B.ap i j hi hj hij hg kx ⟨by omega, h1⟩ (hU kx h2)
theorem Bu.rowo {α : Type} {k : Kd α} (B : Bu w0 S w L) (i j : Nat) {a : Option Addr} {n c T q : Nat} {X : List α} {cs : List Value} {g : Fact} {U : Nat → Prop} (hi : L[i]? = some (.ow k a n c T X)) (hj : L[j]? = some g) (hij : (i != j) = true) (hg : g.ro = false) (hR : Row w a q cs) (e : Ext U w w') (hU : ∀ k, U k → g.has k) : Row w' a q cs :=
  hR.ext e fun kx h1 h2 => B.ap i j hi hj hij hg kx h1 (hU kx h2)
theorem Upd.atA {α : Type} {k : Kd α} {a : Option Addr} {n c T : Nat} {X : List α} {L' : List Fact} (h : Upd w w' [.ow k a n c T X] L') : Ext (inA a) w w' := h.1.mono fun q hq => by
  obtain ⟨f, hf, _, hh⟩ := hq
  rcases List.mem_cons.1 hf with rfl | hf
  · exact hh
  · cases hf
end
end Go.Wv

/- Marks, equal kinds of floats, and what the rows give. -/
namespace Go.Wv
theorem not_fne_el_marks {n : Nat} {k i : Int} (h0 : 0 ≤ i) (h1 : i < (n : Int)) : ¬ fne .f32 (el (marks k n) i) (FloatKind.nearest .f32 (k + i)) = true := by
  rw [el_marks h0 h1, fne_marks]; simp
theorem pmark_put {n : Nat} {zs : List (Int × Int)} {k j : Int} {u : Int} (hl : zs.length = n) (h0 : 0 ≤ j) (h1 : j < (n : Int)) (h : ∀ i, 0 ≤ i → i < j → gl zs i = (k + 2 * i, k + 2 * i + 1)) :
    ∀ i, 0 ≤ i → i < j + 1 → gl (pl (pl zs j (k + 2 * j, u)) j ((gl (pl zs j (k + 2 * j, u)) j).1, k + 2 * j + 1)) i = (k + 2 * i, k + 2 * i + 1) := fun i h2 h3 => by
  rw [gl_pl h0 (by rw [pl_length]; omega) _ _ h2]
  by_cases e : i = j
  · subst e; rw [if_pos rfl, gl_pl h0 (by omega) _ _ h0, if_pos rfl]
  · rw [if_neg e, gl_pl h0 (by omega) _ _ h2, if_neg e]; exact h i h2 (by omega)
theorem Pw.nils {L : List Fact} (h : ∀ f ∈ L, ∀ k, ¬ f.has k) : Pw L :=
  List.pairwise_iff_getElem.2 fun _ _ hi _ _ => .inr fun k hk _ => h _ (List.getElem_mem hi) k hk
theorem no_none {α : Type} {kd : Kd α} {n c T : Nat} {X : List α} (k : Nat) : ¬ (Fact.ow kd none n c T X).has k := by simp [Fact.has, inA]
theorem Upd.nils {w w' : World} {L L' : List Fact} (h : Upd w w' L L') (hn : ∀ f ∈ L, ∀ k, ¬ f.has k) : Ext0 w w' := h.1.mono fun k ⟨f, hf, _, hh⟩ => absurd hh (hn f hf k)
section
variable {P : Program} {ρ : Env} {w : World} {d : Option Tmp} {ty : TypeId} {pos : String} {aft : Array Edge} {g : Option (Nat × Bool)} {x : Operand}
theorem y_same {S T : Nat} {k : FloatKind} {b : Nat} (hS : P.underlying S = some (.float k)) (hT : P.underlying T = some (.float k)) (hx : ev ρ x = .float k b) : Yv P ρ ⟨d, .convert S T x, ty, pos, aft, g⟩ (.float k b) w := by
  simp [Yv, execOp, convert, hx, run_underlying hS, run_underlying hT, Conv.floatToFloat]
end
section
variable {P : Program} {ρ : Env} {w : World} {d : Option Tmp} {ty : TypeId} {pos : String} {aft : Array Edge} {g : Option (Nat × Bool)} {x : Operand}
theorem y_sliceO {T e s n c : Nat} {lo hi : Int} {a : Option Addr} {k k' : IntKind} {l h : Operand} (hB : slB P T e s = true) (hx : ev ρ x = .slice a n c) (hl : ev ρ l = .int k lo) (hh : ev ρ h = .int k' hi) (ha : ∃ b off, a = some ⟨b, off, none⟩)
    (h0 : 0 ≤ lo) (h1 : lo ≤ hi) (h2 : hi ≤ c) (h3 : lo < c) :
    Yv P ρ ⟨d, .slice T x (some l) (some h) none, ty, pos, aft, g⟩ (.slice (soff a (lo.toNat * s)) (hi.toNat - lo.toNat) (c - lo.toNat)) w := by
  obtain ⟨b, off, rfl⟩ := ha
  exact y_slice hB hx hl hh h0 h1 h2 h3
end
theorem Ow.cap {α : Type} {w : World} {k : Kd α} {a : Option Addr} {n c T : Nat} {X : List α} (h : Ow w k a n c T X) : n ≤ c := by
  obtain ⟨cs, _, _, h3⟩ := h
  rcases h3.2 with ⟨hv, _⟩ | ⟨g, cap, cur, hv, _, _, hnc, _⟩
  · simp only [Value.slice.injEq] at hv; obtain ⟨_, rfl, rfl⟩ := hv; exact Nat.le_refl _
  · simp only [Value.slice.injEq] at hv; obtain ⟨_, _, rfl⟩ := hv; exact hnc
theorem reps_flts : ∀ x : List Nat, (∀ r ∈ x, r < wid .f32) → Reps kF (cn x) (flts x)
  | [], _ => rfl
  | r :: x, h => ⟨[.float .f32 r], flts x, rfl, ⟨r, rfl, rfl, h r (by simp)⟩, reps_flts x fun q hq => h q (by simp [hq])⟩
theorem Rd.ofF {w : World} {a : Option Addr} {x : List Nat} (hx : ∀ r ∈ x, r < wid .f32) (h : Sl w a (flts x)) : Rd w kF a x.length (cn x) := ⟨flts x, cn_length x, reps_flts x hx, h⟩
theorem reps_prC : ∀ x : List (Int × Int), Reps kP x (flat prC x)
  | [] => rfl
  | p :: x => ⟨prC p, flat prC x, rfl, rfl, reps_prC x⟩
theorem Rd.ofP {w : World} {a : Option Addr} {x : List (Int × Int)} (h : Sl w a (flat prC x)) : Rd w kP a x.length x := ⟨flat prC x, rfl, reps_prC x, h⟩
end Go.Wv

/- Calls that write: what they are given. -/
namespace Go.Wv
section
variable {w0 w w' : World} {S : Nat → Prop} {L : List Fact}
/-- A call begins that may write 'W' and reads 'R'. -/
theorem Bu.initW {W R : List Fact} (H : All w (W ++ R)) (P : Pw (W ++ R)) (hr : R.all Fact.ro = true) : Bu w (hasW W) w (W ++ R) :=
  ⟨H, P, fun f hf hro k hk _ => by
    rcases List.mem_append.1 hf with hf | hf
    · exact ⟨f, hf, hro, hk⟩
    · exact absurd (List.all_eq_true.1 hr f hf) (by rw [hro]; simp), Ext.refl _ _⟩
/-- A fact as one that is only read. -/
theorem Bu.weak (B : Bu w0 S w L) (i : Nat) {f f' : Fact} (h : L[i]? = some f) (hf : f'.holds w) (hr : f'.ro = true) (hh : ∀ k, f'.has k → f.has k) : Bu w0 S w (L.set i f') := by
  have hmem := List.mem_of_getElem? h
  refine ⟨fun g hg => ?_, ?_, fun g hg hgr k hk hl => ?_, B.ext⟩
  · rcases List.mem_or_eq_of_mem_set hg with hg | rfl
    · exact B.all g hg
    · exact hf
  · refine List.pairwise_iff_getElem.2 fun a b ha hb hab => ?_
    have ha' : a < L.length := by simpa using ha
    have hb' : b < L.length := by simpa using hb
    have key := List.pairwise_iff_getElem.1 B.pw a b ha' hb' hab
    obtain ⟨hil, hif⟩ := List.getElem?_eq_some_iff.1 h
    rw [List.getElem_set, List.getElem_set]
    split
    · rename_i hia
      subst hia
      rw [if_neg (by omega)]
      rw [hif] at key
      exact key.elim (fun x => .inl ⟨hr, x.2⟩) fun x => .inr fun k p q => x k (hh k p) q
    · split
      · rename_i hib
        subst hib
        rw [hif] at key
        exact key.elim (fun x => .inl ⟨x.1, hr⟩) fun x => .inr fun k p q => x k p (hh k q)
      · exact key
  · rcases List.mem_or_eq_of_mem_set hg with hg | rfl
    · exact B.hi g hg hgr k hk hl
    · rw [hr] at hgr; cases hgr
theorem Bu.weakO {α : Type} {kd : Kd α} (B : Bu w0 S w L) (i : Nat) {a : Option Addr} {n c T : Nat} {X : List α} (h : L[i]? = some (.ow kd a n c T X)) : Bu w0 S w (L.set i (.rd kd a n X)) :=
  B.weak i h (B.o i h).rd rfl fun _ h => h.2
theorem Bu.weakB (B : Bu w0 S w L) (i : Nat) {b T : Nat} {cs : List Value} (h : L[i]? = some (.blk b cs T)) : Bu w0 S w (L.set i (.sl (some ⟨b, 0, none⟩) cs)) :=
  B.weak i h (B.b i h).sl rfl fun k h => by have := h.2; simp only [inA, Option.map_some, Option.some.injEq] at this; exact this.symm
/-- What is written in own facts of a call is what it may write, or was not there. -/
theorem Bu.out (B : Bu w0 S w L) (is : List Nat) {W : List Fact} (h : is.map (fun i => L[i]?) = W.map some) (e : Ext (hasW W) w w') : Ext S w0 w' :=
  B.ext.fresh e fun k ⟨f, hf, hr, hk⟩ hl => by
    have : some f ∈ is.map (fun i => L[i]?) := by rw [h]; exact List.mem_map.2 ⟨f, hf, rfl⟩
    obtain ⟨j, _, hjf⟩ := List.mem_map.1 this
    exact B.hi f (List.mem_of_getElem? hjf) hr k hk hl
theorem Bu.keepW (B : Bu w0 S w L) (is : List Nat) {W : List Fact} (h : is.map (fun i => L[i]?) = W.map some) (j : Nat) {f : Fact} (hj : L[j]? = some f) (hn : is.contains j = false) (e : Ext (hasW W) w w') : f.holds w' :=
  Fact.keep (B.all.get j hj) e fun k hk ⟨g, hg, hr, hgk⟩ => by
    have : some g ∈ is.map (fun i => L[i]?) := by rw [h]; exact List.mem_map.2 ⟨g, hg, rfl⟩
    obtain ⟨i, hi, hig⟩ := List.mem_map.1 this
    refine (B.pw.rel' (fun e : i = j => ?_) hig hj).ap hr k hgk hk
    subst e
    simp [List.contains_eq_mem, hi] at hn
theorem Bu.keepO {α : Type} {kd : Kd α} (B : Bu w0 S w L) (is : List Nat) {W : List Fact} (h : is.map (fun i => L[i]?) = W.map some) (j : Nat) {a : Option Addr} {n c T : Nat} {X : List α} (hj : L[j]? = some (.ow kd a n c T X)) (hn : is.contains j = false) (e : Ext (hasW W) w w') : Rd w' kd a n X :=
  (show Ow w' kd a n c T X from B.keepW is h j hj hn e).rd
theorem Bu.keepR {α : Type} {kd : Kd α} (B : Bu w0 S w L) (is : List Nat) {W : List Fact} (h : is.map (fun i => L[i]?) = W.map some) (j : Nat) {a : Option Addr} {n : Nat} {X : List α} (hj : L[j]? = some (.rd kd a n X)) (hn : is.contains j = false) (e : Ext (hasW W) w w') : Rd w' kd a n X :=
  B.keepW is h j hj hn e
end
end Go.Wv

