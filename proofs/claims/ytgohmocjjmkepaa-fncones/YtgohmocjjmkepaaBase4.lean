/- Floats: what an operation gives, up to the payload of NaNs ('can': every NaN as one). -/
import Derived.Test.YtgohmocjjmkepaaBase3
set_option linter.unusedSimpArgs false
set_option linter.unusedVariables false
namespace Go.Wv
open Ieee

def nanb (k : FloatKind) (b : Nat) : Bool := (k.format.read b).isNaN
def qnan : FloatKind → Nat
  | .f32 => 2143289344
  | .f64 => 9221120237041090560
def wid (k : FloatKind) : Nat := 2 ^ k.format.width
/-- Canonical bits: every NaN as one; no bit beyond the width. -/
def can (k : FloatKind) (b : Nat) : Nat := if nanb k b then qnan k else b % wid k
def fop (op : BinOp) (k : FloatKind) (x y : Nat) : Nat := (floatBits op k x y).getD (qnan k)

theorem read_mod (k : FloatKind) (b : Nat) : k.format.read (b % wid k) = k.format.read b := by
  have hw : wid k = k.format.signWeight * 2 := by
    unfold wid Format.width Format.signWeight
    rw [Nat.add_assoc, Nat.add_comm 1, Nat.pow_succ]
  have h1 : b % wid k % k.format.signWeight = b % k.format.signWeight := by rw [hw, Nat.mod_mul_right_mod]
  have h2 : b % wid k / k.format.signWeight % 2 = b / k.format.signWeight % 2 := by rw [hw, Nat.mod_mul_right_div_self, Nat.mod_mod]
  unfold Format.read
  simp only [h1, h2]
theorem nanb_mod (k : FloatKind) (b : Nat) : nanb k (b % wid k) = nanb k b := by unfold nanb; rw [read_mod]
theorem nanb_qnan (k : FloatKind) : nanb k (qnan k) = true := by cases k <;> decide
theorem nanb_can (k : FloatKind) (b : Nat) : nanb k (can k b) = nanb k b := by
  unfold can; split
  · rename_i h; rw [nanb_qnan, h]
  · exact nanb_mod k b
theorem can_of_not' {k : FloatKind} {b : Nat} (h : nanb k b = false) : can k b = b % wid k := by simp [can, h]
theorem can_of_not {k : FloatKind} {b : Nat} (h : nanb k b = false) (hb : b < wid k) : can k b = b := by rw [can_of_not' h, Nat.mod_eq_of_lt hb]
theorem can_of_nan {k : FloatKind} {b : Nat} (h : nanb k b = true) : can k b = qnan k := by simp [can, h]
theorem can_qnan (k : FloatKind) : can k (qnan k) = qnan k := can_of_nan (nanb_qnan k)
theorem can_lt (k : FloatKind) (b : Nat) : can k b < wid k := by
  unfold can; split
  · cases k <;> decide
  · exact Nat.mod_lt _ (Nat.two_pow_pos _)
theorem can_can (k : FloatKind) (b : Nat) : can k (can k b) = can k b := by
  by_cases h : nanb k b = true
  · rw [can_of_nan h, can_qnan]
  · exact can_of_not (by rw [nanb_can]; simpa using h) (can_lt k b)
/-- What a word stands for hangs on its canonical bits, but for NaNs. -/
theorem read_can {k : FloatKind} {b : Nat} (h : nanb k b = false) : k.format.read (can k b) = k.format.read b := by rw [can_of_not' h, read_mod]

theorem read_word (f : Format) (neg : Bool) {rung : Nat} (h : rung ≤ f.infRung) : (f.read (f.word neg rung)).isNaN = false := by
  have hs := f.infRung_lt
  have h1 : f.word neg rung % f.signWeight = rung := by
    unfold Format.word
    split
    · rw [Nat.add_mod_left, Nat.mod_eq_of_lt (by omega)]
    · exact Nat.mod_eq_of_lt (by omega)
  unfold Format.read
  simp only [h1]
  split
  · rfl
  · split
    · rfl
    · rw [if_pos (by omega)]; rfl

theorem nanb_write {k : FloatKind} {d : Datum} (h : d.isNaN = false) : nanb k (k.format.write d) = false := by
  unfold nanb
  cases d with
  | number neg mag place =>
    simp only [Format.write, Format.nearest]
    split
    · exact read_word _ _ (Nat.zero_le _)
    · exact read_word _ _ (Nat.min_le_right ..)
  | infinity neg => exact read_word _ _ (Nat.le_refl _)
  | nan neg t => cases h

theorem sum_notNaN {x y d : Datum} (h : x.sum y = some d) : d.isNaN = false := by
  cases x <;> cases y <;> simp only [Datum.sum] at h <;> first | cases h; done | (split at h <;> first | (cases h; rfl) | cases h) | (cases h; rfl)
theorem product_notNaN {x y d : Datum} (h : x.product y = some d) : d.isNaN = false := by
  cases x <;> cases y <;> simp only [Datum.product] at h <;> first | cases h; done | (split at h <;> first | (cases h; rfl) | cases h) | (cases h; rfl)
theorem quotient_notNaN {n : Nat} {x y d : Datum} (h : x.quotient n y = some d) : d.isNaN = false := by
  cases x <;> cases y <;> simp only [Datum.quotient] at h
  all_goals first
    | (cases h; done)
    | (cases h; rfl)
    | (split at h
       · split at h <;> first | (cases h; rfl) | cases h
       · cases h; rfl)

theorem floatBits_notNaN {op : BinOp} {k : FloatKind} {x y r : Nat} (h : floatBits op k x y = some r) : nanb k r = false := by
  unfold floatBits at h
  have key : ∀ {o : Option Datum} (_ : ∀ d, o = some d → d.isNaN = false), o.map k.format.write = some r → nanb k r = false := fun {o} ho hm => by
    cases o with
    | none => cases hm
    | some d => cases hm; exact nanb_write (ho d rfl)
  split at h
  · exact key (fun d => sum_notNaN) h
  · exact key (fun d => sum_notNaN) h
  · exact key (fun d => product_notNaN) h
  · exact key (fun d => quotient_notNaN) h
  · cases h

theorem sum_nan_l {x y : Datum} (h : x.isNaN = true) : x.sum y = none := by cases x <;> first | cases h; done | rfl
theorem sum_nan_r {x y : Datum} (h : y.isNaN = true) : x.sum y = none := by cases y <;> first | cases h; done | (cases x <;> rfl)
theorem product_nan_l {x y : Datum} (h : x.isNaN = true) : x.product y = none := by cases x <;> first | cases h; done | rfl
theorem product_nan_r {x y : Datum} (h : y.isNaN = true) : x.product y = none := by cases y <;> first | cases h; done | (cases x <;> rfl)
theorem quotient_nan_l {n : Nat} {x y : Datum} (h : x.isNaN = true) : x.quotient n y = none := by cases x <;> first | cases h; done | rfl
theorem quotient_nan_r {n : Nat} {x y : Datum} (h : y.isNaN = true) : x.quotient n y = none := by cases y <;> first | cases h; done | (cases x <;> rfl)
theorem order_nan_l {x y : Datum} (h : x.isNaN = true) : x.order y = none := by cases x <;> first | cases h; done | rfl
theorem order_nan_r {x y : Datum} (h : y.isNaN = true) : x.order y = none := by cases y <;> first | cases h; done | (cases x <;> rfl)
theorem opposite_nan {x : Datum} : x.opposite.isNaN = x.isNaN := by cases x <;> rfl

theorem floatBits_nan_l {op : BinOp} {k : FloatKind} {x y : Nat} (h : nanb k x = true) : floatBits op k x y = none := by
  unfold nanb at h
  unfold floatBits
  split <;> simp [Format.add, Format.sub, Format.mul, Format.div, sum_nan_l h, product_nan_l h, quotient_nan_l h]
theorem floatBits_nan_r {op : BinOp} {k : FloatKind} {x y : Nat} (h : nanb k y = true) : floatBits op k x y = none := by
  unfold nanb at h
  unfold floatBits
  split <;> simp [Format.add, Format.sub, Format.mul, Format.div, sum_nan_r h, sum_nan_r (opposite_nan.trans h), product_nan_r h, quotient_nan_r h]

theorem floatBits_read {op : BinOp} {k : FloatKind} {x y x' y' : Nat} (hx : k.format.read x = k.format.read x') (hy : k.format.read y = k.format.read y') : floatBits op k x y = floatBits op k x' y' := by
  unfold floatBits
  split <;> simp only [Format.add, Format.sub, Format.mul, Format.div, hx, hy]
theorem floatBits_can (op : BinOp) (k : FloatKind) (x y : Nat) : floatBits op k (can k x) (can k y) = floatBits op k x y := by
  by_cases hx : nanb k x = true
  · rw [floatBits_nan_l hx, floatBits_nan_l (by rw [nanb_can]; exact hx)]
  · by_cases hy : nanb k y = true
    · rw [floatBits_nan_r hy, floatBits_nan_r (by rw [nanb_can]; exact hy)]
    · exact floatBits_read (read_can (by simpa using hx)) (read_can (by simpa using hy))
theorem fop_can (op : BinOp) (k : FloatKind) (x y : Nat) : fop op k (can k x) (can k y) = fop op k x y := by unfold fop; rw [floatBits_can]
theorem floatBits_lt {op : BinOp} {k : FloatKind} {x y r : Nat} (h : floatBits op k x y = some r) : r < wid k := by
  unfold floatBits at h
  split at h
  · exact k.format.add_lt h
  · exact k.format.sub_lt h
  · exact k.format.mul_lt h
  · exact k.format.div_lt h
  · cases h
theorem can_fop (op : BinOp) (k : FloatKind) (x y : Nat) : can k (fop op k x y) = fop op k x y := by
  unfold fop
  cases h : floatBits op k x y with
  | none => exact can_qnan k
  | some r => exact can_of_not (floatBits_notNaN h) (floatBits_lt h)
theorem order_can (k : FloatKind) (x y : Nat) : k.format.order (can k x) (can k y) = k.format.order x y := by
  have hl : ∀ {x y}, nanb k x = true → k.format.order x y = none := fun h => order_nan_l h
  have hr : ∀ {x y}, nanb k y = true → k.format.order x y = none := fun h => order_nan_r h
  by_cases hx : nanb k x = true
  · rw [hl hx, hl (by rw [nanb_can]; exact hx)]
  · by_cases hy : nanb k y = true
    · rw [hr hy, hr (by rw [nanb_can]; exact hy)]
    · show (k.format.read _).order (k.format.read _) = (k.format.read _).order (k.format.read _)
      rw [read_can (by simpa using hx), read_can (by simpa using hy)]

/-- The word 'r' is of the kind's width, and its canonical bits are 'X'. -/
def Cn (k : FloatKind) (r X : Nat) : Prop := can k r = X ∧ r < wid k
theorem cnLit {k : FloatKind} {t : Nat} (h1 : can k t = t) (h2 : Nat.blt t (wid k) = true) : Cn k t t := ⟨h1, by simpa using h2⟩
theorem cnT {k : FloatKind} {r X Y : Nat} (h : Cn k r X) (e : X = Y) : Cn k r Y := e ▸ h
theorem cnR {k : FloatKind} {r : Nat} (h : r < wid k) : Cn k r (can k r) := ⟨rfl, h⟩
/-! comparisons, as functions of the bits -/
def feq (k : FloatKind) (a b : Nat) : Bool := k.format.order a b == some .eq
def fne (k : FloatKind) (a b : Nat) : Bool := k.format.order a b != some .eq
def flt (k : FloatKind) (a b : Nat) : Bool := k.format.order a b == some .lt
def fle (k : FloatKind) (a b : Nat) : Bool := k.format.order a b == some .lt || k.format.order a b == some .eq
def fgt (k : FloatKind) (a b : Nat) : Bool := k.format.order a b == some .gt
def fge (k : FloatKind) (a b : Nat) : Bool := k.format.order a b == some .gt || k.format.order a b == some .eq
section
variable {k : FloatKind} {a b A B : Nat} {t : Bool}
theorem ocan (h1 : can k a = A) (h2 : can k b = B) : k.format.order a b = k.format.order A B := by rw [← h1, ← h2, order_can]
theorem feqC (h1 : Cn k a A) (h2 : Cn k b B) (h : feq k A B = t) : feq k a b = t := by unfold feq at *; rw [ocan h1.1 h2.1]; exact h
theorem fneC (h1 : Cn k a A) (h2 : Cn k b B) (h : fne k A B = t) : fne k a b = t := by unfold fne at *; rw [ocan h1.1 h2.1]; exact h
theorem fltC (h1 : Cn k a A) (h2 : Cn k b B) (h : flt k A B = t) : flt k a b = t := by unfold flt at *; rw [ocan h1.1 h2.1]; exact h
theorem fleC (h1 : Cn k a A) (h2 : Cn k b B) (h : fle k A B = t) : fle k a b = t := by unfold fle at *; rw [ocan h1.1 h2.1]; exact h
theorem fgtC (h1 : Cn k a A) (h2 : Cn k b B) (h : fgt k A B = t) : fgt k a b = t := by unfold fgt at *; rw [ocan h1.1 h2.1]; exact h
theorem fgeC (h1 : Cn k a A) (h2 : Cn k b B) (h : fge k A B = t) : fge k a b = t := by unfold fge at *; rw [ocan h1.1 h2.1]; exact h
theorem fopC {op : BinOp} {r : Nat} (h : Cn k r (fop op k (can k a) (can k b))) (h1 : Cn k a A) (h2 : Cn k b B) : Cn k r (fop op k A B) := by rw [← h1.1, ← h2.1]; exact h
end
/-- The opposite. -/
def fneg (k : FloatKind) (x : Nat) : Nat := if nanb k x then qnan k else Op.negFloat k x

theorem testBit_xor_ne {x n i : Nat} (h : i ≠ n) : (x ^^^ 2 ^ n).testBit i = x.testBit i := by
  rw [Nat.testBit_xor, Nat.testBit_two_pow]
  simp [Ne.symm h]
theorem neg_mod (x n : Nat) : (x ^^^ 2 ^ n) % 2 ^ n = x % 2 ^ n := by
  apply Nat.eq_of_testBit_eq
  intro i
  rw [Nat.testBit_mod_two_pow, Nat.testBit_mod_two_pow]
  by_cases h : i < n
  · simp only [h, decide_true, Bool.true_and]; exact testBit_xor_ne (by omega)
  · simp [h]
def mkR (f : Format) (neg : Bool) (rung : Nat) : Datum :=
  if rung < f.binade then .number neg rung f.leastPlace
  else if rung < f.infRung then .number neg (f.binade + rung % f.binade) (f.leastPlace + (rung / f.binade - 1 : Nat))
  else if rung = f.infRung then .infinity neg
  else .nan neg (rung - f.infRung)
theorem mkR_nan (f : Format) (neg : Bool) (r : Nat) (hb : f.binade ≤ f.infRung) : (mkR f neg r).isNaN = decide (f.infRung < r) := by
  unfold mkR
  by_cases h1 : r < f.binade
  · rw [if_pos h1, decide_eq_false (by omega)]; rfl
  · rw [if_neg h1]
    by_cases h2 : r < f.infRung
    · rw [if_pos h2, decide_eq_false (by omega)]; rfl
    · rw [if_neg h2]
      by_cases h3 : r = f.infRung
      · rw [if_pos h3, decide_eq_false (by omega)]; rfl
      · rw [if_neg h3, decide_eq_true (by omega)]; rfl
theorem nan_iff (k : FloatKind) (x : Nat) : nanb k x = decide (k.format.infRung < x % 2 ^ (k.format.exponentBits + k.format.fractionBits)) :=
  mkR_nan k.format (x / k.format.signWeight % 2 == 1) _ (by cases k <;> decide)
theorem nanb_neg (k : FloatKind) (x : Nat) : nanb k (Op.negFloat k x) = nanb k x := by
  rw [nan_iff, nan_iff]
  unfold Op.negFloat
  rw [neg_mod]
theorem neg_wid (k : FloatKind) (x : Nat) : Op.negFloat k x % wid k = Op.negFloat k (x % wid k) := by
  have hw : wid k = 2 ^ (k.format.exponentBits + k.format.fractionBits + 1) := by
    unfold wid Format.width
    rw [Nat.add_assoc, Nat.add_comm 1]
  unfold Op.negFloat
  rw [hw]
  apply Nat.eq_of_testBit_eq
  intro i
  simp only [Nat.testBit_mod_two_pow, Nat.testBit_xor, Nat.testBit_two_pow]
  by_cases h : i < k.format.exponentBits + k.format.fractionBits + 1
  · simp [h]
  · have : ¬ (k.format.exponentBits + k.format.fractionBits = i) := by omega
    simp [h, this]
theorem can_neg (k : FloatKind) (x : Nat) : can k (Op.negFloat k x) = fneg k (can k x) := by
  unfold fneg
  rw [nanb_can]
  by_cases h : nanb k x = true
  · rw [if_pos h, can_of_nan (by rw [nanb_neg]; exact h)]
  · have h' : nanb k x = false := by simpa using h
    rw [if_neg h, can_of_not' (by rw [nanb_neg]; exact h'), can_of_not' h', neg_wid]
theorem neg_lt {k : FloatKind} {a : Nat} (h : a < wid k) : Op.negFloat k a < wid k := by
  have := neg_wid k a
  rw [Nat.mod_eq_of_lt h] at this
  rw [← this]; exact Nat.mod_lt _ (Nat.two_pow_pos _)
theorem negC {k : FloatKind} {a A : Nat} (h : Cn k a A) : Cn k (Op.negFloat k a) (fneg k A) := ⟨by rw [can_neg, h.1], neg_lt h.2⟩

/-- The bits that the tape gives for a NaN are a NaN's. -/
theorem nan_cut32 (t : Nat) : nanb .f32 ((t % 2) * 2 ^ 31 + 0x7f800000 + 1 + (t / 2) % (2 ^ 23 - 1)) = true := by
  have h1 := Nat.mod_lt (t / 2) (show 0 < 2 ^ 23 - 1 by decide)
  generalize (t / 2) % (2 ^ 23 - 1) = r at *
  have h2 := Nat.mod_lt t (show 0 < 2 by decide)
  generalize t % 2 = s at *
  have hm : (s * 2 ^ 31 + 0x7f800000 + 1 + r) % single.signWeight = 0x7f800001 + r := by
    show _ % 2 ^ (8 + 23) = _
    omega
  unfold nanb
  show (single.read _).isNaN = true
  unfold Format.read
  simp only [hm]
  have e1 : single.binade = 8388608 := rfl
  have e2 : single.infRung = 2139095040 := rfl
  rw [e1, e2, if_neg (by omega), if_neg (by omega), if_neg (by omega)]
  rfl
theorem nan_cut64 (t : Nat) : nanb .f64 ((t % 2) * 2 ^ 63 + 0x7ff0000000000000 + 1 + (t / 2) % (2 ^ 52 - 1)) = true := by
  have h1 := Nat.mod_lt (t / 2) (show 0 < 2 ^ 52 - 1 by decide)
  generalize (t / 2) % (2 ^ 52 - 1) = r at *
  have h2 := Nat.mod_lt t (show 0 < 2 by decide)
  generalize t % 2 = s at *
  have hm : (s * 2 ^ 63 + 0x7ff0000000000000 + 1 + r) % double.signWeight = 0x7ff0000000000001 + r := by
    show _ % 2 ^ (11 + 52) = _
    omega
  unfold nanb
  show (double.read _).isNaN = true
  unfold Format.read
  simp only [hm]
  have e1 : double.binade = 4503599627370496 := rfl
  have e2 : double.infRung = 9218868437227405312 := rfl
  rw [e1, e2, if_neg (by omega), if_neg (by omega), if_neg (by omega)]
  rfl

theorem cut_lt32 (t : Nat) : (t % 2) * 2 ^ 31 + 0x7f800000 + 1 + (t / 2) % (2 ^ 23 - 1) < wid .f32 := by
  have h1 := Nat.mod_lt (t / 2) (show 0 < 2 ^ 23 - 1 by decide)
  have h2 := Nat.mod_lt t (show 0 < 2 by decide)
  show _ < 4294967296
  omega
theorem cut_lt64 (t : Nat) : (t % 2) * 2 ^ 63 + 0x7ff0000000000000 + 1 + (t / 2) % (2 ^ 52 - 1) < wid .f64 := by
  have h1 := Nat.mod_lt (t / 2) (show 0 < 2 ^ 52 - 1 by decide)
  have h2 := Nat.mod_lt t (show 0 < 2 by decide)
  show _ < 18446744073709551616
  omega
/-- A float whose canonical bits are 'x'. -/
def Fl (k : FloatKind) (x : Nat) (v : Value) : Prop := ∃ b, v = .float k b ∧ can k b = x

section
variable {P : Program} {ρ : Env} {w : World} {d : Option Tmp} {ty : TypeId} {pos : String} {aft : Array Edge} {g : Option (Nat × Bool)} {x y : Operand}

/-- What an operation may yield: some value of 'S', behind some draws. -/
abbrev Yn (P : Program) (ρ : Env) (o : Oper) (S : Value → Prop) (w : World) : Prop := ∃ v n, (execOp (ev ρ) o).run P w = .ok (.value v) (w.drewN n) ∧ S v

theorem run_choose (q : Question) (hq : q.forced = false) (w : World) : (choose q).run P w = .ok (q.cut (w.tape w.drawn q)) (w.drewN 1) := by
  simp [choose, Sem.run, hq, World.drewN]

theorem n_arith {op : BinOp} {k : FloatKind} {a b : Nat} {T U : Nat} (hop : op = .add ∨ op = .sub ∨ op = .mul ∨ op = .quo) (hx : ev ρ x = .float k a) (hy : ev ρ y = .float k b) :
    Yn P ρ ⟨d, .binOp op T x y U, ty, pos, aft, g⟩ (fun v => ∃ r, v = .float k r ∧ Cn k r (fop op k (can k a) (can k b))) w := by
  have hfa : (Op.floatArith op k a b).run P w = match floatBits op k a b with
      | some r => .ok (.float k r) w
      | none => (do pure (.float k (← choose (.nanBits k a b))) : Sem Value).run P w := by
    rcases hop with rfl | rfl | rfl | rfl <;> simp only [Op.floatArith, floatBits] <;> (split <;> simp_all)
  have hb : binOp op T (.float k a) (.float k b) = Op.floatArith op k a b := by rcases hop with rfl | rfl | rfl | rfl <;> simp [binOp]
  have hg : (eqGuard op T x y (.float k a) (.float k b)).run P w = .ok () w := by rcases hop with rfl | rfl | rfl | rfl <;> simp [eqGuard]
  rw [fop_can]
  unfold fop
  cases h : floatBits op k a b with
  | some r =>
    refine ⟨.float k r, 0, ?_, r, rfl, can_of_not (floatBits_notNaN h) (floatBits_lt h), floatBits_lt h⟩
    simp only [execOp, hx, hy, Sem.run_bind, hg, Result.andThen_ok, hb, hfa, h]
    rfl
  | none =>
    refine ⟨_, 1, by simp only [execOp, hx, hy, Sem.run_bind, hg, Result.andThen_ok, hb, hfa, h, run_choose (.nanBits k a b) rfl w]; rfl, _, rfl, ?_⟩
    cases k
    · exact ⟨can_of_nan (nan_cut32 _), cut_lt32 _⟩
    · exact ⟨can_of_nan (nan_cut64 _), cut_lt64 _⟩

theorem y_feql {k : FloatKind} {a b : Nat} {T U : Nat} {t : Bool} (hx : ev ρ x = .float k a) (hy : ev ρ y = .float k b) (ht : feq k a b = t) : Yv P ρ ⟨d, .binOp .eql T x y U, ty, pos, aft, g⟩ (.bool t) w := by
  subst ht; simp [Yv, execOp, eqGuard, hx, hy, binOp, Op.floatCmp, feq]
theorem y_fneq {k : FloatKind} {a b : Nat} {T U : Nat} {t : Bool} (hx : ev ρ x = .float k a) (hy : ev ρ y = .float k b) (ht : fne k a b = t) : Yv P ρ ⟨d, .binOp .neq T x y U, ty, pos, aft, g⟩ (.bool t) w := by
  subst ht; simp [Yv, execOp, eqGuard, hx, hy, binOp, Op.floatCmp, fne]
theorem y_flss {k : FloatKind} {a b : Nat} {T U : Nat} {t : Bool} (hx : ev ρ x = .float k a) (hy : ev ρ y = .float k b) (ht : flt k a b = t) : Yv P ρ ⟨d, .binOp .lss T x y U, ty, pos, aft, g⟩ (.bool t) w := by
  subst ht; simp [Yv, execOp, eqGuard, hx, hy, binOp, Op.floatCmp, flt]
theorem y_fleq {k : FloatKind} {a b : Nat} {T U : Nat} {t : Bool} (hx : ev ρ x = .float k a) (hy : ev ρ y = .float k b) (ht : fle k a b = t) : Yv P ρ ⟨d, .binOp .leq T x y U, ty, pos, aft, g⟩ (.bool t) w := by
  subst ht; simp [Yv, execOp, eqGuard, hx, hy, binOp, Op.floatCmp, fle]
theorem y_fgtr {k : FloatKind} {a b : Nat} {T U : Nat} {t : Bool} (hx : ev ρ x = .float k a) (hy : ev ρ y = .float k b) (ht : fgt k a b = t) : Yv P ρ ⟨d, .binOp .gtr T x y U, ty, pos, aft, g⟩ (.bool t) w := by
  subst ht; simp [Yv, execOp, eqGuard, hx, hy, binOp, Op.floatCmp, fgt]
theorem y_fgeq {k : FloatKind} {a b : Nat} {T U : Nat} {t : Bool} (hx : ev ρ x = .float k a) (hy : ev ρ y = .float k b) (ht : fge k a b = t) : Yv P ρ ⟨d, .binOp .geq T x y U, ty, pos, aft, g⟩ (.bool t) w := by
  subst ht; simp [Yv, execOp, eqGuard, hx, hy, binOp, Op.floatCmp, fge]
theorem y_fneg {k : FloatKind} {a : Nat} {T : Nat} (hx : ev ρ x = .float k a) : Yv P ρ ⟨d, .unOp .neg T x, ty, pos, aft, g⟩ (.float k (Op.negFloat k a)) w := by
  simp [Yv, execOp, hx, Op.unary]
end
end Go.Wv
