/- The sign of a number; numbers that are the same. -/
import Derived.Test.YtgohmocjjmkepaaM14
set_option linter.unusedSimpArgs false
set_option linter.unusedVariables false
namespace Go.Wv
def f64bitsB (P : Program) (f : Nat) : Prop := ∃ fn, P.funcs[f]? = some fn ∧ (fn.name == "runtime.NumGoroutine") = false ∧ fn.body.isNone = true ∧ (Extern.findNext fn).isNone = true ∧ Extern.find fn = some Extern.MathFloatBits.float64bits
section
variable {P : Program} {ρ : Env} {w : World} {d : Option Tmp} {ty : TypeId} {pos : String} {aft : Array Edge} {g : Option (Nat × Bool)} {x : Operand} {K : Value → World → Prop}
theorem k_f64bits {f : Nat} {as : List Operand} {ts : Array TypeId} {b : Nat} (h : f64bitsB P f) (ha : as.map (ev ρ) = [.float .f64 b]) (k : K (.int .u64 (b : Int)) w) :
    opk P ⟨d, .call { callee := .value (.func f), args := as.toArray, argTypes := ts }, ty, pos, aft, g⟩ ρ w K := by
  obtain ⟨fn, hf, h1, h2, h3, h4⟩ := h
  have h3' : Extern.findNext fn = none := by simpa using h3
  have he : Extern.MathFloatBits.float64bits #[.float .f64 b] = pure (.int .u64 (b : Int)) := rfl
  have hr : (callFunc f #[.float .f64 b]).run P w = .ok (.value (.int .u64 (b : Int))) w := by
    have n1 : ¬ fn.name = "runtime.NumGoroutine" := by simpa using h1
    have n2 : fn.body = none := by simpa using h2
    simp [callFunc, hf, n1, n2, h3', h4, he]
  have hm : as.toArray.map (ev ρ) = #[.float .f64 b] := by rw [List.map_toArray, ha]
  unfold opk
  simp only [execOp, resolve, Sem.run_bind, Sem.run_pure, Deferred.ofValue, ev, Result.andThen_ok, invoke, Array.empty_append, Array.append_empty, hm, hr]
  exact k
end
/-- A number of 64 bits, not a not-a-number, has its sign set. -/
def sgnB (R : Nat) : Bool := decide (IntKind.i64.wrap (R : Int) < 0)
theorem sgn_can {r R : Nat} (h0 : Cn .f64 r R) (hn : nanb .f64 R = false) : IntKind.i64.wrap (r : Int) = IntKind.i64.wrap (R : Int) := by
  obtain ⟨h, _⟩ := h0
  subst h
  rw [nanb_can] at hn
  rw [can_of_not' hn, IntKind.wrap_i64, IntKind.wrap_i64]
  have : wid .f64 = 18446744073709551616 := by decide
  rw [this]
  omega
def sameN (A B : Nat) : Bool := if (fne .f32 A A || fne .f32 B B) = true then fne .f32 A A && fne .f32 B B else feq .f32 A B && (sgnB (widen A) == sgnB (widen B))
theorem sameN_refl (A : Nat) : sameN A A = true := by
  unfold sameN
  cases h : fne .f32 A A
  · have : feq .f32 A A = true := by
      unfold fne at h; unfold feq
      simpa using h
    simp [this]
  · simp
open Ieee in
theorem widen_num {b : Nat} (h : nanb .f32 b = false) : nanb .f64 (widen b) = false := by
  rcases read32 b with ⟨s, m, p, hr, h1, h2, h3⟩ | ⟨s, hr⟩ | ⟨s, t, hr⟩
  · obtain ⟨r, e1, e2⟩ := wide_rung s m p h1 h2 h3
    have hinf : (double.read (double.write (.number s m p))).isInfinity = false := by
      rw [e1, read_rung _ _ (Nat.lt_trans e2 (Format.infRung_lt _))]; exact mkR_inf _ _ e2
    have hb : floatToFloatBits .f32 b .f64 = some (double.write (.number s m p)) := by
      unfold floatToFloatBits
      rw [if_neg (by decide)]
      show (match single.read b with | .nan _ _ => none | .infinity s => some (double.write (.infinity s)) | .number s m e => if (double.read (double.write (.number s m e))).isInfinity then none else some (double.write (.number s m e))) = _
      rw [hr]; simp only [hinf]; rfl
    unfold widen; rw [hb]; exact nanb_write (k := .f64) (d := .number s m p) rfl
  · have hb : floatToFloatBits .f32 b .f64 = some (double.write (.infinity s)) := by
      unfold floatToFloatBits
      rw [if_neg (by decide)]
      show (match single.read b with | .nan _ _ => none | .infinity s => some (double.write (.infinity s)) | .number s m e => if (double.read (double.write (.number s m e))).isInfinity then none else some (double.write (.number s m e))) = _
      rw [hr]
    unfold widen; rw [hb]; exact nanb_write (k := .f64) (d := .infinity s) rfl
  · exfalso
    have : (single.read b).isNaN = false := h
    rw [hr] at this; cases this
theorem widen_ok {b : Nat} (h : ¬ fne .f32 b b = true) : nanb .f64 (widen b) = false := widen_num (by rw [← fne_self]; simpa using h)
/-- Lists of numbers that are the same. -/
def sameL (X Y : List Nat) : Bool := decide (X.length = Y.length) && allI X.length fun i => sameN (el X i) (el Y i)
theorem sameL_yes {X Y : List Nat} (hl : X.length = Y.length) (h : ∀ i, 0 ≤ i → i < (X.length : Int) → sameN (el X i) (el Y i) = true) : sameL X Y = true := by
  simp only [sameL, hl, decide_true, Bool.true_and]; exact allI_true (fun i h0 h1 => h i h0 (by omega))
theorem sameL_no {X Y : List Nat} {i : Int} (h0 : 0 ≤ i) (h1 : i < (X.length : Int)) (h : ¬ sameN (el X i) (el Y i) = true) : sameL X Y = false := by
  simp only [sameL, Bool.and_eq_false_iff]; exact .inr (allI_false h0 h1 h)
theorem sameL_n {X Y : List Nat} (h : X.length ≠ Y.length) : sameL X Y = false := by simp [sameL, h]
theorem sameL_refl (X : List Nat) : sameL X X = true := sameL_yes rfl fun _ _ _ => sameN_refl _
end Go.Wv
