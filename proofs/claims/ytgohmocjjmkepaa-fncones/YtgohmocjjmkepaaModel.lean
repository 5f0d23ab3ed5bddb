/- What the functions compute. -/
import Derived.Test.YtgohmocjjmkepaaL1
set_option linter.unusedSimpArgs false
set_option linter.unusedVariables false
namespace Go.Wv
def within (n lo hi : Int) : Bool := decide (lo ≤ n) && decide (n ≤ hi)
def isTick (n : Int) : Bool := within n 0 1000000
def isSeed (n : Int) : Bool := within n 0 2147483647
/-- 'x - x == 0' -/
def finB (x : Nat) : Bool := feq .f32 (fop .sub .f32 x x) 0
theorem within_b {n lo hi : Int} (h : within n lo hi = true) : lo ≤ n ∧ n ≤ hi := by simpa [within] using h
theorem isTick_b {n : Int} (h : isTick n = true) : 0 ≤ n ∧ n ≤ 1000000 := within_b h
theorem isSeed_b {n : Int} (h : isSeed n = true) : 0 ≤ n ∧ n ≤ 2147483647 := within_b h
theorem isSeed_lo {n : Int} (h : isSeed n = true) : 0 ≤ n := by simp [isSeed, within] at h; omega
theorem isSeed_hi {n : Int} (h : isSeed n = true) : n ≤ 2147483647 := by simp [isSeed, within] at h; omega
def nextS (x : Int) : Int := (1103515245 * x + 12345) % 2147483648
def validW (kd tt ln : Int) (tn : Nat) (sd : Int) : Bool := within kd 0 4 && isTick tt && within ln 1 1000000 && finB tn && isSeed sd
theorem validW_b {kd tt ln : Int} {tn : Nat} {sd : Int} (h : validW kd tt ln tn sd = true) : (0 ≤ kd ∧ kd ≤ 4) ∧ (0 ≤ tt ∧ tt ≤ 1000000) ∧ (1 ≤ ln ∧ ln ≤ 1000000) ∧ finB tn = true ∧ (0 ≤ sd ∧ sd ≤ 2147483647) := by
  simp only [validW, Bool.and_eq_true] at h
  exact ⟨within_b h.1.1.1.1, isTick_b h.1.1.1.2, within_b h.1.1.2, h.1.2, isSeed_b h.2⟩
def laterB (kd tt ln : Int) (tn : Nat) (sd y : Int) : Bool := validW kd tt ln tn sd && within y (-1000000) 1000000 && isTick (tt + y)
theorem later_valid {kd tt ln : Int} {tn : Nat} {sd y : Int} (h : validW kd tt ln tn sd = true) : validW kd (tt + y) ln tn sd = isTick (tt + y) := by
  simp only [validW, Bool.and_eq_true] at h
  simp [validW, h]
end Go.Wv
