/- What the functions compute. -/
import Derived.Test.YtebigoiegiaggaaL1
namespace Go.Wv
def within (n lo hi : Int) : Bool := decide (lo ≤ n) && decide (n ≤ hi)
def isTick (n : Int) : Bool := within n 0 1000000
def isSeed (n : Int) : Bool := within n 0 2147483647
/-- 'x - x == 0' -/
def finB (x : Nat) : Bool := feq .f32 (fop .sub .f32 x x) 0
theorem isSeed_lo {n : Int} (h : isSeed n = true) : 0 ≤ n := by simp [isSeed, within] at h; omega
theorem isSeed_hi {n : Int} (h : isSeed n = true) : n ≤ 2147483647 := by simp [isSeed, within] at h; omega
def nextS (x : Int) : Int := (1103515245 * x + 12345) % 2147483648
def validW (kd tt ln : Int) (tn : Nat) (sd : Int) : Bool := within kd 0 4 && isTick tt && within ln 1 1000000 && finB tn && isSeed sd
end Go.Wv
