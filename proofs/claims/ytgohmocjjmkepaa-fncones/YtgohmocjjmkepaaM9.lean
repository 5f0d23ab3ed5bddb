/- What the functions compute: sources. -/
import Derived.Test.YtgohmocjjmkepaaM8
import Derived.Test.YtgohmocjjmkepaaN4
set_option linter.unusedSimpArgs false
set_option linter.unusedVariables false
namespace Go.Wv
section
variable {wd hi : Int} {wr : Bool} {P L : List Nat} {ss : List Src}
def srcB (wd hi : Int) (wr : Bool) (s : Src) : Bool := cellB wd hi s.x s.y && !bordB wd hi wr s.x s.y && validW s.kd s.tt s.ln s.tn s.sd
def srcsB (wd hi : Int) (wr : Bool) (ss : List Src) : Bool := decide (ss.length ≤ 8) && allI ss.length fun i => srcB wd hi wr (gl ss i)
def areSrcB (wd hi : Int) (wr : Bool) (P L : List Nat) (ss : List Src) : Bool := validS wd hi P L && srcsB wd hi wr ss
theorem srcsB_yes (h : ss.length ≤ 8) (h1 : ∀ i, 0 ≤ i → i < (ss.length : Int) → srcB wd hi wr (gl ss i) = true) : srcsB wd hi wr ss = true := by
  simp only [srcsB, Bool.and_eq_true, decide_eq_true_eq]; exact ⟨h, allI_true h1⟩
theorem srcsB_no {i : Int} (h0 : 0 ≤ i) (h1 : i < (ss.length : Int)) (h : srcB wd hi wr (gl ss i) = false) : srcsB wd hi wr ss = false := by
  rw [srcsB, allI_false h0 h1 (by rw [h]; simp), Bool.and_false]
theorem srcsB_n (h : 8 < ss.length) : srcsB wd hi wr ss = false := by
  rw [srcsB, decide_eq_false (by omega), Bool.false_and]
theorem srcsB_b (h : srcsB wd hi wr ss = true) : ss.length ≤ 8 := by
  simp only [srcsB, Bool.and_eq_true, decide_eq_true_eq] at h; exact h.1
theorem srcsB_src {i : Int} (h : srcsB wd hi wr ss = true) (h0 : 0 ≤ i) (h1 : i < (ss.length : Int)) : srcB wd hi wr (gl ss i) = true := by
  simp only [srcsB, Bool.and_eq_true] at h; exact allI_iff.1 h.2 i h0 h1
theorem areSrc_yes (h0 : validS wd hi P L = true) (h : ss.length ≤ 8) (h1 : ∀ i, 0 ≤ i → i < (ss.length : Int) → srcB wd hi wr (gl ss i) = true) : areSrcB wd hi wr P L ss = true := by
  simp only [areSrcB, Bool.and_eq_true]; exact ⟨h0, srcsB_yes h h1⟩
theorem areSrc_no {i : Int} (h0 : 0 ≤ i) (h1 : i < (ss.length : Int)) (h : srcB wd hi wr (gl ss i) = false) : areSrcB wd hi wr P L ss = false := by
  rw [areSrcB, srcsB_no h0 h1 h, Bool.and_false]
theorem areSrc_n1 (h0 : ¬ validS wd hi P L = true) : areSrcB wd hi wr P L ss = false := by simp [areSrcB, h0]
theorem areSrc_n2 (h : 8 < ss.length) : areSrcB wd hi wr P L ss = false := by rw [areSrcB, srcsB_n h, Bool.and_false]
theorem areSrcB_b (h : areSrcB wd hi wr P L ss = true) : ss.length ≤ 8 ∧ ((((3 ≤ wd ∧ wd ≤ 16) ∧ (3 ≤ hi ∧ hi ≤ 16)) ∧ (9 ≤ wd * hi ∧ wd * hi ≤ 256)) ∧ (P.length : Int) = wd * hi ∧ (L.length : Int) = wd * hi) := by
  simp only [areSrcB, Bool.and_eq_true] at h
  exact ⟨srcsB_b h.2, validS_b h.1⟩
end
/-- A pointer into a list, as a pointer to a place. -/
theorem Row.toSl {w : World} {a : Option Addr} {j : Nat} {cs : List Value} (h : Row w a j cs) : Sl w (some ⟨(sat a j).block, (sat a j).off, none⟩) cs := fun i u hu => by
  obtain ⟨b, off, rfl, hc⟩ := h i u hu
  exact ⟨b, off + j, rfl, hc⟩
theorem ptr_eq {w : World} {a : Option Addr} {j : Nat} {cs : List Value} (h : Row w a j cs) (h0 : 0 < cs.length) : Value.pointer (some (sat a j)) = .pointer (some ⟨(sat a j).block, (sat a j).off, none⟩) := by
  obtain ⟨b, off, rfl⟩ := h.addr h0
  rfl
end Go.Wv
