/- Drawn fields. -/
import Derived.Test.YtgohmocjjmkepaaM13
set_option linter.unusedSimpArgs false
set_option linter.unusedVariables false
namespace Go.Wv
section
variable {wd hi i : Int} {E X Y E' X' Y' : List Nat}
/-- One cell of a drawn field: what lies before it stays, it has zeros where it must. -/
theorem edge_step (hE : ∀ j, 0 ≤ j → j < i → el E' j = el E j) (hX : ∀ j, 0 ≤ j → j < i → el X' j = el X j) (hY : ∀ j, 0 ≤ j → j < i → el Y' j = el Y j)
    (h : ∀ j, 0 ≤ j → j < i → edgeB wd hi E X Y (j % wd) (j / wd) j = false) (h1 : bordB wd hi false (i % wd) (i / wd) = true → el E' i = 0) (h2 : i / wd = hi - 1 → el X' i = 0) (h3 : i % wd = wd - 1 → el Y' i = 0) :
    ∀ j, 0 ≤ j → j < i + 1 → edgeB wd hi E' X' Y' (j % wd) (j / wd) j = false := fun j h4 h5 => by
  by_cases e : j = i
  · subst e
    have hz : fne .f32 0 0 = false := by kernel_rfl
    unfold edgeB
    have a1 : (bordB wd hi false (j % wd) (j / wd) && fne .f32 (el E' j) 0) = false := by
      cases hb : bordB wd hi false (j % wd) (j / wd)
      · rfl
      · rw [h1 hb, hz]; rfl
    have a2 : (decide (j / wd = hi - 1) && fne .f32 (el X' j) 0) = false := by
      by_cases hb : j / wd = hi - 1
      · rw [h2 hb, hz, Bool.and_false]
      · rw [decide_eq_false hb, Bool.false_and]
    have a3 : (decide (j % wd = wd - 1) && fne .f32 (el Y' j) 0) = false := by
      by_cases hb : j % wd = wd - 1
      · rw [h3 hb, hz, Bool.and_false]
      · rw [decide_eq_false hb, Bool.false_and]
    rw [a1, a2, a3]; rfl
  · have := h j h4 (by omega)
    unfold edgeB at this ⊢
    rw [hE j h4 (by omega), hX j h4 (by omega), hY j h4 (by omega)]
    exact this
end
theorem put_pre {xs : List Nat} {i : Int} {v n : Nat} (hl : xs.length = n) (h0 : 0 ≤ i) (h1 : i < (n : Int)) : ∀ j, 0 ≤ j → j < i → el (put xs i v) j = el xs j := fun j h2 h3 => by
  rw [el_put h0 (by omega) v j h2, if_neg (by omega)]
theorem put_self {xs : List Nat} {i : Int} {v n : Nat} (hl : xs.length = n) (h0 : 0 ≤ i) (h1 : i < (n : Int)) : el (put xs i v) i = v := by
  rw [el_put h0 (by omega) v i h0, if_pos rfl]
end Go.Wv
