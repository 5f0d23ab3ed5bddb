/- What the functions compute: fields. -/
import Derived.Test.YtgohmocjjmkepaaM4
set_option linter.unusedSimpArgs false
set_option linter.unusedVariables false
namespace Go.Wv
/-- Cell x, y of index i at an edge that is not joined has a number that is not zero. -/
def edgeB (wd hi : Int) (E X Y : List Nat) (x y i : Int) : Bool :=
  (bordB wd hi false x y && fne .f32 (el E i) 0) || (decide (y = hi - 1) && fne .f32 (el X i) 0) || (decide (x = wd - 1) && fne .f32 (el Y i) 0)
def fitsB (wd hi : Int) (wr : Bool) (E X Y : List Nat) : Bool :=
  decide ((E.length : Int) = wd * hi) && decide ((X.length : Int) = wd * hi) && decide ((Y.length : Int) = wd * hi) && (wr || allI (wd * hi) fun i => !edgeB wd hi E X Y (i % wd) (i / wd) i)
def fieldB (wd hi : Int) (wr : Bool) (P L E X Y : List Nat) : Bool := validS wd hi P L && fitsB wd hi wr E X Y
section
variable {wd hi : Int} {wr : Bool} {P L E X Y : List Nat}
theorem fits_iff : fitsB wd hi wr E X Y = true ↔ ((E.length : Int) = wd * hi ∧ (X.length : Int) = wd * hi ∧ (Y.length : Int) = wd * hi) ∧ (wr = true ∨ ∀ i, 0 ≤ i → i < wd * hi → edgeB wd hi E X Y (i % wd) (i / wd) i = false) := by
  simp only [fitsB, Bool.and_eq_true, Bool.or_eq_true, allI_iff, decide_eq_true_eq, Bool.not_eq_true', and_assoc]
theorem fitsB_b (h : fitsB wd hi wr E X Y = true) : (E.length : Int) = wd * hi ∧ (X.length : Int) = wd * hi ∧ (Y.length : Int) = wd * hi := (fits_iff.1 h).1
theorem fieldB_iff : fieldB wd hi wr P L E X Y = true ↔ validS wd hi P L = true ∧ fitsB wd hi wr E X Y = true := by simp only [fieldB, Bool.and_eq_true]
theorem fieldB_b (h : fieldB wd hi wr P L E X Y = true) : ((E.length : Int) = wd * hi ∧ (X.length : Int) = wd * hi ∧ (Y.length : Int) = wd * hi) ∧ ((((3 ≤ wd ∧ wd ≤ 16) ∧ (3 ≤ hi ∧ hi ≤ 16)) ∧ (9 ≤ wd * hi ∧ wd * hi ≤ 256)) ∧ (P.length : Int) = wd * hi ∧ (L.length : Int) = wd * hi) := by
  have h' := fieldB_iff.1 h
  exact ⟨fitsB_b h'.2, validS_b h'.1⟩
theorem not_true {b : Bool} (h : b = true → False) : b = false := by cases b <;> simp_all
theorem fits_yes (h1 : (E.length : Int) = wd * hi) (h2 : (X.length : Int) = wd * hi) (h3 : (Y.length : Int) = wd * hi) (h : ∀ i, 0 ≤ i → i < wd * hi → edgeB wd hi E X Y (i % wd) (i / wd) i = false) : fitsB wd hi wr E X Y = true := fits_iff.2 ⟨⟨h1, h2, h3⟩, .inr h⟩
theorem fits_wrap (h1 : (E.length : Int) = wd * hi) (h2 : (X.length : Int) = wd * hi) (h3 : (Y.length : Int) = wd * hi) : fitsB wd hi true E X Y = true := fits_iff.2 ⟨⟨h1, h2, h3⟩, .inl rfl⟩
theorem fits_n1 (h1 : ¬ (E.length : Int) = wd * hi) : fitsB wd hi wr E X Y = false := not_true fun h => h1 (fitsB_b h).1
theorem fits_n2 (h1 : ¬ (X.length : Int) = wd * hi) : fitsB wd hi wr E X Y = false := not_true fun h => h1 (fitsB_b h).2.1
theorem fits_n3 (h1 : ¬ (Y.length : Int) = wd * hi) : fitsB wd hi wr E X Y = false := not_true fun h => h1 (fitsB_b h).2.2
theorem fits_no {x y : Int} (h0 : 0 ≤ x) (h1 : x < wd) (h2 : 0 ≤ y) (h3 : y < hi) (h : edgeB wd hi E X Y x y (x + wd * y) = true) : fitsB wd hi false E X Y = false := not_true fun hf => by
  have h4 := row_lt h0 h1 h2 h3
  have h5 := divmod_row (y := y) h0 h1
  rcases (fits_iff.1 hf).2 with h6 | h6
  · cases h6
  · have := h6 _ h4.1 h4.2
    rw [h5.1, h5.2, h] at this; cases this
theorem edge_more {i : Int} (h : ∀ j, 0 ≤ j → j < i → edgeB wd hi E X Y (j % wd) (j / wd) j = false) (hi' : edgeB wd hi E X Y (i % wd) (i / wd) i = false) : ∀ j, 0 ≤ j → j < i + 1 → edgeB wd hi E X Y (j % wd) (j / wd) j = false := fun j h0 h1 => by
  by_cases e : j = i
  · rw [e]; exact hi'
  · exact h j h0 (by omega)
theorem edge_row {x y : Int} (h : ∀ j, 0 ≤ j → j < wd * y + x → edgeB wd hi E X Y (j % wd) (j / wd) j = false) (he : edgeB wd hi E X Y x y (x + wd * y) = false) (h0 : 0 ≤ x) (h1 : x < wd) (_h2 : 0 ≤ y) :
    ∀ j, 0 ≤ j → j < wd * y + (x + 1) → edgeB wd hi E X Y (j % wd) (j / wd) j = false := fun j h3 h4 => by
  have h5 := divmod_row (y := y) h0 h1
  by_cases e : j = x + wd * y
  · rw [e, h5.1, h5.2]; exact he
  · exact h j h3 (by omega)
theorem field_yes (h0 : validS wd hi P L = true) (h1 : (E.length : Int) = wd * hi) (h2 : (X.length : Int) = wd * hi) (h3 : (Y.length : Int) = wd * hi) (h : ∀ i, 0 ≤ i → i < wd * hi → edgeB wd hi E X Y (i % wd) (i / wd) i = false) : fieldB wd hi wr P L E X Y = true :=
  fieldB_iff.2 ⟨h0, fits_yes h1 h2 h3 h⟩
theorem field_wrap (h0 : validS wd hi P L = true) (h1 : (E.length : Int) = wd * hi) (h2 : (X.length : Int) = wd * hi) (h3 : (Y.length : Int) = wd * hi) : fieldB wd hi true P L E X Y = true := fieldB_iff.2 ⟨h0, fits_wrap h1 h2 h3⟩
theorem field_no {i : Int} (h0 : 0 ≤ i) (h1 : i < wd * hi) (h : edgeB wd hi E X Y (i % wd) (i / wd) i = true) : fieldB wd hi false P L E X Y = false := not_true fun hf => by
  rcases (fits_iff.1 (fieldB_iff.1 hf).2).2 with h6 | h6
  · cases h6
  · have := h6 _ h0 h1
    rw [h] at this; cases this
theorem field_n0 (h0 : ¬ validS wd hi P L = true) : fieldB wd hi wr P L E X Y = false := not_true fun h => h0 (fieldB_iff.1 h).1
theorem field_n1 (h1 : ¬ (E.length : Int) = wd * hi) : fieldB wd hi wr P L E X Y = false := not_true fun h => h1 (fieldB_b h).1.1
theorem field_n2 (h1 : ¬ (X.length : Int) = wd * hi) : fieldB wd hi wr P L E X Y = false := not_true fun h => h1 (fieldB_b h).1.2.1
theorem field_n3 (h1 : ¬ (Y.length : Int) = wd * hi) : fieldB wd hi wr P L E X Y = false := not_true fun h => h1 (fieldB_b h).1.2.2
def valB (wd hi : Int) (wr : Bool) (P L E X Y : List Nat) (x y : Int) : Bool := fieldB wd hi wr P L E X Y && cellB wd hi x y
theorem valB_b {x y : Int} (h : valB wd hi wr P L E X Y x y = true) : ((0 ≤ x ∧ x ≤ wd - 1) ∧ (0 ≤ y ∧ y ≤ hi - 1)) ∧ ((E.length : Int) = wd * hi ∧ (X.length : Int) = wd * hi ∧ (Y.length : Int) = wd * hi) ∧ ((((3 ≤ wd ∧ wd ≤ 16) ∧ (3 ≤ hi ∧ hi ≤ 16)) ∧ (9 ≤ wd * hi ∧ wd * hi ≤ 256)) ∧ (P.length : Int) = wd * hi ∧ (L.length : Int) = wd * hi) := by
  simp only [valB, Bool.and_eq_true] at h
  exact ⟨cellB_b h.2, fieldB_b h.1⟩
end
/-- What a function makes of the numbers of two lists; opposites. -/
def zipL (n : Int) (FM : Nat → Nat → Nat) (A B : List Nat) : List Nat := tab n fun i => FM (el A i) (el B i)
def negL (n : Int) (X : List Nat) : List Nat := tab n fun i => fneg .f32 (el X i)
theorem negL_zip (n : Int) (X : List Nat) : zipL n (fun a _ => fneg .f32 a) X X = negL n X := rfl
theorem tab_snoc {n : Int} {g : Int → Nat} {v : Nat} (h : 0 ≤ n) (hv : v = g n) : tab n g ++ [v] = tab (n + 1) g := by rw [tab_succ h, hv]
def mirY (wd hi : Int) (X : List Nat) : List Nat := tab (wd * hi) fun i => fneg .f32 (el X ((2 * wd - 2 - i % wd) % wd + wd * (i / wd)))
theorem place_1 {X : List Nat} {W H dx dy : Int} : placeL X W H 1 dx dy = mirY W H X := rfl
theorem mirY_i {wd hi : Int} {X : List Nat} {n : Int} (hn : n = wd * hi) (h0 : 0 < wd) : negL n (movL wd hi (fun x y => atI wd hi (wd - 2 - x) y) X) = mirY wd hi X := by
  subst hn
  unfold negL mirY
  apply tab_ext
  intro i h1 h2
  obtain ⟨a, b, _⟩ := row_of h1 h2 h0
  rw [movL, el_tab h1 h2]
  unfold atI
  rw [Int.add_emod_right (i / wd), Int.emod_eq_of_lt b.1 b.2, show wd - 2 - i % wd + wd = 2 * wd - 2 - i % wd by omega]
def shfB (wd hi : Int) (wr : Bool) (P L E X Y : List Nat) (x y : Int) : Bool := shB wd hi wr P L x y && fieldB wd hi wr P L E X Y
theorem shfB_b {wd hi x y : Int} {wr : Bool} {P L E X Y : List Nat} (h : shfB wd hi wr P L E X Y x y = true) : ((-16 ≤ x ∧ x ≤ 16) ∧ (-16 ≤ y ∧ y ≤ 16)) ∧ ((E.length : Int) = wd * hi ∧ (X.length : Int) = wd * hi ∧ (Y.length : Int) = wd * hi) ∧ ((((3 ≤ wd ∧ wd ≤ 16) ∧ (3 ≤ hi ∧ hi ≤ 16)) ∧ (9 ≤ wd * hi ∧ wd * hi ≤ 256)) ∧ (P.length : Int) = wd * hi ∧ (L.length : Int) = wd * hi) := by
  simp only [shfB, Bool.and_eq_true] at h
  have h2 := fieldB_b h.2
  exact ⟨(shB_b h.1).1, h2.1, h2.2⟩
theorem swpN_i {wd hi n : Int} {X : List Nat} (hn : n = hi * wd) (h1 : 0 < hi) : negL n (movL hi wd (fun x y => atI wd hi y x) X) = negL (wd * hi) (swpS wd hi X) := by rw [swp_i h1, hn, Int.mul_comm]
theorem swpN_s {wd hi n dx dy : Int} {X : List Nat} (hn : n = hi * wd) : negL n (placeL X hi wd 2 dx dy) = negL (wd * hi) (swpS wd hi X) := by rw [place_2, hn, Int.mul_comm]
end Go.Wv
