/- What the functions compute: sheets. -/
import Derived.Test.YtgohmocjjmkepaaM2
set_option linter.unusedSimpArgs false
set_option linter.unusedVariables false
namespace Go.Wv
def allI (n : Int) (p : Int → Bool) : Bool := (List.range n.toNat).all fun (i : Nat) => p (i : Int)
theorem allI_iff {n : Int} {p : Int → Bool} : allI n p = true ↔ ∀ i, 0 ≤ i → i < n → p i = true := by
  unfold allI
  rw [List.all_eq_true]
  constructor
  · intro h i h0 h1
    have := h i.toNat (List.mem_range.2 (by omega))
    rwa [Int.toNat_of_nonneg h0] at this
  · intro h i hi
    rw [List.mem_range] at hi
    exact h i (by omega) (by omega)
theorem allI_true {n : Int} {p : Int → Bool} (h : ∀ i, 0 ≤ i → i < n → p i = true) : allI n p = true := allI_iff.2 h
theorem allI_false {n i : Int} {p : Int → Bool} (h0 : 0 ≤ i) (h1 : i < n) (h : ¬ p i = true) : allI n p = false := by
  cases e : allI n p
  · rfl
  · exact absurd (allI_iff.1 e i h0 h1) h
theorem allI_more {k : Int} {p : Int → Bool} (h : ∀ i, 0 ≤ i → i < k → p i = true) (hk : p k = true) : ∀ i, 0 ≤ i → i < k + 1 → p i = true := fun i h0 h1 => by
  by_cases e : i = k
  · rw [e]; exact hk
  · exact h i h0 (by omega)
def betw (M : Nat) (X : List Nat) (i : Int) : Bool := fge .f32 (el X i) 0 && fle .f32 (el X i) M
theorem betw_yes {M : Nat} {X : List Nat} {i : Int} (h : fge .f32 (el X i) 0 = true) (h' : fle .f32 (el X i) M = true) : betw M X i = true := by simp [betw, h, h']
theorem betw_no1 {M : Nat} {X : List Nat} {i : Int} (h : ¬ fge .f32 (el X i) 0 = true) : ¬ betw M X i = true := by simp [betw, h]
theorem betw_no2 {M : Nat} {X : List Nat} {i : Int} (h : ¬ fle .f32 (el X i) M = true) : ¬ betw M X i = true := by simp [betw, h]
theorem gt_le {k : FloatKind} {x y z : Nat} (h : fge k x z = true) (hy : nanb k y = false) : fgt k x y = !fle k x y := by
  have hx : nanb k x = false := by
    cases hn : nanb k x
    · rfl
    · unfold fge at h; rw [order_nan hn] at h; cases h
  unfold fgt fle
  show ((k.format.read x).order (k.format.read y) == _) = !((k.format.read x).order (k.format.read y) == _ || (k.format.read x).order (k.format.read y) == _)
  unfold nanb at hx hy
  cases hd : k.format.read x with
  | nan s t => rw [hd] at hx; cases hx
  | number s m p =>
    cases hd' : k.format.read y with
    | nan s' t' => rw [hd'] at hy; cases hy
    | infinity s' => cases s' <;> rfl
    | number s' m' p' =>
      simp only [Ieee.Datum.order]
      generalize (compare (_ : Int) _) = o
      cases o <;> rfl
  | infinity s =>
    cases hd' : k.format.read y with
    | nan s' t' => rw [hd'] at hy; cases hy
    | infinity s' => cases s <;> cases s' <;> rfl
    | number s' m' p' => cases s <;> rfl
def HALF : Nat := 1056964608
theorem half_not : nanb .f32 1056964608 = false := by kernel_rfl
theorem one_not : nanb .f32 1065353216 = false := by kernel_rfl
theorem betw_g {M : Nat} {X : List Nat} {i : Int} (hM : nanb .f32 M = false) (h : fge .f32 (el X i) 0 = true) (h' : ¬ fgt .f32 (el X i) M = true) : betw M X i = true := by
  rw [gt_le h hM] at h'; simp at h'; exact betw_yes h h'
theorem betw_ng {M : Nat} {X : List Nat} {i : Int} (hM : nanb .f32 M = false) (h : fge .f32 (el X i) 0 = true) (h' : fgt .f32 (el X i) M = true) : ¬ betw M X i = true := by
  rw [gt_le h hM] at h'; simp at h'; exact betw_no2 (by simp [h'])
def sidesB (wd hi : Int) : Bool := within wd 3 16 && within hi 3 16
def validS (wd hi : Int) (P L : List Nat) : Bool :=
  sidesB wd hi && decide ((P.length : Int) = wd * hi) && decide ((L.length : Int) = wd * hi) && allI P.length (betw 1056964608 P) && allI L.length (betw 1065353216 L)
theorem mulb {a b : Int} (h0 : 0 ≤ a) (h1 : a ≤ 1024) (h2 : 0 ≤ b) (h3 : b ≤ 1024) : 0 ≤ a * b ∧ a * b ≤ 1048576 :=
  ⟨Int.mul_nonneg h0 h2, Int.le_trans (Int.mul_le_mul h1 h3 h2 (by decide)) (by decide)⟩
theorem mul16 {a b : Int} (h : (3 ≤ a ∧ a ≤ 16) ∧ (3 ≤ b ∧ b ≤ 16)) : 9 ≤ a * b ∧ a * b ≤ 256 :=
  ⟨Int.le_trans (by decide) (Int.mul_le_mul h.1.1 h.2.1 (by decide) (by omega)), Int.le_trans (Int.mul_le_mul h.1.2 h.2.2 (by omega) (by decide)) (by decide)⟩
theorem sides_b {wd hi : Int} (h : sidesB wd hi = true) : ((3 ≤ wd ∧ wd ≤ 16) ∧ (3 ≤ hi ∧ hi ≤ 16)) ∧ (9 ≤ wd * hi ∧ wd * hi ≤ 256) := by
  simp only [sidesB, Bool.and_eq_true] at h
  have h' := And.intro (within_b h.1) (within_b h.2)
  exact ⟨h', mul16 h'⟩
theorem sides_of {wd hi : Int} (h : within wd 3 16 = true) (h' : within hi 3 16 = true) : sidesB wd hi = true := by simp [sidesB, h, h']
theorem validS_iff {wd hi : Int} {P L : List Nat} : validS wd hi P L = true ↔ sidesB wd hi = true ∧ (P.length : Int) = wd * hi ∧ (L.length : Int) = wd * hi ∧ (∀ i, 0 ≤ i → i < wd * hi → betw 1056964608 P i = true) ∧ (∀ i, 0 ≤ i → i < wd * hi → betw 1065353216 L i = true) := by
  simp only [validS, Bool.and_eq_true, allI_iff, decide_eq_true_eq]
  constructor
  · rintro ⟨⟨⟨⟨h1, h2⟩, h3⟩, h4⟩, h5⟩
    rw [h2] at h4; rw [h3] at h5
    exact ⟨h1, h2, h3, h4, h5⟩
  · rintro ⟨h1, h2, h3, h4, h5⟩
    refine ⟨⟨⟨⟨h1, h2⟩, h3⟩, ?_⟩, ?_⟩
    · rw [h2]; exact h4
    · rw [h3]; exact h5
theorem validS_eq {wd hi : Int} {P L : List Nat} {n m : Nat} (h1 : P.length = n) (h2 : L.length = m) : validS wd hi P L = (within wd 3 16 && within hi 3 16 && decide ((n : Int) = wd * hi) && decide ((m : Int) = wd * hi) && allI n (betw 1056964608 P) && allI m (betw 1065353216 L)) := by subst h1; subst h2; rfl
theorem validS_b {wd hi : Int} {P L : List Nat} (h : validS wd hi P L = true) : (((3 ≤ wd ∧ wd ≤ 16) ∧ (3 ≤ hi ∧ hi ≤ 16)) ∧ (9 ≤ wd * hi ∧ wd * hi ≤ 256)) ∧ (P.length : Int) = wd * hi ∧ (L.length : Int) = wd * hi := by
  have h' := validS_iff.1 h
  exact ⟨sides_b h'.1, h'.2.1, h'.2.2.1⟩
theorem validS_yes {wd hi : Int} {P L : List Nat} (h1 : sidesB wd hi = true) (h2 : (P.length : Int) = wd * hi) (h3 : (L.length : Int) = wd * hi) (h4 : ∀ i, 0 ≤ i → i < wd * hi → (betw 1056964608 P i && betw 1065353216 L i) = true) : validS wd hi P L = true :=
  validS_iff.2 ⟨h1, h2, h3, fun i a b => by have := h4 i a b; simp at this; exact this.1, fun i a b => by have := h4 i a b; simp at this; exact this.2⟩
theorem validS_no {wd hi i : Int} {P L : List Nat} (_h2 : (P.length : Int) = wd * hi) (h0 : 0 ≤ i) (h1 : i < wd * hi) (h : ¬ betw 1056964608 P i = true ∨ ¬ betw 1065353216 L i = true) : validS wd hi P L = false := by
  cases e : validS wd hi P L
  · rfl
  · have := validS_iff.1 e
    rcases h with h | h
    · exact absurd (this.2.2.2.1 i h0 h1) h
    · exact absurd (this.2.2.2.2 i h0 h1) h
/-- The index of a cell, around the edges. -/
def atI (wd hi x y : Int) : Int := (x + wd) % wd + wd * ((y + hi) % hi)
theorem row_lt {wd hi a b : Int} (h0 : 0 ≤ a) (h1 : a < wd) (h2 : 0 ≤ b) (h3 : b < hi) : 0 ≤ a + wd * b ∧ a + wd * b < wd * hi := by
  have h4 : 0 ≤ wd * b := Int.mul_nonneg (by omega) h2
  have h5 : wd * (b + 1) ≤ wd * hi := Int.mul_le_mul_of_nonneg_left (by omega) (by omega)
  rw [Int.mul_add, Int.mul_one] at h5
  omega
theorem atI_b {wd hi x y : Int} (h0 : 0 < wd) (h1 : 0 < hi) : 0 ≤ atI wd hi x y ∧ atI wd hi x y < wd * hi :=
  row_lt (Int.emod_nonneg _ (by omega)) (Int.emod_lt_of_pos _ h0) (Int.emod_nonneg _ (by omega)) (Int.emod_lt_of_pos _ h1)
theorem atI_in {wd hi x y : Int} (h0 : 0 ≤ x) (h1 : x < wd) (h2 : 0 ≤ y) (h3 : y < hi) : atI wd hi x y = x + wd * y := by
  unfold atI
  rw [Int.add_emod_right, Int.add_emod_right, Int.emod_eq_of_lt h0 h1, Int.emod_eq_of_lt h2 h3]
theorem divmod_row {wd x y : Int} (h0 : 0 ≤ x) (h1 : x < wd) : (x + wd * y) % wd = x ∧ (x + wd * y) / wd = y := by
  rw [Int.add_mul_emod_self_left, Int.emod_eq_of_lt h0 h1, Int.add_mul_ediv_left _ _ (by omega), Int.ediv_eq_zero_of_lt h0 h1, Int.zero_add]
  exact ⟨rfl, rfl⟩
theorem row_of {wd hi i : Int} (h0 : 0 ≤ i) (h1 : i < wd * hi) (hw : 0 < wd) : (0 ≤ i % wd ∧ i % wd < wd) ∧ (0 ≤ i / wd ∧ i / wd < hi) ∧ i % wd + wd * (i / wd) = i := by
  refine ⟨⟨Int.emod_nonneg _ (by omega), Int.emod_lt_of_pos _ hw⟩, ⟨Int.ediv_nonneg h0 (by omega), ?_⟩, Int.emod_add_mul_ediv i wd⟩
  rw [Int.ediv_lt_iff_lt_mul hw, Int.mul_comm]; exact h1
theorem cn_tab {n : Int} {g h : Int → Nat} (e : ∀ i, 0 ≤ i → i < n → can .f32 (g i) = h i) : cn (tab n g) = tab n h := by
  unfold cn tab
  rw [List.map_map]
  apply List.map_congr_left
  intro i hi
  rw [List.mem_range] at hi
  exact e i (by omega) (by omega)
theorem tmod_b {x m : Int} (h : 0 < m) : -m < x.tmod m ∧ x.tmod m < m := by
  have h1 := Int.natAbs_tmod x m
  have h2 : x.natAbs % m.natAbs < m.natAbs := Nat.mod_lt _ (by omega)
  omega
theorem rem_b {x m : Int} (_h0 : 0 ≤ x) (h : 0 < m) : 0 ≤ x % m ∧ x % m < m := ⟨Int.emod_nonneg x (by omega), Int.emod_lt_of_pos x h⟩
theorem quo_b {x m : Int} (h0 : 0 ≤ x) (h : 0 < m) : 0 ≤ x / m ∧ x / m ≤ x := ⟨Int.ediv_nonneg h0 (by omega), Int.ediv_le_self _ h0⟩
theorem mul_rem {a x m : Int} (h0 : 0 ≤ a) (h1 : a ≤ 1024) (h2 : 0 < m) (h3 : m ≤ 1024) : 0 ≤ a * (x % m) ∧ a * (x % m) ≤ 1048576 := by
  have h4 := Int.emod_nonneg x (show m ≠ 0 by omega)
  have h5 := Int.emod_lt_of_pos x h2
  exact mulb h0 h1 h4 (by omega)
theorem tab_row {W x y : Int} {g : Int → Int → Nat} (h0 : 0 ≤ x) (h1 : x < W) (h2 : 0 ≤ y) : tab (W * y + x) (fun i => g (i % W) (i / W)) ++ [g x y] = tab (W * y + (x + 1)) (fun i => g (i % W) (i / W)) := by
  have h3 : 0 ≤ W * y := Int.mul_nonneg (by omega) h2
  rw [← Int.add_assoc, tab_succ (by omega)]
  have := divmod_row (y := y) h0 h1
  rw [Int.add_comm x] at this
  rw [this.1, this.2]
/-- The numbers of a sheet's cells, taken to other places. -/
def movL (W H : Int) (g : Int → Int → Int) (X : List Nat) : List Nat := tab (W * H) fun i => el X (g (i % W) (i / W))
theorem movL_ext {W H : Int} {g h : Int → Int → Int} {X : List Nat} (hW : 0 < W) (e : ∀ x y, 0 ≤ x → x < W → 0 ≤ y → y < H → g x y = h x y) : movL W H g X = movL W H h X := by
  unfold movL
  apply tab_ext
  intro i h0 h1
  obtain ⟨a, b, _⟩ := row_of h0 h1 hW
  rw [e _ _ a.1 a.2 b.1 b.2]
theorem cn_movL {W H : Int} {g : Int → Int → Int} {x X : List Nat} (h : cn x = X) : cn (movL W H g x) = movL W H g X := cn_tab fun _ _ _ => cn_el h _
theorem movL_length {W H : Int} {g : Int → Int → Int} {X : List Nat} : (movL W H g X).length = (W * H).toNat := tab_length _ _
def mirS (wd hi : Int) (X : List Nat) : List Nat := movL wd hi (fun x y => wd - 1 - x + wd * y) X
def swpS (wd hi : Int) (X : List Nat) : List Nat := movL hi wd (fun x y => y + wd * x) X
def shfS (wd hi dx dy : Int) (X : List Nat) : List Nat := movL wd hi (fun x y => (x - dx) % wd + wd * ((y - dy) % hi)) X
theorem mir_i {wd hi : Int} {X : List Nat} (h0 : 0 < wd) : movL wd hi (fun x y => atI wd hi (wd - 1 - x) y) X = mirS wd hi X :=
  movL_ext h0 fun x y a b c d => atI_in (by omega) (by omega) c d
theorem swp_i {wd hi : Int} {X : List Nat} (h1 : 0 < hi) : movL hi wd (fun x y => atI wd hi y x) X = swpS wd hi X :=
  movL_ext h1 fun x y a b c d => atI_in c d a b
theorem shift_mod {x d m k : Int} : (x - d + k * m) % m = (x - d) % m := Int.add_mul_emod_self_right ..
theorem shf_i {wd hi dx dy : Int} {X : List Nat} (h0 : 0 < wd) (h1 : 0 < hi) : movL wd hi (fun x y => atI wd hi ((x - dx + 16 * wd) % wd) ((y - dy + 16 * hi) % hi)) X = shfS wd hi dx dy X :=
  movL_ext h0 fun x y a b c d => by
    rw [atI_in (Int.emod_nonneg _ (by omega)) (Int.emod_lt_of_pos _ h0) (Int.emod_nonneg _ (by omega)) (Int.emod_lt_of_pos _ h1), shift_mod, shift_mod]
/-- What 'l02Place' takes to a cell. -/
def placeV (X : List Nat) (W H way dx dy x y : Int) : Nat :=
  if way = 0 then el X (W - 1 - x + W * y) else if way = 1 then fneg .f32 (el X ((2 * W - 2 - x) % W + W * y)) else if way = 2 then el X (y + H * x)
  else el X ((x - dx + 2 * W) % W + W * ((y - dy + 2 * H) % H))
def placeL (X : List Nat) (W H way dx dy : Int) : List Nat := tab (W * H) fun i => placeV X W H way dx dy (i % W) (i / W)
theorem place_0 {X : List Nat} {W H dx dy : Int} : placeL X W H 0 dx dy = mirS W H X := rfl
theorem place_2 {X : List Nat} {W H dx dy : Int} : placeL X W H 2 dx dy = swpS H W X := rfl
theorem tmod_sub (x d m : Int) : (x - d.tmod m + 2 * m) % m = (x - d) % m := by
  rw [shift_mod]
  have h := Int.tmod_add_mul_tdiv d m
  rw [show x - d = x - d.tmod m + m * (-(d.tdiv m)) by rw [Int.mul_neg]; omega, Int.add_mul_emod_self_left]
theorem place_3 {X : List Nat} {W H dx dy : Int} : placeL X W H 3 (dx.tmod W) (dy.tmod H) = shfS W H dx dy X := by
  unfold placeL shfS movL
  simp only [placeV, tmod_sub]
  rfl
theorem tab_rowv {W x y : Int} {v : Nat} {g : Int → Int → Nat} (hv : v = g x y) (h0 : 0 ≤ x) (h1 : x < W) (h2 : 0 ≤ y) : tab (W * y + x) (fun i => g (i % W) (i / W)) ++ [v] = tab (W * y + (x + 1)) (fun i => g (i % W) (i / W)) := by
  subst hv; exact tab_row h0 h1 h2
def shiftB (x y : Int) : Bool := within x (-16) 16 && within y (-16) 16
def shB (wd hi : Int) (wr : Bool) (P L : List Nat) (x y : Int) : Bool := validS wd hi P L && wr && within x (-16) 16 && within y (-16) 16
theorem shiftB_b {x y : Int} (h : shiftB x y = true) : (-16 ≤ x ∧ x ≤ 16) ∧ (-16 ≤ y ∧ y ≤ 16) := by
  simp only [shiftB, Bool.and_eq_true] at h
  exact ⟨within_b h.1, within_b h.2⟩
theorem shB_eq {wd hi x y : Int} {wr : Bool} {P L : List Nat} : shB wd hi wr P L x y = (validS wd hi P L && wr && shiftB x y) := by
  simp only [shB, shiftB, Bool.and_assoc]
theorem shB_b {wd hi x y : Int} {wr : Bool} {P L : List Nat} (h : shB wd hi wr P L x y = true) : ((-16 ≤ x ∧ x ≤ 16) ∧ (-16 ≤ y ∧ y ≤ 16)) ∧ ((((3 ≤ wd ∧ wd ≤ 16) ∧ (3 ≤ hi ∧ hi ≤ 16)) ∧ (9 ≤ wd * hi ∧ wd * hi ≤ 256)) ∧ (P.length : Int) = wd * hi ∧ (L.length : Int) = wd * hi) := by
  rw [shB_eq] at h
  simp only [Bool.and_eq_true] at h
  exact ⟨shiftB_b h.2, validS_b h.1.1⟩
end Go.Wv
