/- Texts that the walks rest on, joined. -/
import Derived.Test.YtgohmocjjmkepaaBaseB
set_option linter.unusedSimpArgs false
set_option linter.unusedVariables false
/- What the functions compute. -/
namespace Go.Wv
def within (n lo hi : Int) : Bool := decide (lo ≤ n) && decide (n ≤ hi)
def isTick (n : Int) : Bool := within n 0 1000000
def isSeed (n : Int) : Bool := within n 0 2147483647
/-- 'x - x == 0' -/
def finB (x : Nat) : Bool := feq .f32 (fop .sub .f32 x x) 0
theorem within_b {n lo hi : Int} (h : within n lo hi = true) : lo ≤ n ∧ n ≤ hi := by simpa [within] using h
theorem isTick_b {n : Int} (h : isTick n = true) : 0 ≤ n ∧ n ≤ 1000000 := within_b h
theorem isSeed_b {n : Int} (h : isSeed n = true) : 0 ≤ n ∧ n ≤ 2147483647 := within_b h
theorem isSeed_lo {n : Int} (h : isSeed n = true) : 0 ≤ n := by simp [isSeed, within] at h; omega
theorem isSeed_hi {n : Int} (h : isSeed n = true) : n ≤ 2147483647 := by simp [isSeed, within] at h; omega
def nextS (x : Int) : Int := (1103515245 * x + 12345) % 2147483648
def validW (kd tt ln : Int) (tn : Nat) (sd : Int) : Bool := within kd 0 4 && isTick tt && within ln 1 1000000 && finB tn && isSeed sd
theorem validW_b {kd tt ln : Int} {tn : Nat} {sd : Int} (h : validW kd tt ln tn sd = true) : (0 ≤ kd ∧ kd ≤ 4) ∧ (0 ≤ tt ∧ tt ≤ 1000000) ∧ (1 ≤ ln ∧ ln ≤ 1000000) ∧ finB tn = true ∧ (0 ≤ sd ∧ sd ≤ 2147483647) := by
  simp only [validW, Bool.and_eq_true] at h
  exact ⟨within_b h.1.1.1.1, isTick_b h.1.1.1.2, within_b h.1.1.2, h.1.2, isSeed_b h.2⟩
def laterB (kd tt ln : Int) (tn : Nat) (sd y : Int) : Bool := validW kd tt ln tn sd && within y (-1000000) 1000000 && isTick (tt + y)
theorem later_valid {kd tt ln : Int} {tn : Nat} {sd y : Int} (h : validW kd tt ln tn sd = true) : validW kd (tt + y) ln tn sd = isTick (tt + y) := by
  simp only [validW, Bool.and_eq_true] at h
  simp [validW, h]
end Go.Wv

/- What the functions compute: lists. -/
namespace Go.Wv
/-- The first index from one on whose number is at least so great; -1 if there is none. -/
def firstGe (X : List Nat) (L : Nat) : Nat → Int → Int
  | 0, _ => -1
  | n + 1, k => if fge .f32 (szX (el X k)) L = true then k else firstGe X L n (k + 1)
def arrOk (X : List Nat) (L : Nat) : Bool := decide (X.length ≤ 64) && finB L && fgt .f32 L 0
def arrI (X : List Nat) (L : Nat) : Int := if arrOk X L = true then firstGe X L X.length 0 else -1
theorem firstGe_step {X : List Nat} {L n : Nat} {k : Int} (h : k < n) : firstGe X L (n - k).toNat k = if fge .f32 (szX (el X k)) L = true then k else firstGe X L (n - (k + 1)).toNat (k + 1) := by
  rw [show ((n : Int) - k).toNat = (n - (k + 1) : Int).toNat + 1 by omega]; rfl
theorem firstGe_end {X : List Nat} {L n : Nat} {k : Int} (h : ¬ k < n) : firstGe X L (n - k).toNat k = -1 := by
  rw [show ((n : Int) - k).toNat = 0 by omega]; rfl
theorem arrOk_i {X : List Nat} {L : Nat} (h : X.length ≤ 64) (h1 : finB L = true) (h2 : fgt .f32 L 0 = true) : arrOk X L = true := by simp [arrOk, h, h1, h2]
theorem finB_not {L : Nat} (h : finB L = true) : nanb .f32 L = false := by
  cases hn : nanb .f32 L
  · rfl
  · unfold finB fop floatBits at h
    have h1 : FloatKind.f32.format.sub L L = none := by
      show ((FloatKind.f32.format.read L).sum _).map _ = none
      unfold nanb at hn
      cases hd : FloatKind.f32.format.read L with
      | number s m p => rw [hd] at hn; cases hn
      | infinity s => rw [hd] at hn; cases hn
      | nan s t => rfl
    simp only [h1] at h
    rw [show (none : Option Nat).getD (qnan .f32) = qnan .f32 from rfl] at h
    unfold feq at h
    rw [order_nan (nanb_qnan .f32)] at h
    cases h
theorem not_le_gt {L : Nat} (h : finB L = true) : fgt .f32 L 0 = !fle .f32 L 0 := by
  have hn := finB_not h
  unfold fgt fle
  show ((FloatKind.f32.format.read L).order _ == _) = _
  have hz : FloatKind.f32.format.read 0 = .number false 0 FloatKind.f32.format.leastPlace := read_zero .f32
  show _ = !((FloatKind.f32.format.read L).order (FloatKind.f32.format.read 0) == _ || (FloatKind.f32.format.read L).order (FloatKind.f32.format.read 0) == _)
  rw [hz]
  unfold nanb at hn
  cases hd : FloatKind.f32.format.read L with
  | number s m p =>
    simp only [Ieee.Datum.order]
    generalize (compare (_ : Int) _) = o
    cases o <;> rfl
  | infinity s => cases s <;> rfl
  | nan s t => rw [hd] at hn; cases hn
theorem arrOk_s {X : List Nat} {L : Nat} (h : X.length ≤ 64) (h1 : finB L = true) (h2 : ¬ fle .f32 L 0 = true) : arrOk X L = true := by
  simp [arrOk, h, h1, not_le_gt h1, h2]
theorem arrOk_len {X : List Nat} {L : Nat} (h : 64 < X.length) : arrOk X L = false := by simp [arrOk]; omega
theorem arrOk_fin {X : List Nat} {L : Nat} (h : ¬ finB L = true) : arrOk X L = false := by simp [arrOk, h]
theorem arrOk_gt {X : List Nat} {L : Nat} (h : ¬ fgt .f32 L 0 = true) : arrOk X L = false := by simp [arrOk, h]
theorem arrOk_le {X : List Nat} {L : Nat} (h : fle .f32 L 0 = true) : arrOk X L = false := by
  by_cases h1 : finB L = true
  · simp [arrOk, not_le_gt h1, h]
  · simp [arrOk, h1]
theorem arr_start {X : List Nat} {L n : Nat} (h : arrOk X L = true) (hn : X.length = n) : arrI X L = firstGe X L ((n : Int) - 0).toNat 0 := by
  rw [arrI, if_pos h, ← hn]; simp
theorem arr_step {X : List Nat} {L n : Nat} {k : Int} (h : k < n) (hM : arrI X L = firstGe X L ((n : Int) - k).toNat k) (hc : ¬ fge .f32 (szX (el X k)) L = true) : arrI X L = firstGe X L ((n : Int) - (k + 1)).toNat (k + 1) := by
  rw [hM, firstGe_step h, if_neg hc]
def arrV (i : Int) : Value := .tuple #[.int .i64 (if 0 ≤ i then i else 0), .bool (decide (0 ≤ i))]
theorem arr_yes {X : List Nat} {L n : Nat} {k : Int} (h0 : 0 ≤ k) (h : k < n) (hM : arrI X L = firstGe X L ((n : Int) - k).toNat k) (hc : fge .f32 (szX (el X k)) L = true) :
    Value.tuple #[.int .i64 k, .bool true] = .tuple #[.int .i64 (if 0 ≤ arrI X L then arrI X L else 0), .bool (decide (0 ≤ arrI X L))] := by
  rw [hM, firstGe_step h, if_pos hc]; simp [h0]
theorem arr_end {X : List Nat} {L n : Nat} {k : Int} (hM : arrI X L = firstGe X L ((n : Int) - k).toNat k) (h : ¬ k < n) :
    Value.tuple #[.int .i64 0, .bool false] = .tuple #[.int .i64 (if 0 ≤ arrI X L then arrI X L else 0), .bool (decide (0 ≤ arrI X L))] := by
  rw [hM, firstGe_end h]; simp
theorem arr_no {X : List Nat} {L : Nat} (h : arrOk X L = false) :
    Value.tuple #[.int .i64 0, .bool false] = .tuple #[.int .i64 (if 0 ≤ arrI X L then arrI X L else 0), .bool (decide (0 ≤ arrI X L))] := by
  simp [arrI, h]
end Go.Wv

/- What the functions compute: sheets. -/
namespace Go.Wv
def allI (n : Int) (p : Int → Bool) : Bool := (List.range n.toNat).all fun (i : Nat) => p (i : Int)
theorem allI_iff {n : Int} {p : Int → Bool} : allI n p = true ↔ ∀ i, 0 ≤ i → i < n → p i = true := by
  unfold allI
  rw [List.all_eq_true]
  constructor
  · intro h i h0 h1
    have := h i.toNat (List.mem_range.2 (by omega))
    rwa [Int.toNat_of_nonneg h0] at this
  · intro h i hi
    rw [List.mem_range] at hi
    exact h i (by omega) (by omega)
theorem allI_true {n : Int} {p : Int → Bool} (h : ∀ i, 0 ≤ i → i < n → p i = true) : allI n p = true := allI_iff.2 h
theorem allI_false {n i : Int} {p : Int → Bool} (h0 : 0 ≤ i) (h1 : i < n) (h : ¬ p i = true) : allI n p = false := by
  cases e : allI n p
  · rfl
  · exact absurd (allI_iff.1 e i h0 h1) h
theorem allI_more {k : Int} {p : Int → Bool} (h : ∀ i, 0 ≤ i → i < k → p i = true) (hk : p k = true) : ∀ i, 0 ≤ i → i < k + 1 → p i = true := fun i h0 h1 => by
  by_cases e : i = k
  · rw [e]; exact hk
  · exact h i h0 (by omega)
def betw (M : Nat) (X : List Nat) (i : Int) : Bool := fge .f32 (el X i) 0 && fle .f32 (el X i) M
theorem betw_yes {M : Nat} {X : List Nat} {i : Int} (h : fge .f32 (el X i) 0 = true) (h' : fle .f32 (el X i) M = true) : betw M X i = true := by simp [betw, h, h']
theorem betw_no1 {M : Nat} {X : List Nat} {i : Int} (h : ¬ fge .f32 (el X i) 0 = true) : ¬ betw M X i = true := by simp [betw, h]
theorem betw_no2 {M : Nat} {X : List Nat} {i : Int} (h : ¬ fle .f32 (el X i) M = true) : ¬ betw M X i = true := by simp [betw, h]
theorem gt_le {k : FloatKind} {x y z : Nat} (h : fge k x z = true) (hy : nanb k y = false) : fgt k x y = !fle k x y := by
  have hx : nanb k x = false := by
    cases hn : nanb k x
    · rfl
    · unfold fge at h; rw [order_nan hn] at h; cases h
  unfold fgt fle
  show ((k.format.read x).order (k.format.read y) == _) = !((k.format.read x).order (k.format.read y) == _ || (k.format.read x).order (k.format.read y) == _)
  unfold nanb at hx hy
  cases hd : k.format.read x with
  | nan s t => rw [hd] at hx; cases hx
  | number s m p =>
    cases hd' : k.format.read y with
    | nan s' t' => rw [hd'] at hy; cases hy
    | infinity s' => cases s' <;> rfl
    | number s' m' p' =>
      simp only [Ieee.Datum.order]
      generalize (compare (_ : Int) _) = o
      cases o <;> rfl
  | infinity s =>
    cases hd' : k.format.read y with
    | nan s' t' => rw [hd'] at hy; cases hy
    | infinity s' => cases s <;> cases s' <;> rfl
    | number s' m' p' => cases s <;> rfl
def HALF : Nat := 1056964608
theorem half_not : nanb .f32 1056964608 = false := by kernel_rfl
theorem one_not : nanb .f32 1065353216 = false := by kernel_rfl
theorem betw_g {M : Nat} {X : List Nat} {i : Int} (hM : nanb .f32 M = false) (h : fge .f32 (el X i) 0 = true) (h' : ¬ fgt .f32 (el X i) M = true) : betw M X i = true := by
  rw [gt_le h hM] at h'; simp at h'; exact betw_yes h h'
theorem betw_ng {M : Nat} {X : List Nat} {i : Int} (hM : nanb .f32 M = false) (h : fge .f32 (el X i) 0 = true) (h' : fgt .f32 (el X i) M = true) : ¬ betw M X i = true := by
  rw [gt_le h hM] at h'; simp at h'; exact betw_no2 (by simp [h'])
def sidesB (wd hi : Int) : Bool := within wd 3 16 && within hi 3 16
def validS (wd hi : Int) (P L : List Nat) : Bool :=
  sidesB wd hi && decide ((P.length : Int) = wd * hi) && decide ((L.length : Int) = wd * hi) && allI P.length (betw 1056964608 P) && allI L.length (betw 1065353216 L)
theorem mulb {a b : Int} (h0 : 0 ≤ a) (h1 : a ≤ 1024) (h2 : 0 ≤ b) (h3 : b ≤ 1024) : 0 ≤ a * b ∧ a * b ≤ 1048576 :=
  ⟨Int.mul_nonneg h0 h2, Int.le_trans (Int.mul_le_mul h1 h3 h2 (by decide)) (by decide)⟩
theorem mul16 {a b : Int} (h : (3 ≤ a ∧ a ≤ 16) ∧ (3 ≤ b ∧ b ≤ 16)) : 9 ≤ a * b ∧ a * b ≤ 256 :=
  ⟨Int.le_trans (by decide) (Int.mul_le_mul h.1.1 h.2.1 (by decide) (by omega)), Int.le_trans (Int.mul_le_mul h.1.2 h.2.2 (by omega) (by decide)) (by decide)⟩
theorem sides_b {wd hi : Int} (h : sidesB wd hi = true) : ((3 ≤ wd ∧ wd ≤ 16) ∧ (3 ≤ hi ∧ hi ≤ 16)) ∧ (9 ≤ wd * hi ∧ wd * hi ≤ 256) := by
  simp only [sidesB, Bool.and_eq_true] at h
  have h' := And.intro (within_b h.1) (within_b h.2)
  exact ⟨h', mul16 h'⟩
theorem sides_of {wd hi : Int} (h : within wd 3 16 = true) (h' : within hi 3 16 = true) : sidesB wd hi = true := by simp [sidesB, h, h']
theorem validS_iff {wd hi : Int} {P L : List Nat} : validS wd hi P L = true ↔ sidesB wd hi = true ∧ (P.length : Int) = wd * hi ∧ (L.length : Int) = wd * hi ∧ (∀ i, 0 ≤ i → i < wd * hi → betw 1056964608 P i = true) ∧ (∀ i, 0 ≤ i → i < wd * hi → betw 1065353216 L i = true) := by
  simp only [validS, Bool.and_eq_true, allI_iff, decide_eq_true_eq]
  constructor
  · rintro ⟨⟨⟨⟨h1, h2⟩, h3⟩, h4⟩, h5⟩
    rw [h2] at h4; rw [h3] at h5
    exact ⟨h1, h2, h3, h4, h5⟩
  · rintro ⟨h1, h2, h3, h4, h5⟩
    refine ⟨⟨⟨⟨h1, h2⟩, h3⟩, ?_⟩, ?_⟩
    · rw [h2]; exact h4
    · rw [h3]; exact h5
theorem validS_eq {wd hi : Int} {P L : List Nat} {n m : Nat} (h1 : P.length = n) (h2 : L.length = m) : validS wd hi P L = (within wd 3 16 && within hi 3 16 && decide ((n : Int) = wd * hi) && decide ((m : Int) = wd * hi) && allI n (betw 1056964608 P) && allI m (betw 1065353216 L)) := by subst h1; subst h2; rfl
theorem validS_b {wd hi : Int} {P L : List Nat} (h : validS wd hi P L = true) : (((3 ≤ wd ∧ wd ≤ 16) ∧ (3 ≤ hi ∧ hi ≤ 16)) ∧ (9 ≤ wd * hi ∧ wd * hi ≤ 256)) ∧ (P.length : Int) = wd * hi ∧ (L.length : Int) = wd * hi := by
  have h' := validS_iff.1 h
  exact ⟨sides_b h'.1, h'.2.1, h'.2.2.1⟩
theorem validS_yes {wd hi : Int} {P L : List Nat} (h1 : sidesB wd hi = true) (h2 : (P.length : Int) = wd * hi) (h3 : (L.length : Int) = wd * hi) (h4 : ∀ i, 0 ≤ i → i < wd * hi → (betw 1056964608 P i && betw 1065353216 L i) = true) : validS wd hi P L = true :=
  validS_iff.2 ⟨h1, h2, h3, fun i a b => by have := h4 i a b; simp at this; exact this.1, fun i a b => by have := h4 i a b; simp at this; exact this.2⟩
theorem validS_no {wd hi i : Int} {P L : List Nat} (_h2 : (P.length : Int) = wd * hi) (h0 : 0 ≤ i) (h1 : i < wd * hi) (h : ¬ betw 1056964608 P i = true ∨ ¬ betw 1065353216 L i = true) : validS wd hi P L = false := by
  cases e : validS wd hi P L
  · rfl
  · have := validS_iff.1 e
    rcases h with h | h
    · exact absurd (this.2.2.2.1 i h0 h1) h
    · exact absurd (this.2.2.2.2 i h0 h1) h
/-- The index of a cell, around the edges. -/
def atI (wd hi x y : Int) : Int := (x + wd) % wd + wd * ((y + hi) % hi)
theorem row_lt {wd hi a b : Int} (h0 : 0 ≤ a) (h1 : a < wd) (h2 : 0 ≤ b) (h3 : b < hi) : 0 ≤ a + wd * b ∧ a + wd * b < wd * hi := by
  have h4 : 0 ≤ wd * b := Int.mul_nonneg (by omega) h2
  have h5 : wd * (b + 1) ≤ wd * hi := Int.mul_le_mul_of_nonneg_left (by omega) (by omega)
  rw [Int.mul_add, Int.mul_one] at h5
  omega
theorem atI_b {wd hi x y : Int} (h0 : 0 < wd) (h1 : 0 < hi) : 0 ≤ atI wd hi x y ∧ atI wd hi x y < wd * hi :=
  row_lt (Int.emod_nonneg _ (by omega)) (Int.emod_lt_of_pos _ h0) (Int.emod_nonneg _ (by omega)) (Int.emod_lt_of_pos _ h1)
theorem atI_in {wd hi x y : Int} (h0 : 0 ≤ x) (h1 : x < wd) (h2 : 0 ≤ y) (h3 : y < hi) : atI wd hi x y = x + wd * y := by
  unfold atI
  rw [Int.add_emod_right, Int.add_emod_right, Int.emod_eq_of_lt h0 h1, Int.emod_eq_of_lt h2 h3]
theorem divmod_row {wd x y : Int} (h0 : 0 ≤ x) (h1 : x < wd) : (x + wd * y) % wd = x ∧ (x + wd * y) / wd = y := by
  rw [Int.add_mul_emod_self_left, Int.emod_eq_of_lt h0 h1, Int.add_mul_ediv_left _ _ (by omega), Int.ediv_eq_zero_of_lt h0 h1, Int.zero_add]
  exact ⟨rfl, rfl⟩
theorem row_of {wd hi i : Int} (h0 : 0 ≤ i) (h1 : i < wd * hi) (hw : 0 < wd) : (0 ≤ i % wd ∧ i % wd < wd) ∧ (0 ≤ i / wd ∧ i / wd < hi) ∧ i % wd + wd * (i / wd) = i := by
  refine ⟨⟨Int.emod_nonneg _ (by omega), Int.emod_lt_of_pos _ hw⟩, ⟨Int.ediv_nonneg h0 (by omega), ?_⟩, Int.emod_add_mul_ediv i wd⟩
  rw [Int.ediv_lt_iff_lt_mul hw, Int.mul_comm]; exact h1
theorem cn_tab {n : Int} {g h : Int → Nat} (e : ∀ i, 0 ≤ i → i < n → can .f32 (g i) = h i) : cn (tab n g) = tab n h := by
  unfold cn tab
  rw [List.map_map]
  apply List.map_congr_left
  intro i hi
  rw [List.mem_range] at hi
  exact e i (by omega) (by omega)
theorem tmod_b {x m : Int} (h : 0 < m) : -m < x.tmod m ∧ x.tmod m < m := by
  have h1 := Int.natAbs_tmod x m
  have h2 : x.natAbs % m.natAbs < m.natAbs := Nat.mod_lt _ (by omega)
  omega
theorem rem_b {x m : Int} (_h0 : 0 ≤ x) (h : 0 < m) : 0 ≤ x % m ∧ x % m < m := ⟨Int.emod_nonneg x (by omega), Int.emod_lt_of_pos x h⟩
theorem quo_b {x m : Int} (h0 : 0 ≤ x) (h : 0 < m) : 0 ≤ x / m ∧ x / m ≤ x := ⟨Int.ediv_nonneg h0 (by omega), Int.ediv_le_self _ h0⟩
theorem mul_rem {a x m : Int} (h0 : 0 ≤ a) (h1 : a ≤ 1024) (h2 : 0 < m) (h3 : m ≤ 1024) : 0 ≤ a * (x % m) ∧ a * (x % m) ≤ 1048576 := by
  have h4 := Int.emod_nonneg x (show m ≠ 0 by omega)
  have h5 := Int.emod_lt_of_pos x h2
  exact mulb h0 h1 h4 (by omega)
theorem tab_row {W x y : Int} {g : Int → Int → Nat} (h0 : 0 ≤ x) (h1 : x < W) (h2 : 0 ≤ y) : tab (W * y + x) (fun i => g (i % W) (i / W)) ++ [g x y] = tab (W * y + (x + 1)) (fun i => g (i % W) (i / W)) := by
  have h3 : 0 ≤ W * y := Int.mul_nonneg (by omega) h2
  rw [← Int.add_assoc, tab_succ (by omega)]
  have := divmod_row (y := y) h0 h1
  rw [Int.add_comm x] at this
  rw [this.1, this.2]
/-- The numbers of a sheet's cells, taken to other places. -/
def movL (W H : Int) (g : Int → Int → Int) (X : List Nat) : List Nat := tab (W * H) fun i => el X (g (i % W) (i / W))
theorem movL_ext {W H : Int} {g h : Int → Int → Int} {X : List Nat} (hW : 0 < W) (e : ∀ x y, 0 ≤ x → x < W → 0 ≤ y → y < H → g x y = h x y) : movL W H g X = movL W H h X := by
  unfold movL
  apply tab_ext
  intro i h0 h1
  obtain ⟨a, b, _⟩ := row_of h0 h1 hW
  rw [e _ _ a.1 a.2 b.1 b.2]
theorem cn_movL {W H : Int} {g : Int → Int → Int} {x X : List Nat} (h : cn x = X) : cn (movL W H g x) = movL W H g X := cn_tab fun _ _ _ => cn_el h _
theorem movL_length {W H : Int} {g : Int → Int → Int} {X : List Nat} : (movL W H g X).length = (W * H).toNat := tab_length _ _
def mirS (wd hi : Int) (X : List Nat) : List Nat := movL wd hi (fun x y => wd - 1 - x + wd * y) X
def swpS (wd hi : Int) (X : List Nat) : List Nat := movL hi wd (fun x y => y + wd * x) X
def shfS (wd hi dx dy : Int) (X : List Nat) : List Nat := movL wd hi (fun x y => (x - dx) % wd + wd * ((y - dy) % hi)) X
theorem mir_i {wd hi : Int} {X : List Nat} (h0 : 0 < wd) : movL wd hi (fun x y => atI wd hi (wd - 1 - x) y) X = mirS wd hi X :=
  movL_ext h0 fun x y a b c d => atI_in (by omega) (by omega) c d
theorem swp_i {wd hi : Int} {X : List Nat} (h1 : 0 < hi) : movL hi wd (fun x y => atI wd hi y x) X = swpS wd hi X :=
  movL_ext h1 fun x y a b c d => atI_in c d a b
theorem shift_mod {x d m k : Int} : (x - d + k * m) % m = (x - d) % m := Int.add_mul_emod_self_right ..
theorem shf_i {wd hi dx dy : Int} {X : List Nat} (h0 : 0 < wd) (h1 : 0 < hi) : movL wd hi (fun x y => atI wd hi ((x - dx + 16 * wd) % wd) ((y - dy + 16 * hi) % hi)) X = shfS wd hi dx dy X :=
  movL_ext h0 fun x y a b c d => by
    rw [atI_in (Int.emod_nonneg _ (by omega)) (Int.emod_lt_of_pos _ h0) (Int.emod_nonneg _ (by omega)) (Int.emod_lt_of_pos _ h1), shift_mod, shift_mod]
/-- What 'l02Place' takes to a cell. -/
def placeV (X : List Nat) (W H way dx dy x y : Int) : Nat :=
  if way = 0 then el X (W - 1 - x + W * y) else if way = 1 then fneg .f32 (el X ((2 * W - 2 - x) % W + W * y)) else if way = 2 then el X (y + H * x)
  else el X ((x - dx + 2 * W) % W + W * ((y - dy + 2 * H) % H))
def placeL (X : List Nat) (W H way dx dy : Int) : List Nat := tab (W * H) fun i => placeV X W H way dx dy (i % W) (i / W)
theorem place_0 {X : List Nat} {W H dx dy : Int} : placeL X W H 0 dx dy = mirS W H X := rfl
theorem place_2 {X : List Nat} {W H dx dy : Int} : placeL X W H 2 dx dy = swpS H W X := rfl
theorem tmod_sub (x d m : Int) : (x - d.tmod m + 2 * m) % m = (x - d) % m := by
  rw [shift_mod]
  have h := Int.tmod_add_mul_tdiv d m
  rw [show x - d = x - d.tmod m + m * (-(d.tdiv m)) by rw [Int.mul_neg]; omega, Int.add_mul_emod_self_left]
theorem place_3 {X : List Nat} {W H dx dy : Int} : placeL X W H 3 (dx.tmod W) (dy.tmod H) = shfS W H dx dy X := by
  unfold placeL shfS movL
  simp only [placeV, tmod_sub]
  rfl
theorem tab_rowv {W x y : Int} {v : Nat} {g : Int → Int → Nat} (hv : v = g x y) (h0 : 0 ≤ x) (h1 : x < W) (h2 : 0 ≤ y) : tab (W * y + x) (fun i => g (i % W) (i / W)) ++ [v] = tab (W * y + (x + 1)) (fun i => g (i % W) (i / W)) := by
  subst hv; exact tab_row h0 h1 h2
def shiftB (x y : Int) : Bool := within x (-16) 16 && within y (-16) 16
def shB (wd hi : Int) (wr : Bool) (P L : List Nat) (x y : Int) : Bool := validS wd hi P L && wr && within x (-16) 16 && within y (-16) 16
theorem shiftB_b {x y : Int} (h : shiftB x y = true) : (-16 ≤ x ∧ x ≤ 16) ∧ (-16 ≤ y ∧ y ≤ 16) := by
  simp only [shiftB, Bool.and_eq_true] at h
  exact ⟨within_b h.1, within_b h.2⟩
theorem shB_eq {wd hi x y : Int} {wr : Bool} {P L : List Nat} : shB wd hi wr P L x y = (validS wd hi P L && wr && shiftB x y) := by
  simp only [shB, shiftB, Bool.and_assoc]
theorem shB_b {wd hi x y : Int} {wr : Bool} {P L : List Nat} (h : shB wd hi wr P L x y = true) : ((-16 ≤ x ∧ x ≤ 16) ∧ (-16 ≤ y ∧ y ≤ 16)) ∧ ((((3 ≤ wd ∧ wd ≤ 16) ∧ (3 ≤ hi ∧ hi ≤ 16)) ∧ (9 ≤ wd * hi ∧ wd * hi ≤ 256)) ∧ (P.length : Int) = wd * hi ∧ (L.length : Int) = wd * hi) := by
  rw [shB_eq] at h
  simp only [Bool.and_eq_true] at h
  exact ⟨shiftB_b h.2, validS_b h.1.1⟩
end Go.Wv

/- What the functions compute: cells, rects, borders. -/
namespace Go.Wv
def cellB (wd hi x y : Int) : Bool := within x 0 (wd - 1) && within y 0 (hi - 1)
theorem cellB_b {wd hi x y : Int} (h : cellB wd hi x y = true) : (0 ≤ x ∧ x ≤ wd - 1) ∧ (0 ≤ y ∧ y ≤ hi - 1) := by
  simp only [cellB, Bool.and_eq_true] at h
  exact ⟨within_b h.1, within_b h.2⟩
def vcellB (wd hi : Int) (P L : List Nat) (x y : Int) : Bool := validS wd hi P L && cellB wd hi x y
theorem vcellB_b {wd hi x y : Int} {P L : List Nat} (h : vcellB wd hi P L x y = true) : ((0 ≤ x ∧ x ≤ wd - 1) ∧ (0 ≤ y ∧ y ≤ hi - 1)) ∧ ((((3 ≤ wd ∧ wd ≤ 16) ∧ (3 ≤ hi ∧ hi ≤ 16)) ∧ (9 ≤ wd * hi ∧ wd * hi ≤ 256)) ∧ (P.length : Int) = wd * hi ∧ (L.length : Int) = wd * hi) := by
  simp only [vcellB, Bool.and_eq_true] at h
  exact ⟨cellB_b h.2, validS_b h.1⟩
def bordB (wd hi : Int) (wr : Bool) (x y : Int) : Bool := !wr && (decide (x = 0) || decide (x = wd - 1) || decide (y = 0) || decide (y = hi - 1))
def costI (wd hi : Int) (wr : Bool) : Int := if wr = true then 6 * (wd * hi) else 2 * (wd * (hi - 1) + (wd - 1) * hi + (wd - 2) * (hi - 2))
def depI (wd hi x y : Int) : Int := min (min (min x y) (wd - 1 - x)) (hi - 1 - y)
def rectB (wd hi rx ry rw rh : Int) : Bool := cellB wd hi rx ry && within rw 1 (wd - rx) && within rh 1 (hi - ry)
def isRectB (wd hi : Int) (P L : List Nat) (rx ry rw rh : Int) : Bool := validS wd hi P L && rectB wd hi rx ry rw rh
theorem isRectB_i {wd hi rx ry rw rh : Int} {P L : List Nat} : isRectB wd hi P L rx ry rw rh = (vcellB wd hi P L rx ry && within rw 1 (wd - rx) && within rh 1 (hi - ry)) := by
  simp only [isRectB, rectB, vcellB, Bool.and_assoc]
def prB (wd hi : Int) (ps : List (Int × Int)) : Bool := decide (ps.length ≤ 8) && allI ps.length fun i => cellB wd hi (gl ps i).1 (gl ps i).2
def areProbesB (wd hi : Int) (P L : List Nat) (ps : List (Int × Int)) : Bool := validS wd hi P L && prB wd hi ps
theorem prB_yes {wd hi : Int} {ps : List (Int × Int)} (h : ps.length ≤ 8) (h1 : ∀ i, 0 ≤ i → i < (ps.length : Int) → cellB wd hi (gl ps i).1 (gl ps i).2 = true) : prB wd hi ps = true := by
  simp only [prB, h, decide_true, Bool.true_and]; exact allI_true h1
theorem prB_no {wd hi i : Int} {ps : List (Int × Int)} (h0 : 0 ≤ i) (h1 : i < (ps.length : Int)) (h : ¬ cellB wd hi (gl ps i).1 (gl ps i).2 = true) : prB wd hi ps = false := by
  simp only [prB, Bool.and_eq_false_iff]; exact .inr (allI_false h0 h1 h)
theorem prB_n {wd hi : Int} {ps : List (Int × Int)} (h : 8 < ps.length) : prB wd hi ps = false := by
  simp only [prB, Bool.and_eq_false_iff, decide_eq_false_iff_not]; exact .inl (by omega)
theorem prB_b {wd hi : Int} {ps : List (Int × Int)} (h : prB wd hi ps = true) : ps.length ≤ 8 := by
  simp only [prB, Bool.and_eq_true, decide_eq_true_eq] at h; exact h.1
theorem prB_cell {wd hi i : Int} {ps : List (Int × Int)} (h : prB wd hi ps = true) (h0 : 0 ≤ i) (h1 : i < (ps.length : Int)) : cellB wd hi (gl ps i).1 (gl ps i).2 = true := by
  simp only [prB, Bool.and_eq_true] at h; exact allI_iff.1 h.2 i h0 h1
theorem areProbesB_b {wd hi : Int} {P L : List Nat} {ps : List (Int × Int)} (h : areProbesB wd hi P L ps = true) : ps.length ≤ 8 ∧ ((((3 ≤ wd ∧ wd ≤ 16) ∧ (3 ≤ hi ∧ hi ≤ 16)) ∧ (9 ≤ wd * hi ∧ wd * hi ≤ 256)) ∧ (P.length : Int) = wd * hi ∧ (L.length : Int) = wd * hi) := by
  simp only [areProbesB, Bool.and_eq_true] at h; exact ⟨prB_b h.2, validS_b h.1⟩
section
variable {wd hi : Int} {P L : List Nat} {ps : List (Int × Int)}
theorem probesB_yes (h0 : validS wd hi P L = true) (h : ps.length ≤ 8) (h1 : ∀ i, 0 ≤ i → i < (ps.length : Int) → cellB wd hi (gl ps i).1 (gl ps i).2 = true) : areProbesB wd hi P L ps = true := by
  simp [areProbesB, h0, prB_yes h h1]
theorem probesB_no {i : Int} (h0 : 0 ≤ i) (h1 : i < (ps.length : Int)) (h : ¬ cellB wd hi (gl ps i).1 (gl ps i).2 = true) : areProbesB wd hi P L ps = false := by
  simp [areProbesB, prB_no h0 h1 h]
theorem probesB_n1 (h0 : ¬ validS wd hi P L = true) : areProbesB wd hi P L ps = false := by simp [areProbesB, h0]
theorem probesB_n2 (h : 8 < ps.length) : areProbesB wd hi P L ps = false := by simp [areProbesB, prB_n h]
end
/-- The numbers from 0 on for which a condition holds. -/
def sel (n : Int) (p : Int → Bool) : List Int := ((List.range n.toNat).map fun (i : Nat) => (i : Int)).filter p
theorem sel_zero (p : Int → Bool) : sel 0 p = [] := rfl
theorem sel_succ {n : Int} (h : 0 ≤ n) (p : Int → Bool) : sel (n + 1) p = sel n p ++ (if p n = true then [n] else []) := by
  unfold sel
  rw [show (n + 1).toNat = n.toNat + 1 by omega, List.range_succ, List.map_append, List.filter_append]
  simp only [List.map_cons, List.map_nil, Int.toNat_of_nonneg h, List.filter_cons, List.filter_nil]
theorem sel_yes {n m v : Int} {p : Int → Bool} (h : 0 ≤ n) (hm : m = n + 1) (hv : v = n) (hp : p n = true) : sel n p ++ [v] = sel m p := by
  subst hm; subst hv; rw [sel_succ h, if_pos hp]
theorem sel_no {n m : Int} {p : Int → Bool} (h : 0 ≤ n) (hm : m = n + 1) (hp : ¬ p n = true) : sel n p = sel m p := by
  subst hm; rw [sel_succ h, if_neg hp, List.append_nil]
theorem sel_len (n : Int) (p : Int → Bool) : (sel n p).length ≤ n.toNat := by
  unfold sel
  refine Nat.le_trans (List.length_filter_le ..) ?_
  simp
theorem sel_ext {n : Int} {p q : Int → Bool} (h : ∀ i, 0 ≤ i → i < n → p i = q i) : sel n p = sel n q := by
  unfold sel
  apply List.filter_congr
  intro i hi
  simp only [List.mem_map, List.mem_range] at hi
  obtain ⟨k, hk, rfl⟩ := hi
  exact h _ (by omega) (by omega)
def wayI (wr : Bool) (a b side : Int) : Int := if wr = true then min (max (a - b) (b - a)) (side - max (a - b) (b - a)) else max (a - b) (b - a)
theorem wayI_b {wr : Bool} {a b side : Int} (h0 : 0 ≤ a) (h1 : a < side) (h2 : 0 ≤ b) (h3 : b < side) : 0 ≤ wayI wr a b side ∧ wayI wr a b side < side := by
  unfold wayI; split <;> omega
def reachP (wd hi : Int) (wr : Bool) (x y steps : Int) (u v : Int) : Bool := decide (wayI wr x u wd + wayI wr y v hi ≤ steps)
def reachB (wd hi : Int) (P L : List Nat) (x y steps : Int) : Bool := vcellB wd hi P L x y && within steps 0 64
theorem reachB_b {wd hi x y steps : Int} {P L : List Nat} (h : reachB wd hi P L x y steps = true) : (0 ≤ steps ∧ steps ≤ 64) ∧ ((0 ≤ x ∧ x ≤ wd - 1) ∧ (0 ≤ y ∧ y ≤ hi - 1)) ∧ ((((3 ≤ wd ∧ wd ≤ 16) ∧ (3 ≤ hi ∧ hi ≤ 16)) ∧ (9 ≤ wd * hi ∧ wd * hi ≤ 256)) ∧ (P.length : Int) = wd * hi ∧ (L.length : Int) = wd * hi) := by
  simp only [reachB, Bool.and_eq_true] at h
  exact ⟨within_b h.2, vcellB_b h.1⟩
theorem not_ne_imarks {n : Nat} {k i : Int} (h0 : 0 ≤ i) (h1 : i < (n : Int)) : gl (imarks k n) i = k + i := gl_gtab h0 h1
theorem imarks_done {n : Nat} {zs : List Int} {k : Int} (hl : zs.length = n) (h : ∀ i, 0 ≤ i → i < (n : Int) → gl zs i = k + i) : zs = imarks k n := gtab_of (by omega) h
theorem pmarks_gl {n : Nat} {k i : Int} (h0 : 0 ≤ i) (h1 : i < (n : Int)) : gl (pmarks k n) i = (k + 2 * i, k + 2 * i + 1) := gl_gtab h0 h1
theorem pmarks_done {n : Nat} {zs : List (Int × Int)} {k : Int} (hl : zs.length = n) (h : ∀ i, 0 ≤ i → i < (n : Int) → gl zs i = (k + 2 * i, k + 2 * i + 1)) : zs = pmarks k n := gtab_of (by omega) h
theorem selrow {wd x y : Int} {p : Int → Int → Bool} (h0 : 0 ≤ x) (h1 : x < wd) : (fun i => p (i % wd) (i / wd)) (wd * y + x) = p x y := by
  have := divmod_row (y := y) h0 h1
  rw [Int.add_comm x] at this
  simp only [this.1, this.2]
end Go.Wv

/- What the functions compute: fields. -/
namespace Go.Wv
/-- Cell x, y of index i at an edge that is not joined has a number that is not zero. -/
def edgeB (wd hi : Int) (E X Y : List Nat) (x y i : Int) : Bool :=
  (bordB wd hi false x y && fne .f32 (el E i) 0) || (decide (y = hi - 1) && fne .f32 (el X i) 0) || (decide (x = wd - 1) && fne .f32 (el Y i) 0)
def fitsB (wd hi : Int) (wr : Bool) (E X Y : List Nat) : Bool :=
  decide ((E.length : Int) = wd * hi) && decide ((X.length : Int) = wd * hi) && decide ((Y.length : Int) = wd * hi) && (wr || allI (wd * hi) fun i => !edgeB wd hi E X Y (i % wd) (i / wd) i)
def fieldB (wd hi : Int) (wr : Bool) (P L E X Y : List Nat) : Bool := validS wd hi P L && fitsB wd hi wr E X Y
section
variable {wd hi : Int} {wr : Bool} {P L E X Y : List Nat}
theorem fits_iff : fitsB wd hi wr E X Y = true ↔ ((E.length : Int) = wd * hi ∧ (X.length : Int) = wd * hi ∧ (Y.length : Int) = wd * hi) ∧ (wr = true ∨ ∀ i, 0 ≤ i → i < wd * hi → edgeB wd hi E X Y (i % wd) (i / wd) i = false) := by
  simp only [fitsB, Bool.and_eq_true, Bool.or_eq_true, allI_iff, decide_eq_true_eq, Bool.not_eq_true', and_assoc]
theorem fitsB_b (h : fitsB wd hi wr E X Y = true) : (E.length : Int) = wd * hi ∧ (X.length : Int) = wd * hi ∧ (Y.length : Int) = wd * hi := (fits_iff.1 h).1
theorem fieldB_iff : fieldB wd hi wr P L E X Y = true ↔ validS wd hi P L = true ∧ fitsB wd hi wr E X Y = true := by simp only [fieldB, Bool.and_eq_true]
theorem fieldB_b (h : fieldB wd hi wr P L E X Y = true) : ((E.length : Int) = wd * hi ∧ (X.length : Int) = wd * hi ∧ (Y.length : Int) = wd * hi) ∧ ((((3 ≤ wd ∧ wd ≤ 16) ∧ (3 ≤ hi ∧ hi ≤ 16)) ∧ (9 ≤ wd * hi ∧ wd * hi ≤ 256)) ∧ (P.length : Int) = wd * hi ∧ (L.length : Int) = wd * hi) := by
  have h' := fieldB_iff.1 h
  exact ⟨fitsB_b h'.2, validS_b h'.1⟩
theorem not_true {b : Bool} (h : b = true → False) : b = false := by cases b <;> simp_all
theorem fits_yes (h1 : (E.length : Int) = wd * hi) (h2 : (X.length : Int) = wd * hi) (h3 : (Y.length : Int) = wd * hi) (h : ∀ i, 0 ≤ i → i < wd * hi → edgeB wd hi E X Y (i % wd) (i / wd) i = false) : fitsB wd hi wr E X Y = true := fits_iff.2 ⟨⟨h1, h2, h3⟩, .inr h⟩
theorem fits_wrap (h1 : (E.length : Int) = wd * hi) (h2 : (X.length : Int) = wd * hi) (h3 : (Y.length : Int) = wd * hi) : fitsB wd hi true E X Y = true := fits_iff.2 ⟨⟨h1, h2, h3⟩, .inl rfl⟩
theorem fits_n1 (h1 : ¬ (E.length : Int) = wd * hi) : fitsB wd hi wr E X Y = false := not_true fun h => h1 (fitsB_b h).1
theorem fits_n2 (h1 : ¬ (X.length : Int) = wd * hi) : fitsB wd hi wr E X Y = false := not_true fun h => h1 (fitsB_b h).2.1
theorem fits_n3 (h1 : ¬ (Y.length : Int) = wd * hi) : fitsB wd hi wr E X Y = false := not_true fun h => h1 (fitsB_b h).2.2
theorem fits_no {x y : Int} (h0 : 0 ≤ x) (h1 : x < wd) (h2 : 0 ≤ y) (h3 : y < hi) (h : edgeB wd hi E X Y x y (x + wd * y) = true) : fitsB wd hi false E X Y = false := not_true fun hf => by
  have h4 := row_lt h0 h1 h2 h3
  have h5 := divmod_row (y := y) h0 h1
  rcases (fits_iff.1 hf).2 with h6 | h6
  · cases h6
  · have := h6 _ h4.1 h4.2
    rw [h5.1, h5.2, h] at this; cases this
theorem edge_more {i : Int} (h : ∀ j, 0 ≤ j → j < i → edgeB wd hi E X Y (j % wd) (j / wd) j = false) (hi' : edgeB wd hi E X Y (i % wd) (i / wd) i = false) : ∀ j, 0 ≤ j → j < i + 1 → edgeB wd hi E X Y (j % wd) (j / wd) j = false := fun j h0 h1 => by
  by_cases e : j = i
  · rw [e]; exact hi'
  · exact h j h0 (by omega)
theorem edge_row {x y : Int} (h : ∀ j, 0 ≤ j → j < wd * y + x → edgeB wd hi E X Y (j % wd) (j / wd) j = false) (he : edgeB wd hi E X Y x y (x + wd * y) = false) (h0 : 0 ≤ x) (h1 : x < wd) (_h2 : 0 ≤ y) :
    ∀ j, 0 ≤ j → j < wd * y + (x + 1) → edgeB wd hi E X Y (j % wd) (j / wd) j = false := fun j h3 h4 => by
  have h5 := divmod_row (y := y) h0 h1
  by_cases e : j = x + wd * y
  · rw [e, h5.1, h5.2]; exact he
  · exact h j h3 (by omega)
theorem field_yes (h0 : validS wd hi P L = true) (h1 : (E.length : Int) = wd * hi) (h2 : (X.length : Int) = wd * hi) (h3 : (Y.length : Int) = wd * hi) (h : ∀ i, 0 ≤ i → i < wd * hi → edgeB wd hi E X Y (i % wd) (i / wd) i = false) : fieldB wd hi wr P L E X Y = true :=
  fieldB_iff.2 ⟨h0, fits_yes h1 h2 h3 h⟩
theorem field_wrap (h0 : validS wd hi P L = true) (h1 : (E.length : Int) = wd * hi) (h2 : (X.length : Int) = wd * hi) (h3 : (Y.length : Int) = wd * hi) : fieldB wd hi true P L E X Y = true := fieldB_iff.2 ⟨h0, fits_wrap h1 h2 h3⟩
theorem field_no {i : Int} (h0 : 0 ≤ i) (h1 : i < wd * hi) (h : edgeB wd hi E X Y (i % wd) (i / wd) i = true) : fieldB wd hi false P L E X Y = false := not_true fun hf => by
  rcases (fits_iff.1 (fieldB_iff.1 hf).2).2 with h6 | h6
  · cases h6
  · have := h6 _ h0 h1
    rw [h] at this; cases this
theorem field_n0 (h0 : ¬ validS wd hi P L = true) : fieldB wd hi wr P L E X Y = false := not_true fun h => h0 (fieldB_iff.1 h).1
theorem field_n1 (h1 : ¬ (E.length : Int) = wd * hi) : fieldB wd hi wr P L E X Y = false := not_true fun h => h1 (fieldB_b h).1.1
theorem field_n2 (h1 : ¬ (X.length : Int) = wd * hi) : fieldB wd hi wr P L E X Y = false := not_true fun h => h1 (fieldB_b h).1.2.1
theorem field_n3 (h1 : ¬ (Y.length : Int) = wd * hi) : fieldB wd hi wr P L E X Y = false := not_true fun h => h1 (fieldB_b h).1.2.2
def valB (wd hi : Int) (wr : Bool) (P L E X Y : List Nat) (x y : Int) : Bool := fieldB wd hi wr P L E X Y && cellB wd hi x y
theorem valB_b {x y : Int} (h : valB wd hi wr P L E X Y x y = true) : ((0 ≤ x ∧ x ≤ wd - 1) ∧ (0 ≤ y ∧ y ≤ hi - 1)) ∧ ((E.length : Int) = wd * hi ∧ (X.length : Int) = wd * hi ∧ (Y.length : Int) = wd * hi) ∧ ((((3 ≤ wd ∧ wd ≤ 16) ∧ (3 ≤ hi ∧ hi ≤ 16)) ∧ (9 ≤ wd * hi ∧ wd * hi ≤ 256)) ∧ (P.length : Int) = wd * hi ∧ (L.length : Int) = wd * hi) := by
  simp only [valB, Bool.and_eq_true] at h
  exact ⟨cellB_b h.2, fieldB_b h.1⟩
end
/-- What a function makes of the numbers of two lists; opposites. -/
def zipL (n : Int) (FM : Nat → Nat → Nat) (A B : List Nat) : List Nat := tab n fun i => FM (el A i) (el B i)
def negL (n : Int) (X : List Nat) : List Nat := tab n fun i => fneg .f32 (el X i)
theorem negL_zip (n : Int) (X : List Nat) : zipL n (fun a _ => fneg .f32 a) X X = negL n X := rfl
theorem tab_snoc {n : Int} {g : Int → Nat} {v : Nat} (h : 0 ≤ n) (hv : v = g n) : tab n g ++ [v] = tab (n + 1) g := by rw [tab_succ h, hv]
def mirY (wd hi : Int) (X : List Nat) : List Nat := tab (wd * hi) fun i => fneg .f32 (el X ((2 * wd - 2 - i % wd) % wd + wd * (i / wd)))
theorem place_1 {X : List Nat} {W H dx dy : Int} : placeL X W H 1 dx dy = mirY W H X := rfl
theorem mirY_i {wd hi : Int} {X : List Nat} {n : Int} (hn : n = wd * hi) (h0 : 0 < wd) : negL n (movL wd hi (fun x y => atI wd hi (wd - 2 - x) y) X) = mirY wd hi X := by
  subst hn
  unfold negL mirY
  apply tab_ext
  intro i h1 h2
  obtain ⟨a, b, _⟩ := row_of h1 h2 h0
  rw [movL, el_tab h1 h2]
  unfold atI
  rw [Int.add_emod_right (i / wd), Int.emod_eq_of_lt b.1 b.2, show wd - 2 - i % wd + wd = 2 * wd - 2 - i % wd by omega]
def shfB (wd hi : Int) (wr : Bool) (P L E X Y : List Nat) (x y : Int) : Bool := shB wd hi wr P L x y && fieldB wd hi wr P L E X Y
theorem shfB_b {wd hi x y : Int} {wr : Bool} {P L E X Y : List Nat} (h : shfB wd hi wr P L E X Y x y = true) : ((-16 ≤ x ∧ x ≤ 16) ∧ (-16 ≤ y ∧ y ≤ 16)) ∧ ((E.length : Int) = wd * hi ∧ (X.length : Int) = wd * hi ∧ (Y.length : Int) = wd * hi) ∧ ((((3 ≤ wd ∧ wd ≤ 16) ∧ (3 ≤ hi ∧ hi ≤ 16)) ∧ (9 ≤ wd * hi ∧ wd * hi ≤ 256)) ∧ (P.length : Int) = wd * hi ∧ (L.length : Int) = wd * hi) := by
  simp only [shfB, Bool.and_eq_true] at h
  have h2 := fieldB_b h.2
  exact ⟨(shB_b h.1).1, h2.1, h2.2⟩
theorem swpN_i {wd hi n : Int} {X : List Nat} (hn : n = hi * wd) (h1 : 0 < hi) : negL n (movL hi wd (fun x y => atI wd hi y x) X) = negL (wd * hi) (swpS wd hi X) := by rw [swp_i h1, hn, Int.mul_comm]
theorem swpN_s {wd hi n dx dy : Int} {X : List Nat} (hn : n = hi * wd) : negL n (placeL X hi wd 2 dx dy) = negL (wd * hi) (swpS wd hi X) := by rw [place_2, hn, Int.mul_comm]
end Go.Wv

/- What the functions compute: rows, columns, peaks, fields with other numbers. -/
namespace Go.Wv
section
variable {wd hi : Int} {wr : Bool} {P L E X Y : List Nat}
/-- A row, a column. -/
def rowS (wd : Int) (X : List Nat) (y : Int) : List Nat := (X.drop (wd * y).toNat).take wd.toNat
def colS (wd hi : Int) (X : List Nat) (x : Int) : List Nat := tab hi fun y => el X (x + wd * y)
def rowB (wd hi : Int) (wr : Bool) (P L E X Y : List Nat) (y : Int) : Bool := fieldB wd hi wr P L E X Y && within y 0 (hi - 1)
def colB (wd hi : Int) (wr : Bool) (P L E X Y : List Nat) (x : Int) : Bool := fieldB wd hi wr P L E X Y && within x 0 (wd - 1)
theorem rowB_b {y : Int} (h : rowB wd hi wr P L E X Y y = true) : (0 ≤ y ∧ y ≤ hi - 1) ∧ ((E.length : Int) = wd * hi ∧ (X.length : Int) = wd * hi ∧ (Y.length : Int) = wd * hi) ∧ ((((3 ≤ wd ∧ wd ≤ 16) ∧ (3 ≤ hi ∧ hi ≤ 16)) ∧ (9 ≤ wd * hi ∧ wd * hi ≤ 256)) ∧ (P.length : Int) = wd * hi ∧ (L.length : Int) = wd * hi) := by
  simp only [rowB, Bool.and_eq_true] at h
  exact ⟨within_b h.2, fieldB_b h.1⟩
theorem colB_b {x : Int} (h : colB wd hi wr P L E X Y x = true) : (0 ≤ x ∧ x ≤ wd - 1) ∧ ((E.length : Int) = wd * hi ∧ (X.length : Int) = wd * hi ∧ (Y.length : Int) = wd * hi) ∧ ((((3 ≤ wd ∧ wd ≤ 16) ∧ (3 ≤ hi ∧ hi ≤ 16)) ∧ (9 ≤ wd * hi ∧ wd * hi ≤ 256)) ∧ (P.length : Int) = wd * hi ∧ (L.length : Int) = wd * hi) := by
  simp only [colB, Bool.and_eq_true] at h
  exact ⟨within_b h.2, fieldB_b h.1⟩
/-- Bounds of a row in its list. -/
theorem row_bounds {y : Int} (h0 : 0 ≤ y) (h1 : y ≤ hi - 1) (hw : 0 ≤ wd) : 0 ≤ wd * y ∧ wd * (y + 1) ≤ wd * hi ∧ wd * (y + 1) = wd * y + wd := by
  refine ⟨Int.mul_nonneg hw h0, Int.mul_le_mul_of_nonneg_left (by omega) hw, by rw [Int.mul_add, Int.mul_one]⟩
theorem row_i {y lo hi' : Int} (hl : lo = wd * y) (hh : hi' = wd * y + wd) (h0 : 0 ≤ wd * y) (hw : 0 ≤ wd) : (X.drop lo.toNat).take (hi'.toNat - lo.toNat) = rowS wd X y := by
  subst hl; subst hh
  rw [show (wd * y + wd).toNat - (wd * y).toNat = wd.toNat by omega]; rfl
/-- The index of the greatest number without its sign among the first ones, -1 if there is none. -/
def peakI (X : List Nat) : Nat → Int
  | 0 => -1
  | k + 1 => if (feq .f32 (el X k) (el X k) && (decide (peakI X k < 0) || fgt .f32 (szX (el X k)) (szX (el X (peakI X k))))) = true then (k : Int) else peakI X k
theorem peakI_b (X : List Nat) : ∀ k : Nat, -1 ≤ peakI X k ∧ peakI X k < k
  | 0 => by simp [peakI]
  | k + 1 => by
    have := peakI_b X k
    simp only [peakI]
    split <;> omega
theorem peak_step {k : Int} {b : Int} (h0 : 0 ≤ k) (hb : b = peakI X k.toNat) : peakI X (k + 1).toNat = if (feq .f32 (el X k) (el X k) && (decide (b < 0) || fgt .f32 (szX (el X k)) (szX (el X b)))) = true then k else b := by
  subst hb
  rw [show (k + 1).toNat = k.toNat + 1 by omega]
  simp only [peakI, Int.toNat_of_nonneg h0]
theorem peak_yes {k b : Int} (h0 : 0 ≤ k) (hb : b = peakI X k.toNat) (h : (feq .f32 (el X k) (el X k) && (decide (b < 0) || fgt .f32 (szX (el X k)) (szX (el X b)))) = true) : k = peakI X (k + 1).toNat := by
  rw [peak_step h0 hb, if_pos h]
theorem peak_no {k b : Int} (h0 : 0 ≤ k) (hb : b = peakI X k.toNat) (h : (feq .f32 (el X k) (el X k) && (decide (b < 0) || fgt .f32 (szX (el X k)) (szX (el X b)))) = false) : b = peakI X (k + 1).toNat := by
  rw [peak_step h0 hb, if_neg (by rw [h]; simp)]
def peakB (wd hi : Int) (wr : Bool) (P L E X Y : List Nat) : Bool := fieldB wd hi wr P L E X Y && decide (0 ≤ peakI E E.length)
theorem peakB_b (h : peakB wd hi wr P L E X Y = true) : 0 ≤ peakI E E.length := by
  simp only [peakB, Bool.and_eq_true, decide_eq_true_eq] at h; exact h.2
/-- A field with another number in a cell. -/
def putB (wd hi : Int) (wr : Bool) (P L E X Y : List Nat) (x y : Int) (V : Nat) : Bool := valB wd hi wr P L E X Y x y && !(bordB wd hi wr x y && fne .f32 V 0)
theorem putB_b {x y : Int} {V : Nat} (h : putB wd hi wr P L E X Y x y V = true) : ((0 ≤ x ∧ x ≤ wd - 1) ∧ (0 ≤ y ∧ y ≤ hi - 1)) ∧ ((E.length : Int) = wd * hi ∧ (X.length : Int) = wd * hi ∧ (Y.length : Int) = wd * hi) ∧ ((((3 ≤ wd ∧ wd ≤ 16) ∧ (3 ≤ hi ∧ hi ≤ 16)) ∧ (9 ≤ wd * hi ∧ wd * hi ≤ 256)) ∧ (P.length : Int) = wd * hi ∧ (L.length : Int) = wd * hi) := by
  simp only [putB, Bool.and_eq_true] at h
  exact valB_b h.1
theorem put_fits {x y : Int} {V : Nat} (hv : valB wd hi wr P L E X Y x y = true) : fieldB wd hi wr P L (put E (x + wd * y) V) X Y = putB wd hi wr P L E X Y x y V := by
  have hb := valB_b hv
  have hf : fieldB wd hi wr P L E X Y = true := by simp only [valB, Bool.and_eq_true] at hv; exact hv.1
  have hfi := fieldB_iff.1 hf
  have hrow := row_lt (wd := wd) (hi := hi) (a := x) (b := y) (by omega) (by omega) (by omega) (by omega)
  have hdm := divmod_row (wd := wd) (x := x) (y := y) (by omega) (by omega)
  unfold putB
  rw [hv, Bool.true_and]
  cases wr with
  | true =>
    simp only [bordB, Bool.not_true, Bool.false_and, Bool.not_false]
    exact fieldB_iff.2 ⟨hfi.1, fits_wrap (by rw [put_length]; omega) (by omega) (by omega)⟩
  | false =>
    have hold := (fits_iff.1 hfi.2).2.resolve_left (by simp)
    cases hc : (bordB wd hi false x y && fne .f32 V 0) with
    | true =>
      refine not_true fun hn => ?_
      have h1 := (fits_iff.1 (fieldB_iff.1 hn).2).2.resolve_left (by simp) (x + wd * y) (by omega) (by omega)
      rw [hdm.1, hdm.2] at h1
      unfold edgeB at h1
      rw [el_put (by omega) (by omega) _ _ (by omega), if_pos rfl, hc] at h1
      simp at h1
    | false =>
      refine fieldB_iff.2 ⟨hfi.1, fits_yes (by rw [put_length]; omega) (by omega) (by omega) fun i h0 h1 => ?_⟩
      have h2 := hold i h0 h1
      unfold edgeB at h2 ⊢
      by_cases e : i = x + wd * y
      · subst e
        rw [el_put (by omega) (by omega) _ _ (by omega), if_pos rfl, hdm.1, hdm.2, hc]
        rw [hdm.1, hdm.2] at h2
        simp only [Bool.or_eq_false_iff] at h2 ⊢
        exact ⟨⟨trivial, h2.1.2⟩, h2.2⟩
      · rw [el_put (by omega) (by omega) _ _ h0, if_neg e]; exact h2
/-- Sums, products. -/
def addL (n : Int) (A B : List Nat) : List Nat := zipL n (fun a b => fop .add .f32 a b) A B
def mulL (n : Int) (A : List Nat) (s : Nat) : List Nat := zipL n (fun a _ => fop .mul .f32 a s) A A
def addB (wd hi : Int) (wr : Bool) (P L E X Y E2 X2 Y2 : List Nat) : Bool :=
  (fieldB wd hi wr P L E X Y && fieldB wd hi wr P L E2 X2 Y2) && fieldB wd hi wr P L (addL (wd * hi) E E2) (addL (wd * hi) X X2) (addL (wd * hi) Y Y2)
def sclB (wd hi : Int) (wr : Bool) (P L E X Y : List Nat) (s : Nat) : Bool :=
  fieldB wd hi wr P L E X Y && fieldB wd hi wr P L (mulL (wd * hi) E s) (mulL (wd * hi) X s) (mulL (wd * hi) Y s)
theorem addB_b {E2 X2 Y2 : List Nat} (h : addB wd hi wr P L E X Y E2 X2 Y2 = true) : ((E.length : Int) = wd * hi ∧ (X.length : Int) = wd * hi ∧ (Y.length : Int) = wd * hi) ∧ ((((3 ≤ wd ∧ wd ≤ 16) ∧ (3 ≤ hi ∧ hi ≤ 16)) ∧ (9 ≤ wd * hi ∧ wd * hi ≤ 256)) ∧ (P.length : Int) = wd * hi ∧ (L.length : Int) = wd * hi) := by
  simp only [addB, Bool.and_eq_true] at h
  exact fieldB_b h.1.1
theorem sclB_b {s : Nat} (h : sclB wd hi wr P L E X Y s = true) : ((E.length : Int) = wd * hi ∧ (X.length : Int) = wd * hi ∧ (Y.length : Int) = wd * hi) ∧ ((((3 ≤ wd ∧ wd ≤ 16) ∧ (3 ≤ hi ∧ hi ≤ 16)) ∧ (9 ≤ wd * hi ∧ wd * hi ≤ 256)) ∧ (P.length : Int) = wd * hi ∧ (L.length : Int) = wd * hi) := by
  simp only [sclB, Bool.and_eq_true] at h
  exact fieldB_b h.1
theorem addB_i {n1 n2 n3 : Int} {E2 X2 Y2 : List Nat} (h1 : n1 = wd * hi) (h2 : n2 = wd * hi) (h3 : n3 = wd * hi) :
    fieldB wd hi wr P L (addL (wd * hi) E E2) (addL (wd * hi) X X2) (addL (wd * hi) Y Y2) = fieldB wd hi wr P L (zipL n1 (fun a b => fop .add .f32 a b) E E2) (zipL n2 (fun a b => fop .add .f32 a b) X X2) (zipL n3 (fun a b => fop .add .f32 a b) Y Y2) := by
  subst h1; rw [h2, h3]; rfl
theorem sclB_i {n1 n2 n3 : Int} {s : Nat} (h1 : n1 = wd * hi) (h2 : n2 = wd * hi) (h3 : n3 = wd * hi) :
    fieldB wd hi wr P L (mulL (wd * hi) E s) (mulL (wd * hi) X s) (mulL (wd * hi) Y s) = fieldB wd hi wr P L (zipL n1 (fun a _ => fop .mul .f32 a s) E E) (zipL n2 (fun a _ => fop .mul .f32 a s) X X) (zipL n3 (fun a _ => fop .mul .f32 a s) Y Y) := by
  subst h1; rw [h2, h3]; rfl
theorem addF_i {n1 n2 n3 : Int} {E2 X2 Y2 : List Nat} (h1 : n1 = wd * hi) (h2 : n2 = wd * hi) (h3 : n3 = wd * hi) :
    fitsB wd hi wr (addL (wd * hi) E E2) (addL (wd * hi) X X2) (addL (wd * hi) Y Y2) = fitsB wd hi wr (addL n1 E E2) (addL n2 X X2) (addL n3 Y Y2) := by
  subst h1; rw [h2, h3]
/-- A list that is rewritten from its begin on. -/
def mix (n k : Int) (g : Int → Nat) (X : List Nat) : List Nat := tab n fun i => if i < k then g i else el X i
theorem mix_zero {n : Int} {g : Int → Nat} (h : (X.length : Int) = n) : X = mix n 0 g X := tab_of h fun i h0 _ => by rw [if_neg (by omega)]
theorem mix_all {n : Int} {g : Int → Nat} : mix n n g X = tab n g := tab_ext fun i _ h1 => by rw [if_pos h1]
theorem mix_len {n k : Int} {g : Int → Nat} : (mix n k g X).length = n.toNat := tab_length _ _
theorem el_mix {n k i : Int} {g : Int → Nat} (h0 : 0 ≤ i) (h1 : i < n) (h2 : k ≤ i) : el (mix n k g X) i = el X i := by
  unfold mix; rw [el_tab h0 h1, if_neg (by omega)]
theorem mix_put {n k : Int} {g : Int → Nat} {v : Nat} (h0 : 0 ≤ k) (h1 : k < n) (hv : v = g k) : put (mix n k g X) k v = mix n (k + 1) g X := by
  refine tab_of (by rw [put_length, mix_len]; omega) fun i h2 h3 => ?_
  rw [el_put h0 (by rw [mix_len]; omega) _ _ h2]
  by_cases e : i = k
  · subst e; rw [if_pos rfl, if_pos (by omega), hv]
  · rw [if_neg e]
    unfold mix; rw [el_tab h2 h3]
    by_cases e2 : i < k
    · rw [if_pos e2, if_pos (by omega)]
    · rw [if_neg e2, if_neg (by omega)]
theorem fits_field (h : validS wd hi P L = true) : fieldB wd hi wr P L E X Y = fitsB wd hi wr E X Y := by unfold fieldB; rw [h, Bool.true_and]
end
end Go.Wv

/- What the functions compute: steps. -/
namespace Go.Wv
section
variable {wd hi n : Int} {wr : Bool} {P L E X Y X0 : List Nat}
theorem cell_pos {x y : Int} (h0 : 0 ≤ x) (h1 : x < wd) (h2 : 0 ≤ y) (h3 : y < hi) : 0 ≤ wd * y + x ∧ wd * y + x < wd * hi ∧ (wd * y + x) % wd = x ∧ (wd * y + x) / wd = y := by
  have hr := row_lt (wd := wd) (hi := hi) h0 h1 h2 h3
  have hd := divmod_row (wd := wd) (x := x) (y := y) h0 h1
  rw [Int.add_comm] at hr hd
  exact ⟨hr.1, hr.2, hd.1, hd.2⟩
/-- A list that is rewritten cell by cell, row by row: one cell more. -/
theorem mix_cell {G : Int → Int → Nat} {x y i : Int} {v : Nat} (hn : n = wd * hi) (h0 : 0 ≤ x) (h1 : x < wd) (h2 : 0 ≤ y) (h3 : y < hi) (hi' : i = atI wd hi x y) (hv : v = G x y) :
    put (mix n (wd * y + x) (fun i => G (i % wd) (i / wd)) X0) i v = mix n (wd * y + (x + 1)) (fun i => G (i % wd) (i / wd)) X0 := by
  have hc := cell_pos (wd := wd) (hi := hi) h0 h1 h2 h3
  have ha := atI_in (wd := wd) (hi := hi) h0 h1 h2 h3
  rw [show i = wd * y + x by omega, mix_put hc.1 (by omega) (by rw [hv, hc.2.2.1, hc.2.2.2]), Int.add_assoc]
theorem mix_same {G : Int → Int → Nat} {x y : Int} (h0 : 0 ≤ x) (h1 : x < wd) (h2 : 0 ≤ y) (h3 : y < hi) (hv : el X0 (atI wd hi x y) = G x y) :
    mix n (wd * y + x) (fun i => G (i % wd) (i / wd)) X0 = mix n (wd * y + (x + 1)) (fun i => G (i % wd) (i / wd)) X0 := by
  have hc := cell_pos (wd := wd) (hi := hi) h0 h1 h2 h3
  have ha := atI_in (wd := wd) (hi := hi) h0 h1 h2 h3
  refine tab_ext fun i _ _ => ?_
  by_cases e : i = wd * y + x
  · subst e
    rw [if_neg (by omega), if_pos (by omega)]
    show el X0 (wd * y + x) = G ((wd * y + x) % wd) ((wd * y + x) / wd)
    rw [hc.2.2.1, hc.2.2.2, ← hv, ha, Int.add_comm]
  · by_cases e2 : i < wd * y + x
    · rw [if_pos e2, if_pos (by omega)]
    · rw [if_neg e2, if_neg (by omega)]
theorem el_mix_cell {g : Int → Nat} {x y : Int} (hn : n = wd * hi) (h0 : 0 ≤ x) (h1 : x < wd) (h2 : 0 ≤ y) (h3 : y < hi) : el (mix n (wd * y + x) g X0) (atI wd hi x y) = el X0 (atI wd hi x y) := by
  have hc := cell_pos (wd := wd) (hi := hi) h0 h1 h2 h3
  have ha := atI_in (wd := wd) (hi := hi) h0 h1 h2 h3
  exact el_mix (by omega) (by omega) (by omega)
/-- X and Y of a cell behind a half step. -/
def hxF (wd hi : Int) (wr : Bool) (E X : List Nat) (x y : Int) : Nat :=
  if (wr || decide (y < hi - 1)) = true then fop .sub .f32 (el X (atI wd hi x y)) (fop .mul .f32 1056964608 (fop .sub .f32 (el E (atI wd hi x (y + 1))) (el E (atI wd hi x y)))) else el X (atI wd hi x y)
def hyF (wd hi : Int) (wr : Bool) (E Y : List Nat) (x y : Int) : Nat :=
  if (wr || decide (x < wd - 1)) = true then fop .add .f32 (el Y (atI wd hi x y)) (fop .mul .f32 1056964608 (fop .sub .f32 (el E (atI wd hi (x + 1) y)) (el E (atI wd hi x y)))) else el Y (atI wd hi x y)
def hxL (wd hi : Int) (wr : Bool) (E X : List Nat) : List Nat := tab (wd * hi) fun i => hxF wd hi wr E X (i % wd) (i / wd)
def hyL (wd hi : Int) (wr : Bool) (E Y : List Nat) : List Nat := tab (wd * hi) fun i => hyF wd hi wr E Y (i % wd) (i / wd)
theorem hx_yes {g : Int → Nat} {x y : Int} (hn : n = wd * hi) (h0 : 0 ≤ x) (h1 : x < wd) (h2 : 0 ≤ y) (h3 : y < hi) (hc : (wr || decide (y < hi - 1)) = true) :
    fop .sub .f32 (el (mix n (wd * y + x) g X) (atI wd hi x y)) (fop .mul .f32 1056964608 (fop .sub .f32 (el E (atI wd hi x (y + 1))) (el E (atI wd hi x y)))) = hxF wd hi wr E X x y := by
  rw [el_mix_cell hn h0 h1 h2 h3]; unfold hxF; rw [if_pos hc]
theorem hy_yes {g : Int → Nat} {x y : Int} (hn : n = wd * hi) (h0 : 0 ≤ x) (h1 : x < wd) (h2 : 0 ≤ y) (h3 : y < hi) (hc : (wr || decide (x < wd - 1)) = true) :
    fop .add .f32 (el (mix n (wd * y + x) g Y) (atI wd hi x y)) (fop .mul .f32 1056964608 (fop .sub .f32 (el E (atI wd hi (x + 1) y)) (el E (atI wd hi x y)))) = hyF wd hi wr E Y x y := by
  rw [el_mix_cell hn h0 h1 h2 h3]; unfold hyF; rw [if_pos hc]
theorem hx_no {x y : Int} (hc : (wr || decide (y < hi - 1)) = false) : el X (atI wd hi x y) = hxF wd hi wr E X x y := by unfold hxF; rw [if_neg (by rw [hc]; simp)]
theorem hy_no {x y : Int} (hc : (wr || decide (x < wd - 1)) = false) : el Y (atI wd hi x y) = hyF wd hi wr E Y x y := by unfold hyF; rw [if_neg (by rw [hc]; simp)]
/-- E of a cell behind a step. -/
def nvV (wd hi : Int) (P L : List Nat) (e : Nat) (X Y : List Nat) (x y : Int) : Nat :=
  fop .add .f32 (fop .mul .f32 e (fop .sub .f32 1065353216 (el L (atI wd hi x y)))) (fop .mul .f32 (el P (atI wd hi x y)) (fop .sub .f32 (fop .sub .f32 (el Y (atI wd hi x y)) (el Y (atI wd hi (x - 1) y))) (fop .sub .f32 (el X (atI wd hi x y)) (el X (atI wd hi x (y - 1))))))
def nwF (wd hi : Int) (wr : Bool) (P L E X Y : List Nat) (x y : Int) : Nat :=
  if bordB wd hi wr x y = true then el E (atI wd hi x y) else nvV wd hi P L (el E (atI wd hi x y)) X Y x y
def nwL (wd hi : Int) (wr : Bool) (P L E X Y : List Nat) : List Nat := tab (wd * hi) fun i => nwF wd hi wr P L E X Y (i % wd) (i / wd)
theorem nw_no {g : Int → Nat} {x y : Int} (hn : n = wd * hi) (h0 : 0 ≤ x) (h1 : x < wd) (h2 : 0 ≤ y) (h3 : y < hi) (hc : bordB wd hi wr x y = false) :
    nvV wd hi P L (el (mix n (wd * y + x) g E) (atI wd hi x y)) X Y x y = nwF wd hi wr P L E X Y x y := by
  rw [el_mix_cell hn h0 h1 h2 h3]; unfold nwF; rw [if_neg (by rw [hc]; simp)]
theorem nw_yes {x y : Int} (hc : bordB wd hi wr x y = true) : el E (atI wd hi x y) = nwF wd hi wr P L E X Y x y := by unfold nwF; rw [if_pos hc]
theorem hxL_len (wd hi : Int) (wr : Bool) (E X : List Nat) : (hxL wd hi wr E X).length = (wd * hi).toNat := tab_length _ _
theorem hyL_len (wd hi : Int) (wr : Bool) (E Y : List Nat) : (hyL wd hi wr E Y).length = (wd * hi).toNat := tab_length _ _
theorem nwL_len (wd hi : Int) (wr : Bool) (P L E X Y : List Nat) : (nwL wd hi wr P L E X Y).length = (wd * hi).toNat := tab_length _ _
/-- A step; some steps. -/
abbrev Fld := List Nat × List Nat × List Nat
def stpT (wd hi : Int) (wr : Bool) (P L : List Nat) (F : Fld) : Fld := (nwL wd hi wr P L F.1 (hxL wd hi wr F.1 F.2.1) (hyL wd hi wr F.1 F.2.2), hxL wd hi wr F.1 F.2.1, hyL wd hi wr F.1 F.2.2)
def rnT (wd hi : Int) (wr : Bool) (P L : List Nat) (F : Fld) : Nat → Fld
  | 0 => F
  | n + 1 => stpT wd hi wr P L (rnT wd hi wr P L F n)
theorem rnT_next {F : Fld} {k : Int} (h : 0 ≤ k) : stpT wd hi wr P L (rnT wd hi wr P L F k.toNat) = rnT wd hi wr P L F (k + 1).toNat := by
  rw [show (k + 1).toNat = k.toNat + 1 by omega]; rfl
theorem rnT_len {F : Fld} {m : Nat} (h1 : F.1.length = m) (h2 : F.2.1.length = m) (h3 : F.2.2.length = m) (hm : (m : Int) = wd * hi) : ∀ k, (rnT wd hi wr P L F k).1.length = m ∧ (rnT wd hi wr P L F k).2.1.length = m ∧ (rnT wd hi wr P L F k).2.2.length = m
  | 0 => ⟨h1, h2, h3⟩
  | k + 1 => by
    simp only [rnT, stpT]
    refine ⟨(nwL_len ..).trans (by omega), (hxL_len ..).trans (by omega), (hyL_len ..).trans (by omega)⟩
def runB (wd hi : Int) (wr : Bool) (P L E X Y : List Nat) (m : Int) : Bool := fieldB wd hi wr P L E X Y && within m 0 64
theorem runB_b {m : Int} (h : runB wd hi wr P L E X Y m = true) : (0 ≤ m ∧ m ≤ 64) ∧ ((E.length : Int) = wd * hi ∧ (X.length : Int) = wd * hi ∧ (Y.length : Int) = wd * hi) ∧ ((((3 ≤ wd ∧ wd ≤ 16) ∧ (3 ≤ hi ∧ hi ≤ 16)) ∧ (9 ≤ wd * hi ∧ wd * hi ≤ 256)) ∧ (P.length : Int) = wd * hi ∧ (L.length : Int) = wd * hi) := by
  simp only [runB, Bool.and_eq_true] at h
  exact ⟨within_b h.2, fieldB_b h.1⟩
theorem runB_one : runB wd hi wr P L E X Y 1 = fieldB wd hi wr P L E X Y := by
  unfold runB
  rw [show within 1 0 64 = true from by decide, Bool.and_true]
end
end Go.Wv

/- What the functions compute: far cells, probes that are read, quiet steps, traces, sums. -/
namespace Go.Wv
section
variable {wd hi n : Int} {wr : Bool} {P L E X Y X0 : List Nat}
def farP (E X Y : List Nat) (i : Int) : Bool := feq .f32 (el E i) 0 && feq .f32 (el X i) 0 && feq .f32 (el Y i) 0
def readL (wd : Int) (E : List Nat) (ps : List (Int × Int)) (k : Int) : List Nat := tab k fun i => el E ((gl ps i).1 + wd * (gl ps i).2)
def readB (wd hi : Int) (wr : Bool) (P L E X Y : List Nat) (ps : List (Int × Int)) : Bool := fieldB wd hi wr P L E X Y && prB wd hi ps
theorem readB_b {ps : List (Int × Int)} (h : readB wd hi wr P L E X Y ps = true) : ps.length ≤ 8 ∧ ((E.length : Int) = wd * hi ∧ (X.length : Int) = wd * hi ∧ (Y.length : Int) = wd * hi) ∧ ((((3 ≤ wd ∧ wd ≤ 16) ∧ (3 ≤ hi ∧ hi ≤ 16)) ∧ (9 ≤ wd * hi ∧ wd * hi ≤ 256)) ∧ (P.length : Int) = wd * hi ∧ (L.length : Int) = wd * hi) := by
  simp only [readB, Bool.and_eq_true] at h
  exact ⟨prB_b h.2, fieldB_b h.1⟩
theorem readB_i {ps : List (Int × Int)} : readB wd hi wr P L E X Y ps = (fieldB wd hi wr P L E X Y && areProbesB wd hi P L ps) := by
  unfold readB areProbesB
  cases hv : validS wd hi P L <;> simp [fieldB, hv]
theorem read_cell {ps : List (Int × Int)} {k : Int} (h : prB wd hi ps = true) (h0 : 0 ≤ k) (h1 : k < (ps.length : Int)) : (0 ≤ (gl ps k).1 ∧ (gl ps k).1 < wd) ∧ (0 ≤ (gl ps k).2 ∧ (gl ps k).2 < hi) := by
  have := cellB_b (prB_cell h h0 h1)
  omega
/-- The greatest value of a field. -/
def pkS (E : List Nat) : Nat := if peakI E E.length < 0 then 0 else szX (el E (peakI E E.length))
theorem pkS_no (h : peakI E E.length < 0) : 0 = pkS E := by unfold pkS; rw [if_pos h]
theorem pkS_yes (h : ¬ peakI E E.length < 0) : szX (el E (peakI E E.length)) = pkS E := by unfold pkS; rw [if_neg h]
/-- The first step from 'k' on, of 'n' steps, behind which a field is quiet; -1 if there is none. -/
def qtI (wd hi : Int) (wr : Bool) (P L : List Nat) (F : Fld) (lv : Nat) : Nat → Int → Int
  | 0, _ => -1
  | n + 1, k => if flt .f32 (pkS (rnT wd hi wr P L F k.toNat).1) lv = true then k else qtI wd hi wr P L F lv n (k + 1)
theorem qt_step {F : Fld} {lv : Nat} {m k : Int} (h : k ≤ m) : qtI wd hi wr P L F lv (m + 1 - k).toNat k = if flt .f32 (pkS (rnT wd hi wr P L F k.toNat).1) lv = true then k else qtI wd hi wr P L F lv (m + 1 - (k + 1)).toNat (k + 1) := by
  rw [show (m + 1 - k).toNat = (m + 1 - (k + 1)).toNat + 1 by omega]; rfl
theorem qt_end {F : Fld} {lv : Nat} {m k : Int} (h : ¬ k ≤ m) : qtI wd hi wr P L F lv (m + 1 - k).toNat k = -1 := by
  rw [show (m + 1 - k).toNat = 0 by omega]; rfl
def qtV (wd hi : Int) (wr : Bool) (P L : List Nat) (F : Fld) (lv : Nat) (m : Int) : Int := qtI wd hi wr P L F lv (m + 1 - 0).toNat 0
theorem qtI_b {F : Fld} {lv : Nat} : ∀ (n : Nat) (k : Int), 0 ≤ k → qtI wd hi wr P L F lv n k = -1 ∨ (k ≤ qtI wd hi wr P L F lv n k ∧ qtI wd hi wr P L F lv n k < k + n)
  | 0, k, _ => .inl rfl
  | n + 1, k, h => by
    simp only [qtI]
    split
    · right; omega
    · rcases qtI_b n (k + 1) (by omega) with h1 | h1
      · exact .inl h1
      · right; omega
def qtB (wd hi : Int) (wr : Bool) (P L E X Y : List Nat) (lv : Nat) (m : Int) : Bool := runB wd hi wr P L E X Y m && decide (0 ≤ qtV wd hi wr P L (E, X, Y) lv m)
theorem qt_yes {F : Fld} {lv : Nat} {m k : Int} (h1 : k ≤ m) (hM : qtV wd hi wr P L F lv m = qtI wd hi wr P L F lv (m + 1 - k).toNat k) (hc : flt .f32 (pkS (rnT wd hi wr P L F k.toNat).1) lv = true) : qtV wd hi wr P L F lv m = k := by
  rw [hM, qt_step h1, if_pos hc]
theorem qt_next {F : Fld} {lv : Nat} {m k : Int} (h1 : k ≤ m) (hM : qtV wd hi wr P L F lv m = qtI wd hi wr P L F lv (m + 1 - k).toNat k) (hc : ¬ flt .f32 (pkS (rnT wd hi wr P L F k.toNat).1) lv = true) : qtV wd hi wr P L F lv m = qtI wd hi wr P L F lv (m + 1 - (k + 1)).toNat (k + 1) := by
  rw [hM, qt_step h1, if_neg hc]
/-- What a function tells of each step. -/
def trL (wd hi : Int) (wr : Bool) (P L : List Nat) (F : Fld) (FN : Fld → Nat) (k : Int) : List Nat := tab k fun i => FN (rnT wd hi wr P L F (i + 1).toNat)
theorem trL_next {F : Fld} {FN : Fld → Nat} {k : Int} {v : Nat} (h0 : 0 ≤ k) (hv : v = FN (rnT wd hi wr P L F (k + 1).toNat)) : trL wd hi wr P L F FN k ++ [v] = trL wd hi wr P L F FN (k + 1) := by
  unfold trL; exact tab_snoc h0 hv
theorem trL_len {F : Fld} {FN : Fld → Nat} {k : Int} : (trL wd hi wr P L F FN k).length = k.toNat := tab_length _ _
def trcB (wd hi : Int) (wr : Bool) (P L E X Y : List Nat) (x y m : Int) : Bool := runB wd hi wr P L E X Y m && cellB wd hi x y
theorem trcB_i {x y m : Int} : trcB wd hi wr P L E X Y x y m = (vcellB wd hi P L x y && runB wd hi wr P L E X Y m) := by
  unfold trcB vcellB runB fieldB
  cases validS wd hi P L <;> cases cellB wd hi x y <;> simp
theorem trcB_b {x y m : Int} (h : trcB wd hi wr P L E X Y x y m = true) : ((0 ≤ x ∧ x ≤ wd - 1) ∧ (0 ≤ y ∧ y ≤ hi - 1)) ∧ (0 ≤ m ∧ m ≤ 64) ∧ ((E.length : Int) = wd * hi ∧ (X.length : Int) = wd * hi ∧ (Y.length : Int) = wd * hi) ∧ ((((3 ≤ wd ∧ wd ≤ 16) ∧ (3 ≤ hi ∧ hi ≤ 16)) ∧ (9 ≤ wd * hi ∧ wd * hi ≤ 256)) ∧ (P.length : Int) = wd * hi ∧ (L.length : Int) = wd * hi) := by
  simp only [trcB, Bool.and_eq_true] at h
  exact ⟨cellB_b h.2, runB_b h.1⟩
/-- The sums of all steps. -/
def smT (wd hi : Int) (wr : Bool) (P L : List Nat) (F : Fld) (n : Int) (Q : List Nat) : Nat → List Nat
  | 0 => Q
  | k + 1 => addL n (smT wd hi wr P L F n Q k) (rnT wd hi wr P L F (k + 1)).1
theorem smT_next {F : Fld} {Q : List Nat} {k : Int} (h : 0 ≤ k) : addL n (smT wd hi wr P L F n Q k.toNat) (rnT wd hi wr P L F (k + 1).toNat).1 = smT wd hi wr P L F n Q (k + 1).toNat := by
  rw [show (k + 1).toNat = k.toNat + 1 by omega]; rfl
theorem smT_len {F : Fld} {Q : List Nat} (h : (Q.length : Int) = n) : ∀ k, ((smT wd hi wr P L F n Q k).length : Int) = n
  | 0 => h
  | k + 1 => by
    simp only [smT, addL, zipL, tab_length]; omega
end
end Go.Wv

/- What the functions compute: sources. -/
namespace Go.Wv
section
variable {wd hi : Int} {wr : Bool} {P L : List Nat} {ss : List Src}
def srcB (wd hi : Int) (wr : Bool) (s : Src) : Bool := cellB wd hi s.x s.y && !bordB wd hi wr s.x s.y && validW s.kd s.tt s.ln s.tn s.sd
def srcsB (wd hi : Int) (wr : Bool) (ss : List Src) : Bool := decide (ss.length ≤ 8) && allI ss.length fun i => srcB wd hi wr (gl ss i)
def areSrcB (wd hi : Int) (wr : Bool) (P L : List Nat) (ss : List Src) : Bool := validS wd hi P L && srcsB wd hi wr ss
theorem srcsB_yes (h : ss.length ≤ 8) (h1 : ∀ i, 0 ≤ i → i < (ss.length : Int) → srcB wd hi wr (gl ss i) = true) : srcsB wd hi wr ss = true := by
  simp only [srcsB, Bool.and_eq_true, decide_eq_true_eq]; exact ⟨h, allI_true h1⟩
theorem srcsB_no {i : Int} (h0 : 0 ≤ i) (h1 : i < (ss.length : Int)) (h : srcB wd hi wr (gl ss i) = false) : srcsB wd hi wr ss = false := by
  rw [srcsB, allI_false h0 h1 (by rw [h]; simp), Bool.and_false]
theorem srcsB_n (h : 8 < ss.length) : srcsB wd hi wr ss = false := by
  rw [srcsB, decide_eq_false (by omega), Bool.false_and]
theorem srcsB_b (h : srcsB wd hi wr ss = true) : ss.length ≤ 8 := by
  simp only [srcsB, Bool.and_eq_true, decide_eq_true_eq] at h; exact h.1
theorem srcsB_src {i : Int} (h : srcsB wd hi wr ss = true) (h0 : 0 ≤ i) (h1 : i < (ss.length : Int)) : srcB wd hi wr (gl ss i) = true := by
  simp only [srcsB, Bool.and_eq_true] at h; exact allI_iff.1 h.2 i h0 h1
theorem areSrc_yes (h0 : validS wd hi P L = true) (h : ss.length ≤ 8) (h1 : ∀ i, 0 ≤ i → i < (ss.length : Int) → srcB wd hi wr (gl ss i) = true) : areSrcB wd hi wr P L ss = true := by
  simp only [areSrcB, Bool.and_eq_true]; exact ⟨h0, srcsB_yes h h1⟩
theorem areSrc_no {i : Int} (h0 : 0 ≤ i) (h1 : i < (ss.length : Int)) (h : srcB wd hi wr (gl ss i) = false) : areSrcB wd hi wr P L ss = false := by
  rw [areSrcB, srcsB_no h0 h1 h, Bool.and_false]
theorem areSrc_n1 (h0 : ¬ validS wd hi P L = true) : areSrcB wd hi wr P L ss = false := by simp [areSrcB, h0]
theorem areSrc_n2 (h : 8 < ss.length) : areSrcB wd hi wr P L ss = false := by rw [areSrcB, srcsB_n h, Bool.and_false]
theorem areSrcB_b (h : areSrcB wd hi wr P L ss = true) : ss.length ≤ 8 ∧ ((((3 ≤ wd ∧ wd ≤ 16) ∧ (3 ≤ hi ∧ hi ≤ 16)) ∧ (9 ≤ wd * hi ∧ wd * hi ≤ 256)) ∧ (P.length : Int) = wd * hi ∧ (L.length : Int) = wd * hi) := by
  simp only [areSrcB, Bool.and_eq_true] at h
  exact ⟨srcsB_b h.2, validS_b h.1⟩
end
/-- A pointer into a list, as a pointer to a place. -/
theorem Row.toSl {w : World} {a : Option Addr} {j : Nat} {cs : List Value} (h : Row w a j cs) : Sl w (some ⟨(sat a j).block, (sat a j).off, none⟩) cs := fun i u hu => by
  obtain ⟨b, off, rfl, hc⟩ := h i u hu
  exact ⟨b, off + j, rfl, hc⟩
theorem ptr_eq {w : World} {a : Option Addr} {j : Nat} {cs : List Value} (h : Row w a j cs) (h0 : 0 < cs.length) : Value.pointer (some (sat a j)) = .pointer (some ⟨(sat a j).block, (sat a j).off, none⟩) := by
  obtain ⟨b, off, rfl⟩ := h.addr h0
  rfl
end Go.Wv

