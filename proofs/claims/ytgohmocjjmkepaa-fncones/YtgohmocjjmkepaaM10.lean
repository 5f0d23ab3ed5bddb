/- What the functions compute: rings of probes. -/
import Derived.Test.YtgohmocjjmkepaaM9
set_option linter.unusedSimpArgs false
set_option linter.unusedVariables false
namespace Go.Wv
/-- Those numbers from 'u0' on, of 'n', for which 'p' holds. -/
def rowN (u0 : Int) (p : Int → Bool) : Nat → List Int
  | 0 => []
  | n + 1 => rowN u0 p n ++ if p (u0 + n) = true then [u0 + (n : Int)] else []
/-- Those cells of a box, row by row, for which 'p' holds. -/
def boxN (u0 v0 : Int) (nu : Nat) (p : Int → Int → Bool) : Nat → List (Int × Int)
  | 0 => []
  | n + 1 => boxN u0 v0 nu p n ++ (rowN u0 (fun u => p u (v0 + n)) nu).map fun u => (u, v0 + (n : Int))
theorem rowN_add (u0 : Int) (p : Int → Bool) (a : Nat) : ∀ b, rowN u0 p (a + b) = rowN u0 p a ++ rowN (u0 + a) p b
  | 0 => by simp [rowN]
  | b + 1 => by
    show rowN u0 p (a + b + 1) = _
    simp only [rowN]
    rw [rowN_add u0 p a b, List.append_assoc, show u0 + ((a + b : Nat) : Int) = u0 + a + b by omega]
theorem rowN_congr {u0 : Int} {p q : Int → Bool} : ∀ {n : Nat}, (∀ u, u0 ≤ u → u < u0 + n → p u = q u) → rowN u0 p n = rowN u0 q n
  | 0, _ => rfl
  | n + 1, h => by
    simp only [rowN]
    rw [rowN_congr (fun u h0 h1 => h u h0 (by omega)), h (u0 + n) (by omega) (by omega)]
theorem rowN_none (u0 : Int) : ∀ n, rowN u0 (fun _ => false) n = []
  | 0 => rfl
  | n + 1 => by simp [rowN, rowN_none u0 n]
theorem rowN_len (u0 : Int) (p : Int → Bool) : ∀ n, (rowN u0 p n).length ≤ n
  | 0 => Nat.le_refl _
  | n + 1 => by
    simp only [rowN, List.length_append]
    have := rowN_len u0 p n
    split <;> simp <;> omega
theorem boxN_add (u0 v0 : Int) (nu : Nat) (p : Int → Int → Bool) (a : Nat) : ∀ b, boxN u0 v0 nu p (a + b) = boxN u0 v0 nu p a ++ boxN u0 (v0 + a) nu p b
  | 0 => by simp [boxN]
  | b + 1 => by
    show boxN u0 v0 nu p (a + b + 1) = _
    simp only [boxN]
    rw [boxN_add u0 v0 nu p a b, List.append_assoc, show v0 + ((a + b : Nat) : Int) = v0 + a + b by omega]
theorem boxN_congr {u0 u1 v0 : Int} {nu nu1 : Nat} {p q : Int → Int → Bool} : ∀ {n : Nat}, (∀ v, v0 ≤ v → v < v0 + n → rowN u0 (fun u => p u v) nu = rowN u1 (fun u => q u v) nu1) → boxN u0 v0 nu p n = boxN u1 v0 nu1 q n
  | 0, _ => rfl
  | n + 1, h => by
    simp only [boxN]
    rw [boxN_congr (fun v h0 h1 => h v h0 (by omega)), h (v0 + n) (by omega) (by omega)]
theorem boxN_none (u0 v0 : Int) (nu : Nat) : ∀ n, boxN u0 v0 nu (fun _ _ => false) n = []
  | 0 => rfl
  | n + 1 => by simp [boxN, boxN_none u0 v0 nu n, rowN_none]
/-- The same in a greater box. -/
theorem rowN_big {u0 A : Int} {n N : Nat} {p : Int → Bool} (h0 : A ≤ u0) (h1 : u0 + n ≤ A + N) : rowN u0 p n = rowN A (fun u => decide (u0 ≤ u) && decide (u < u0 + n) && p u) N := by
  obtain ⟨a, ha⟩ := Int.eq_ofNat_of_zero_le (show 0 ≤ u0 - A by omega)
  obtain ⟨b, hb⟩ := Int.eq_ofNat_of_zero_le (show 0 ≤ A + N - (u0 + n) by omega)
  rw [show N = a + n + b by omega, rowN_add, rowN_add, show A + (a : Int) = u0 by omega]
  rw [show rowN A (fun u => decide (u0 ≤ u) && decide (u < u0 + n) && p u) a = [] from (rowN_congr (q := fun _ => false) fun u h2 h3 => by rw [decide_eq_false (by omega)]; simp).trans (rowN_none _ _)]
  rw [show rowN (A + ((a + n : Nat) : Int)) (fun u => decide (u0 ≤ u) && decide (u < u0 + n) && p u) b = [] from (rowN_congr (q := fun _ => false) fun u h2 h3 => by rw [decide_eq_false (p := u < u0 + n) (by omega)]; simp).trans (rowN_none _ _)]
  rw [List.nil_append, List.append_nil]
  exact rowN_congr fun u h2 h3 => by rw [decide_eq_true (by omega), decide_eq_true (by omega)]; simp
theorem boxN_big {u0 v0 A B : Int} {nu nv N M : Nat} {p : Int → Int → Bool} (h0 : A ≤ u0) (h1 : u0 + nu ≤ A + N) (h2 : B ≤ v0) (h3 : v0 + nv ≤ B + M) :
    boxN u0 v0 nu p nv = boxN A B N (fun u v => decide (v0 ≤ v) && decide (v < v0 + nv) && (decide (u0 ≤ u) && decide (u < u0 + nu) && p u v)) M := by
  obtain ⟨a, ha⟩ := Int.eq_ofNat_of_zero_le (show 0 ≤ v0 - B by omega)
  obtain ⟨b, hb⟩ := Int.eq_ofNat_of_zero_le (show 0 ≤ B + M - (v0 + nv) by omega)
  rw [show M = a + nv + b by omega, boxN_add, boxN_add, show B + (a : Int) = v0 by omega]
  rw [show boxN A B N (fun u v => decide (v0 ≤ v) && decide (v < v0 + nv) && (decide (u0 ≤ u) && decide (u < u0 + nu) && p u v)) a = [] from (boxN_congr (q := fun _ _ => false) fun v h4 h5 => rowN_congr fun u _ _ => by rw [decide_eq_false (by omega)]; simp).trans (boxN_none _ _ _ _)]
  rw [show boxN A (B + ((a + nv : Nat) : Int)) N (fun u v => decide (v0 ≤ v) && decide (v < v0 + nv) && (decide (u0 ≤ u) && decide (u < u0 + nu) && p u v)) b = [] from (boxN_congr (q := fun _ _ => false) fun v h4 h5 => rowN_congr fun u _ _ => by rw [decide_eq_false (p := v < v0 + nv) (by omega)]; simp).trans (boxN_none _ _ _ _)]
  rw [List.nil_append, List.append_nil]
  refine boxN_congr fun v h4 h5 => (rowN_big h0 h1).trans (rowN_congr fun u _ _ => ?_)
  rw [decide_eq_true (show v0 ≤ v by omega), decide_eq_true (show v < v0 + nv by omega), Bool.true_and, Bool.true_and]
/-- Two boxes with the same cells. -/
theorem boxN_ext {u0 v0 u1 v1 : Int} {nu nv mu mv : Nat} {p q : Int → Int → Bool}
    (h : ∀ u v, (v0 ≤ v ∧ v < v0 + nv) ∧ (u0 ≤ u ∧ u < u0 + nu) ∧ p u v = true ↔ (v1 ≤ v ∧ v < v1 + mv) ∧ (u1 ≤ u ∧ u < u1 + mu) ∧ q u v = true) : boxN u0 v0 nu p nv = boxN u1 v1 mu q mv := by
  rw [boxN_big (A := min u0 u1) (B := min v0 v1) (N := (max (u0 + nu) (u1 + mu) - min u0 u1).toNat) (M := (max (v0 + nv) (v1 + mv) - min v0 v1).toNat) (by omega) (by omega) (by omega) (by omega)]
  rw [boxN_big (u0 := u1) (v0 := v1) (A := min u0 u1) (B := min v0 v1) (N := (max (u0 + nu) (u1 + mu) - min u0 u1).toNat) (M := (max (v0 + nv) (v1 + mv) - min v0 v1).toNat) (by omega) (by omega) (by omega) (by omega)]
  refine boxN_congr fun v _ _ => rowN_congr fun u _ _ => ?_
  rw [Bool.eq_iff_iff]
  simp only [Bool.and_eq_true, decide_eq_true_eq]
  exact h u v
/-- Some rows and a part of the next one. -/
def inL (u0 v0 : Int) (nu : Nat) (p : Int → Int → Bool) (a : Nat) (v k : Int) : List (Int × Int) := boxN u0 v0 nu p a ++ (rowN u0 (fun u => p u v) k.toNat).map fun u => (u, v)
section
variable {u0 v0 u v k : Int} {nu a : Nat} {p : Int → Int → Bool}
theorem inL_zero : boxN u0 v0 nu p a = inL u0 v0 nu p a v 0 := by simp [inL, rowN]
theorem inL_yes (h0 : 0 ≤ k) (hu : u = u0 + k) (hp : p u v = true) : inL u0 v0 nu p a v k ++ [(u, v)] = inL u0 v0 nu p a v (k + 1) := by
  subst hu
  unfold inL
  rw [show (k + 1).toNat = k.toNat + 1 by omega]
  simp only [rowN, Int.toNat_of_nonneg h0]
  rw [if_pos hp]; simp
theorem inL_no (h0 : 0 ≤ k) (hu : u = u0 + k) (hp : p u v = false) : inL u0 v0 nu p a v k = inL u0 v0 nu p a v (k + 1) := by
  subst hu
  unfold inL
  rw [show (k + 1).toNat = k.toNat + 1 by omega]
  simp only [rowN, Int.toNat_of_nonneg h0]
  rw [if_neg (by rw [hp]; simp)]; simp
theorem inL_row {y : Int} (h0 : 0 ≤ y) (hv : v = v0 + y) (hk : k.toNat = nu) : inL u0 v0 nu p y.toNat v k = boxN u0 v0 nu p (y + 1).toNat := by
  subst hv; subst hk
  unfold inL
  rw [show (y + 1).toNat = y.toNat + 1 by omega]
  simp only [boxN, Int.toNat_of_nonneg h0]
theorem boxN_len (hn : nu ≤ 64) : ∀ n, n ≤ 64 → (boxN u0 v0 nu p n).length ≤ 64 * n
  | 0, _ => Nat.le_refl _
  | n + 1, h => by
    simp only [boxN, List.length_append, List.length_map]
    have h1 := boxN_len hn n (by omega)
    have h2 := rowN_len u0 (fun u => p u (v0 + n)) nu
    omega
theorem inL_len (hn : nu ≤ 64) (ha : a ≤ 64) (hk : k ≤ 64) : (inL u0 v0 nu p a v k).length ≤ 5000 := by
  unfold inL
  rw [List.length_append, List.length_map]
  have h1 := boxN_len (u0 := u0) (v0 := v0) (p := p) hn a ha
  have h2 := rowN_len u0 (fun u => p u v) k.toNat
  omega
end
section
variable {wd hi x y far : Int} {wr : Bool} {P L : List Nat}
def ringP (x y far u v : Int) : Bool := decide (max (max (max (u - x) (x - u)) (v - y)) (y - v) = far)
def ringQ (wd hi x y far u v : Int) : Bool := (decide (v = y - far) || decide (v = y + far) || decide (u = x - far) || decide (u = x + far)) && cellB wd hi u v
def ringL (wd hi x y far : Int) : List (Int × Int) := boxN 0 0 wd.toNat (ringP x y far) hi.toNat
theorem ring_s (hx : 0 ≤ wd) (hy : 0 ≤ hi) (hf : 0 ≤ far) : boxN (x - far) (y - far) (2 * far + 1).toNat (ringQ wd hi x y far) (2 * far + 1).toNat = ringL wd hi x y far := by
  unfold ringL
  refine boxN_ext fun u v => ?_
  simp only [ringP, ringQ, Bool.and_eq_true, Bool.or_eq_true, decide_eq_true_eq, cellB, within]
  omega
def ringB (wd hi : Int) (P L : List Nat) (x y far : Int) : Bool := vcellB wd hi P L x y && within far 1 16 && decide ((ringL wd hi x y far).length ≤ 8)
theorem ringB_b (h : ringB wd hi P L x y far = true) : (ringL wd hi x y far).length ≤ 8 := by
  simp only [ringB, Bool.and_eq_true, decide_eq_true_eq] at h; exact h.2
end
end Go.Wv
