/- Lists of numbers by their indices. -/
import Derived.Test.YtgohmocjjmkepaaF2
set_option linter.unusedSimpArgs false
set_option linter.unusedVariables false
namespace Go.Wv
/-- The number at an index. -/
def el (xs : List Nat) (i : Int) : Nat := xs.getD i.toNat 0
/-- The list with another number at an index. -/
def put (xs : List Nat) (i : Int) (v : Nat) : List Nat := xs.set i.toNat v
theorem put_length (xs : List Nat) (i : Int) (v : Nat) : (put xs i v).length = xs.length := List.length_set ..
theorem el_get {xs : List Nat} {i : Int} (h0 : 0 ≤ i) (h1 : i < (xs.length : Int)) : xs[i.toNat]? = some (el xs i) := by
  have h : i.toNat < xs.length := by omega
  simp [el, h]
theorem fl_at {xs : List Nat} {i : Int} (h0 : 0 ≤ i) (h1 : i < (xs.length : Int)) : (flts xs)[i.toNat * 1]? = some (.float .f32 (el xs i)) := by
  rw [Nat.mul_one, flts, List.getElem?_map, el_get h0 h1]; rfl
theorem can_zero : can .f32 0 = 0 := by kernel_rfl
theorem cn_zero : Cn .f32 0 0 := cnLit (by kernel_rfl) (by kernel_rfl)
theorem cn_el {xs X : List Nat} (h : cn xs = X) (i : Int) : can .f32 (el xs i) = el X i := by
  subst h
  simp only [el, cn, List.getD_eq_getElem?_getD, List.getElem?_map]
  cases xs[i.toNat]? <;> simp [can_zero]
theorem flts_put (xs : List Nat) (i : Int) (v : Nat) : (flts xs).set (i.toNat * 1) (.float .f32 v) = flts (put xs i v) := by
  rw [Nat.mul_one, flts, flts, put, List.map_set]
theorem cn_put {xs X : List Nat} {v V : Nat} (h : cn xs = X) (hv : can .f32 v = V) (i : Int) : cn (put xs i v) = put X i V := by
  subst h; subst hv
  simp [cn, put, List.map_set]
theorem el_put {xs : List Nat} {i : Int} (h0 : 0 ≤ i) (h1 : i < (xs.length : Int)) (v : Nat) (j : Int) (hj : 0 ≤ j) : el (put xs i v) j = if j = i then v else el xs j := by
  have h : i.toNat < xs.length := by omega
  by_cases e : j = i
  · subst e; rw [if_pos rfl]; simp [el, put, h]
  · rw [if_neg e]
    have e' : i.toNat ≠ j.toNat := by omega
    simp [el, put, e']
theorem ext_el {xs ys : List Nat} (hl : xs.length = ys.length) (h : ∀ i, 0 ≤ i → i < (ys.length : Int) → el xs i = el ys i) : xs = ys := by
  apply List.ext_getElem? 
  intro n
  by_cases hn : n < ys.length
  · have h1 := el_get (xs := xs) (i := n) (by omega) (by omega)
    have h2 := el_get (xs := ys) (i := n) (by omega) (by omega)
    rw [Int.toNat_natCast] at h1 h2
    rw [h1, h2, h n (by omega) (by omega)]
  · rw [List.getElem?_eq_none (by omega), List.getElem?_eq_none (by omega)]
theorem made_flts (m : Nat) {n : Nat} (h : n = m * 1) : (madeCells (Value.float .f32 0).cells n).toList = flts (List.replicate m 0) := by
  subst h
  rw [made_one _ rfl, flts, List.map_replicate, Nat.mul_one]
theorem el_replicate (m : Nat) (i : Int) : el (List.replicate m 0) i = 0 := by
  simp only [el, List.getD_eq_getElem?_getD, List.getElem?_replicate]
  split <;> rfl
theorem flts_snoc (xs : List Nat) (r : Nat) : flts xs ++ [Value.float .f32 r] = flts (xs ++ [r]) := by simp [flts]
theorem flts_app (xs ys : List Nat) : flts xs ++ flts ys = flts (xs ++ ys) := by simp [flts]
theorem flts_nil : flts [] = [] := rfl
theorem flts_one' (ys : List Nat) : ∀ u ∈ flts ys, u.oneCell' = true := by
  intro u hu
  simp only [flts, List.mem_map] at hu
  obtain ⟨x, _, rfl⟩ := hu; rfl
theorem cn_snoc {xs X : List Nat} {r R : Nat} (h : cn xs = X) (hr : can .f32 r = R) : cn (xs ++ [r]) = X ++ [R] := by subst h; subst hr; simp [cn]
theorem cn_app {xs X ys Y : List Nat} (h : cn xs = X) (hr : cn ys = Y) : cn (xs ++ ys) = X ++ Y := by subst h; subst hr; simp [cn]
theorem cn_lenX {xs X : List Nat} (h : cn xs = X) : X.length = xs.length := by subst h; exact cn_length xs
/-- The numbers of a table. -/
def tab (n : Int) (g : Int → Nat) : List Nat := (List.range n.toNat).map fun (i : Nat) => g (i : Int)
theorem tab_length (n : Int) (g : Int → Nat) : (tab n g).length = n.toNat := by simp [tab]
theorem tab_zero (g : Int → Nat) : tab 0 g = [] := rfl
theorem tab_succ {n : Int} (h : 0 ≤ n) (g : Int → Nat) : tab (n + 1) g = tab n g ++ [g n] := by
  unfold tab
  rw [show (n + 1).toNat = n.toNat + 1 by omega, List.range_succ, List.map_append]
  simp [Int.toNat_of_nonneg h]
theorem el_tab {n : Int} {g : Int → Nat} {i : Int} (h0 : 0 ≤ i) (h1 : i < n) : el (tab n g) i = g i := by
  have : i.toNat < n.toNat := by omega
  simp [el, tab, this, Int.toNat_of_nonneg h0]
theorem tab_ext {n : Int} {g h : Int → Nat} (e : ∀ i, 0 ≤ i → i < n → g i = h i) : tab n g = tab n h := by
  unfold tab
  apply List.map_congr_left
  intro i hi
  rw [List.mem_range] at hi
  exact e i (by omega) (by omega)
theorem tab_of {xs : List Nat} {n : Int} {g : Int → Nat} (hl : (xs.length : Int) = n) (h : ∀ i, 0 ≤ i → i < n → el xs i = g i) : xs = tab n g := by
  apply ext_el
  · rw [tab_length]; omega
  · intro i h0 h1
    rw [tab_length] at h1
    rw [el_tab h0 (by omega), h i h0 (by omega)]
/-- The marks that the laws write: rising numbers. -/
def marks (k : Int) (n : Nat) : List Nat := tab n fun i => FloatKind.nearest .f32 (k + i)
theorem marks_length (k : Int) (n : Nat) : (marks k n).length = n := by simp [marks, tab_length]
theorem el_marks {k : Int} {n : Nat} {i : Int} (h0 : 0 ≤ i) (h1 : i < (n : Int)) : el (marks k n) i = FloatKind.nearest .f32 (k + i) := el_tab h0 h1
theorem can_el_marks {k : Int} {n : Nat} {i : Int} (h0 : 0 ≤ i) (h1 : i < (n : Int)) : can .f32 (el (marks k n) i) = FloatKind.nearest .f32 (k + i) := by
  rw [el_marks h0 h1, can_nearest]
theorem fne_marks (k : Int) : fne .f32 (FloatKind.nearest .f32 k) (FloatKind.nearest .f32 k) = false := fne_self_of_not (nearest_not _ _)
theorem Sl.low {w : World} {a : Option Addr} {cs : List Value} (h : Sl w a cs) : cs = [] ∨ ∀ k, inA a k → k < w.heap.size := by
  cases cs with
  | nil => exact .inl rfl
  | cons c cs => exact .inr (h.lt (by simp))
theorem Sl.extL {S : Nat → Prop} {w1 w2 : World} {B : Nat} {a : Option Addr} {cs : List Value} (h : Sl w1 a cs) (low : cs = [] ∨ ∀ k, inA a k → k < B) (e : Ext S w1 w2) (hs : ∀ k, S k → k < B → False) : Sl w2 a cs := by
  rcases low with rfl | low
  · exact Sl.nil _ _
  · exact h.ext e fun k hk hk' => hs k hk' (low k hk)
theorem Sl.fmarks0 (w : World) (a : Option Addr) (k : Int) : Sl w a (flts (marks k 0)) := Sl.nil _ _
theorem Own.fnil (w : World) (B T : Nat) : Own w B none 0 0 T 1 (flts []) := Own.nil w B T 1
theorem Ext.none {w w' : World} (h : Ext (inA none) w w') : Ext0 w w' := h.mono fun k hk => by simp [inA] at hk
theorem marks_done {n : Nat} {zs : List Nat} {k : Int} (hl : zs.length = n) (h : ∀ i, 0 ≤ i → i < (n : Int) → el zs i = FloatKind.nearest .f32 (k + i)) : zs = marks k n :=
  tab_of (by omega) h
theorem not_fne_marks {n : Nat} {k i : Int} (h0 : 0 ≤ i) (h1 : i < (n : Int)) : ¬ fne .f32 (el (cn (marks k n)) i) (FloatKind.nearest .f32 (k + i)) = true := by
  rw [← cn_el rfl, can_el_marks h0 h1, fne_marks]; simp
theorem cn_zeros (n : Nat) : cn (List.replicate n 0) = List.replicate n 0 := by simp [cn, can_zero]
theorem Sl.fnil (w : World) (a : Option Addr) : Sl w a (flts []) := Sl.nil _ _
theorem el_same {xs zs : List Nat} {k : Int} (hl : zs.length = xs.length) (h0 : 0 ≤ k) (h1 : k < (xs.length : Int)) (h : ∀ i, 0 ≤ i → i < k → el zs i = el xs i) : ∀ i, 0 ≤ i → i < k + 1 → el (put zs k (el xs k)) i = el xs i := fun i h2 h3 => by
  rw [el_put h0 (by omega) _ _ h2]
  by_cases e : i = k
  · subst e; rw [if_pos rfl]
  · rw [if_neg e]; exact h i h2 (by omega)
theorem el_mark {n : Nat} {zs : List Nat} {k j : Int} (hl : zs.length = n) (h0 : 0 ≤ j) (h1 : j < (n : Int)) (h : ∀ i, 0 ≤ i → i < j → el zs i = FloatKind.nearest .f32 (k + i)) : ∀ i, 0 ≤ i → i < j + 1 → el (put zs j (FloatKind.nearest .f32 (k + j))) i = FloatKind.nearest .f32 (k + i) := fun i h2 h3 => by
  rw [el_put h0 (by omega) _ _ h2]
  by_cases e : i = j
  · subst e; rw [if_pos rfl]
  · rw [if_neg e]; exact h i h2 (by omega)
end Go.Wv
