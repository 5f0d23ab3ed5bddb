/- Lists: small laws for the walks. -/
import Derived.Test.YtgohmocjjmkepaaF1
set_option linter.unusedSimpArgs false
set_option linter.unusedVariables false
namespace Go.Wv
def flts (xs : List Nat) : List Value := xs.map (Value.float .f32)
theorem flts_length (xs : List Nat) : (flts xs).length = xs.length := List.length_map ..
theorem map_at {α : Type} {f : α → Value} {xs : List α} {k j : Nat} (hk : k < xs.length) (hj : j = k) : (xs.map f)[j]? = some (f xs[k]) := by
  subst hj; simp [hk]
theorem fill_step {α : Type} (f : α → Value) (xs : List α) {k j : Nat} (hk : k < xs.length) (hj : j = k) (z : Value) :
    ((xs.take k).map f ++ List.replicate (xs.length - k) z).set j (f xs[k]) = (xs.take (k + 1)).map f ++ List.replicate (xs.length - (k + 1)) z := by
  subst hj
  have hl : ((xs.take j).map f).length = j := by simp; omega
  rw [List.set_append_right _ _ (by rw [hl]; exact Nat.le_refl _), hl, Nat.sub_self, show xs.length - j = (xs.length - (j + 1)) + 1 by omega, List.replicate_succ, List.set_cons_zero,
    List.take_succ_eq_append_getElem hk, List.map_append, List.append_assoc]
  rfl
theorem fill_start {α : Type} (f : α → Value) (xs : List α) (z : Value) : (xs.take 0).map f ++ List.replicate (xs.length - 0) z = List.replicate xs.length z := by simp
theorem fill_made {α : Type} (f : α → Value) (xs : List α) {z : Value} {m : Nat} (hz : z.cells = #[z]) (hm : m = xs.length) : (madeCells z.cells m).toList = (xs.take 0).map f ++ List.replicate (xs.length - 0) z := by
  rw [fill_start, made_one z hz, hm]
theorem fill_end {α : Type} (f : α → Value) (xs : List α) (z : Value) {k : Nat} (h : ¬ (k : Int) < (xs.length : Nat)) : (xs.take k).map f ++ List.replicate (xs.length - k) z = xs.map f := by
  have : xs.length ≤ k := by omega
  rw [List.take_of_length_le this, Nat.sub_eq_zero_of_le this]; simp
theorem Own.cast {w : World} {B n c T s n' : Nat} {a : Option Addr} {cs cs' : List Value} (h : Own w B a n c T s cs) (hn : n = n') (hc : cs = cs') : Own w B a n' c T s cs' := by subst hn; subst hc; exact h
/-- Canonical bits. -/
def cn (xs : List Nat) : List Nat := xs.map (can .f32)
theorem cn_length (xs : List Nat) : (cn xs).length = xs.length := List.length_map ..
theorem cn_get {xs : List Nat} {k : Nat} (h : k < xs.length) : (cn xs)[k]'(by rw [cn_length]; exact h) = can .f32 xs[k] := by simp [cn]
theorem cn_eq {xs ys : List Nat} (h : cn xs = cn ys) {k : Nat} (hx : k < xs.length) (hy : k < ys.length) : can .f32 xs[k] = can .f32 ys[k] := by
  have h1 := cn_get hx
  have h2 := cn_get hy
  rw [← h1, ← h2]
  congr 1
theorem cn_len {xs ys : List Nat} (h : cn xs = cn ys) : xs.length = ys.length := by rw [← cn_length xs, h, cn_length]

theorem order_self (k : FloatKind) {x : Nat} (h : nanb k x = false) : k.format.order x x = some .eq := by
  unfold nanb at h
  show (k.format.read x).order (k.format.read x) = _
  cases hd : k.format.read x with
  | number s m p => simp [Ieee.Datum.order]
  | infinity s => simp [Ieee.Datum.order]
  | nan s t => rw [hd] at h; cases h
theorem order_nan {k : FloatKind} {x y : Nat} (h : nanb k x = true) : k.format.order x y = none := Go.Wv.order_nan_l h
theorem fne_self_of_not {k : FloatKind} {x : Nat} (h : nanb k x = false) : fne k x x = false := by unfold fne; rw [order_self k h]; rfl
theorem feq_self_of_not {k : FloatKind} {x : Nat} (h : nanb k x = false) : feq k x x = true := by unfold feq; rw [order_self k h]; rfl
theorem fne_self (k : FloatKind) (x : Nat) : fne k x x = nanb k x := by
  cases h : nanb k x
  · exact fne_self_of_not h
  · unfold fne; rw [order_nan h]; rfl
theorem feq_self (k : FloatKind) (x : Nat) : feq k x x = !nanb k x := by
  cases h : nanb k x
  · exact feq_self_of_not h
  · unfold feq; rw [order_nan h]; rfl
theorem nearest_not (k : FloatKind) (n : Int) : nanb k (k.nearest n) = false := nanb_write (k := k) (d := .number (n < 0) n.natAbs 0) rfl
end Go.Wv
