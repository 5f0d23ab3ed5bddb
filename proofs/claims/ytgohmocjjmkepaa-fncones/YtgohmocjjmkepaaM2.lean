/- What the functions compute: lists. -/
import Derived.Test.YtgohmocjjmkepaaModel
import Derived.Test.YtgohmocjjmkepaaF3
set_option linter.unusedSimpArgs false
set_option linter.unusedVariables false
namespace Go.Wv
/-- The first index from one on whose number is at least so great; -1 if there is none. -/
def firstGe (X : List Nat) (L : Nat) : Nat → Int → Int
  | 0, _ => -1
  | n + 1, k => if fge .f32 (szX (el X k)) L = true then k else firstGe X L n (k + 1)
def arrOk (X : List Nat) (L : Nat) : Bool := decide (X.length ≤ 64) && finB L && fgt .f32 L 0
def arrI (X : List Nat) (L : Nat) : Int := if arrOk X L = true then firstGe X L X.length 0 else -1
theorem firstGe_step {X : List Nat} {L n : Nat} {k : Int} (h : k < n) : firstGe X L (n - k).toNat k = if fge .f32 (szX (el X k)) L = true then k else firstGe X L (n - (k + 1)).toNat (k + 1) := by
  rw [show ((n : Int) - k).toNat = (n - (k + 1) : Int).toNat + 1 by omega]; rfl
theorem firstGe_end {X : List Nat} {L n : Nat} {k : Int} (h : ¬ k < n) : firstGe X L (n - k).toNat k = -1 := by
  rw [show ((n : Int) - k).toNat = 0 by omega]; rfl
theorem arrOk_i {X : List Nat} {L : Nat} (h : X.length ≤ 64) (h1 : finB L = true) (h2 : fgt .f32 L 0 = true) : arrOk X L = true := by simp [arrOk, h, h1, h2]
theorem finB_not {L : Nat} (h : finB L = true) : nanb .f32 L = false := by
  cases hn : nanb .f32 L
  · rfl
  · unfold finB fop floatBits at h
    have h1 : FloatKind.f32.format.sub L L = none := by
      show ((FloatKind.f32.format.read L).sum _).map _ = none
      unfold nanb at hn
      cases hd : FloatKind.f32.format.read L with
      | number s m p => rw [hd] at hn; cases hn
      | infinity s => rw [hd] at hn; cases hn
      | nan s t => rfl
    simp only [h1] at h
    rw [show (none : Option Nat).getD (qnan .f32) = qnan .f32 from rfl] at h
    unfold feq at h
    rw [order_nan (nanb_qnan .f32)] at h
    cases h
theorem not_le_gt {L : Nat} (h : finB L = true) : fgt .f32 L 0 = !fle .f32 L 0 := by
  have hn := finB_not h
  unfold fgt fle
  show ((FloatKind.f32.format.read L).order _ == _) = _
  have hz : FloatKind.f32.format.read 0 = .number false 0 FloatKind.f32.format.leastPlace := read_zero .f32
  show _ = !((FloatKind.f32.format.read L).order (FloatKind.f32.format.read 0) == _ || (FloatKind.f32.format.read L).order (FloatKind.f32.format.read 0) == _)
  rw [hz]
  unfold nanb at hn
  cases hd : FloatKind.f32.format.read L with
  | number s m p =>
    simp only [Ieee.Datum.order]
    generalize (compare (_ : Int) _) = o
    cases o <;> rfl
  | infinity s => cases s <;> rfl
  | nan s t => rw [hd] at hn; cases hn
theorem arrOk_s {X : List Nat} {L : Nat} (h : X.length ≤ 64) (h1 : finB L = true) (h2 : ¬ fle .f32 L 0 = true) : arrOk X L = true := by
  simp [arrOk, h, h1, not_le_gt h1, h2]
theorem arrOk_len {X : List Nat} {L : Nat} (h : 64 < X.length) : arrOk X L = false := by simp [arrOk]; omega
theorem arrOk_fin {X : List Nat} {L : Nat} (h : ¬ finB L = true) : arrOk X L = false := by simp [arrOk, h]
theorem arrOk_gt {X : List Nat} {L : Nat} (h : ¬ fgt .f32 L 0 = true) : arrOk X L = false := by simp [arrOk, h]
theorem arrOk_le {X : List Nat} {L : Nat} (h : fle .f32 L 0 = true) : arrOk X L = false := by
  by_cases h1 : finB L = true
  · simp [arrOk, not_le_gt h1, h]
  · simp [arrOk, h1]
theorem arr_start {X : List Nat} {L n : Nat} (h : arrOk X L = true) (hn : X.length = n) : arrI X L = firstGe X L ((n : Int) - 0).toNat 0 := by
  rw [arrI, if_pos h, ← hn]; simp
theorem arr_step {X : List Nat} {L n : Nat} {k : Int} (h : k < n) (hM : arrI X L = firstGe X L ((n : Int) - k).toNat k) (hc : ¬ fge .f32 (szX (el X k)) L = true) : arrI X L = firstGe X L ((n : Int) - (k + 1)).toNat (k + 1) := by
  rw [hM, firstGe_step h, if_neg hc]
def arrV (i : Int) : Value := .tuple #[.int .i64 (if 0 ≤ i then i else 0), .bool (decide (0 ≤ i))]
theorem arr_yes {X : List Nat} {L n : Nat} {k : Int} (h0 : 0 ≤ k) (h : k < n) (hM : arrI X L = firstGe X L ((n : Int) - k).toNat k) (hc : fge .f32 (szX (el X k)) L = true) :
    Value.tuple #[.int .i64 k, .bool true] = .tuple #[.int .i64 (if 0 ≤ arrI X L then arrI X L else 0), .bool (decide (0 ≤ arrI X L))] := by
  rw [hM, firstGe_step h, if_pos hc]; simp [h0]
theorem arr_end {X : List Nat} {L n : Nat} {k : Int} (hM : arrI X L = firstGe X L ((n : Int) - k).toNat k) (h : ¬ k < n) :
    Value.tuple #[.int .i64 0, .bool false] = .tuple #[.int .i64 (if 0 ≤ arrI X L then arrI X L else 0), .bool (decide (0 ≤ arrI X L))] := by
  rw [hM, firstGe_end h]; simp
theorem arr_no {X : List Nat} {L : Nat} (h : arrOk X L = false) :
    Value.tuple #[.int .i64 0, .bool false] = .tuple #[.int .i64 (if 0 ≤ arrI X L then arrI X L else 0), .bool (decide (0 ≤ arrI X L))] := by
  simp [arrI, h]
end Go.Wv
