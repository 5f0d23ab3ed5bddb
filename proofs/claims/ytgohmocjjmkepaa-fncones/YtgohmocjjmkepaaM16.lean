/- Mirrored twice, exchanged twice, shifted forth and back: as it was. -/
import Derived.Test.YtgohmocjjmkepaaM15
set_option linter.unusedSimpArgs false
set_option linter.unusedVariables false
namespace Go.Wv
theorem el_movL {W H x y : Int} {g : Int → Int → Int} {X : List Nat} (h0 : 0 ≤ x) (h1 : x < W) (h2 : 0 ≤ y) (h3 : y < H) : el (movL W H g X) (x + W * y) = el X (g x y) := by
  have h4 := row_lt h0 h1 h2 h3
  have h5 := divmod_row (y := y) h0 h1
  unfold movL
  rw [el_tab h4.1 h4.2, h5.1, h5.2]
theorem movL_id {W H W' H' : Int} {g g' : Int → Int → Int} {X : List Nat} (hl : (X.length : Int) = W * H) (hW : 0 < W)
    (hc : ∀ x y, 0 ≤ x → x < W → 0 ≤ y → y < H → ∃ x' y', (0 ≤ x' ∧ x' < W' ∧ 0 ≤ y' ∧ y' < H') ∧ g' x y = x' + W' * y' ∧ g x' y' = x + W * y) : movL W H g' (movL W' H' g X) = X := by
  refine (tab_of hl fun i h0 h1 => ?_).symm
  have hx := rem_b (x := i) (m := W) h0 hW
  have hy0 : 0 ≤ i / W := Int.ediv_nonneg h0 (by omega)
  have hy1 : i / W < H := Int.ediv_lt_of_lt_mul hW (by rw [Int.mul_comm]; exact h1)
  obtain ⟨x', y', ⟨a1, a2, a3, a4⟩, e1, e2⟩ := hc (i % W) (i / W) hx.1 hx.2 hy0 hy1
  rw [e1, el_movL a1 a2 a3 a4, e2, Int.emod_add_mul_ediv]
theorem mir_mir {wd hi : Int} {X : List Nat} (hl : (X.length : Int) = wd * hi) (hW : 0 < wd) : mirS wd hi (mirS wd hi X) = X :=
  movL_id hl hW fun x y a b c d => ⟨wd - 1 - x, y, ⟨by omega, by omega, c, d⟩, rfl, by omega⟩
theorem swp_swp {wd hi : Int} {X : List Nat} (hl : (X.length : Int) = wd * hi) (hW : 0 < wd) : swpS hi wd (swpS wd hi X) = X :=
  movL_id hl hW fun x y a b c d => ⟨y, x, ⟨c, d, a, b⟩, rfl, rfl⟩
theorem shf_shf {wd hi dx dy : Int} {X : List Nat} (hl : (X.length : Int) = wd * hi) (hW : 0 < wd) (hH : 0 < hi) : shfS wd hi (-dx) (-dy) (shfS wd hi dx dy X) = X := by
  refine movL_id hl hW fun x y a b c d => ⟨(x - -dx) % wd, (y - -dy) % hi, ⟨Int.emod_nonneg _ (by omega), Int.emod_lt_of_pos _ hW, Int.emod_nonneg _ (by omega), Int.emod_lt_of_pos _ hH⟩, rfl, ?_⟩
  have e (z m k : Int) (h0 : 0 ≤ z) (h1 : z < m) : ((z - -k) % m - k) % m = z := by
    rw [Int.emod_sub_emod, show z - -k - k = z by omega, Int.emod_eq_of_lt h0 h1]
  show ((x - -dx) % wd - dx) % wd + wd * (((y - -dy) % hi - dy) % hi) = x + wd * y
  rw [e x wd dx a b, e y hi dy c d]
theorem fneg_fneg {k : FloatKind} {x : Nat} (h : can k x = x) : fneg k (fneg k x) = x := by
  by_cases hn : nanb k x = true
  · have e : fneg k x = qnan k := by unfold fneg; rw [if_pos hn]
    rw [e]; unfold fneg; rw [if_pos (nanb_qnan k), ← h, can_of_nan hn]
  · have e : fneg k x = Op.negFloat k x := by unfold fneg; rw [if_neg hn]
    rw [e]; unfold fneg; rw [nanb_neg, if_neg hn]
    unfold Op.negFloat
    rw [Nat.xor_assoc, Nat.xor_self, Nat.xor_zero]
/-- All elements are as they are told. -/
def canL (X : List Nat) : Prop := ∀ x ∈ X, can .f32 x = x
theorem reps_can : ∀ {X : List Nat} {cs : List Value}, Reps kF X cs → canL X := by
  intro X
  induction X with
  | nil => intro cs _ x hx; cases hx
  | cons a X ih =>
    intro cs h x hx
    obtain ⟨c, d, hc, ha, hd⟩ : ∃ c d, cs = c ++ d ∧ kF.rep a c ∧ Reps kF X d := by simpa [Reps] using h
    rcases List.mem_cons.1 hx with rfl | hx
    · obtain ⟨r, _, hr⟩ := ha; rw [← hr.1, can_can]
    · exact ih hd x hx
theorem Rd.can {w : World} {a : Option Addr} {n : Nat} {X : List Nat} (h : Rd w kF a n X) : canL X := let ⟨_, _, h, _⟩ := h; reps_can h
theorem canL_el {X : List Nat} {i : Int} (h : canL X) (h0 : 0 ≤ i) (h1 : i < (X.length : Int)) : can .f32 (el X i) = el X i := by
  have h2 : i.toNat < X.length := by omega
  have := h _ (List.getElem_mem h2)
  rw [show el X i = X[i.toNat] by have := el_get h0 h1; rw [List.getElem?_eq_getElem h2] at this; simpa using this.symm]
  exact this
theorem mirY_mirY {wd hi : Int} {X : List Nat} (hc : canL X) (hl : (X.length : Int) = wd * hi) (hW : 0 < wd) : mirY wd hi (mirY wd hi X) = X := by
  refine (tab_of hl fun i h0 h1 => ?_).symm
  have hx := rem_b (x := i) (m := wd) h0 hW
  have hy0 : 0 ≤ i / wd := Int.ediv_nonneg h0 (by omega)
  have hy1 : i / wd < hi := Int.ediv_lt_of_lt_mul hW (by rw [Int.mul_comm]; exact h1)
  have e := Int.emod_add_mul_ediv i wd
  generalize i % wd = x at *
  generalize i / wd = y at *
  have hq0 : 0 ≤ (2 * wd - 2 - x) % wd := Int.emod_nonneg _ (by omega)
  have hq1 : (2 * wd - 2 - x) % wd < wd := Int.emod_lt_of_pos _ hW
  have h4 := row_lt hq0 hq1 hy0 hy1
  have h5 := divmod_row (y := y) hq0 hq1
  unfold mirY
  rw [el_tab h4.1 h4.2, h5.1, h5.2]
  have hb : (2 * wd - 2 - (2 * wd - 2 - x) % wd) % wd = x := by
    rw [Int.sub_emod_emod, show 2 * wd - 2 - (2 * wd - 2 - x) = x by omega, Int.emod_eq_of_lt hx.1 hx.2]
  rw [hb, e, fneg_fneg (canL_el hc h0 (by omega))]
theorem negL_swp {wd hi : Int} {X : List Nat} (hc : canL X) (hl : (X.length : Int) = wd * hi) (hW : 0 < wd) : negL (wd * hi) (swpS hi wd (negL (hi * wd) (swpS wd hi X))) = X := by
  refine (tab_of hl fun i h0 h1 => ?_).symm
  have hx := rem_b (x := i) (m := wd) h0 hW
  have hy0 : 0 ≤ i / wd := Int.ediv_nonneg h0 (by omega)
  have hy1 : i / wd < hi := Int.ediv_lt_of_lt_mul hW (by rw [Int.mul_comm]; exact h1)
  have e := Int.emod_add_mul_ediv i wd
  have h4 := row_lt hy0 hy1 hx.1 hx.2
  have h5 := row_lt hx.1 hx.2 hy0 hy1
  rw [show i = i % wd + wd * (i / wd) from e.symm]
  unfold swpS
  rw [el_movL hx.1 hx.2 hy0 hy1]
  unfold negL
  rw [el_tab h4.1 h4.2, el_movL hy0 hy1 hx.1 hx.2, e, fneg_fneg (canL_el hc h0 (by omega))]
theorem el_mov {W H i : Int} {g : Int → Int → Int} {X : List Nat} (h0 : 0 ≤ i) (h1 : i < W * H) : el (movL W H g X) i = el X (g (i % W) (i / W)) := by
  unfold movL; exact el_tab h0 h1
theorem betw_mov {M : Nat} {W H n : Int} {g : Int → Int → Int} {X : List Nat} (h : ∀ i, 0 ≤ i → i < n → betw M X i = true) (hW : 0 < W) (hg : ∀ x y, 0 ≤ x → x < W → 0 ≤ y → y < H → 0 ≤ g x y ∧ g x y < n) :
    ∀ i, 0 ≤ i → i < W * H → betw M (movL W H g X) i = true := fun i h0 h1 => by
  have hx := rem_b (x := i) (m := W) h0 hW
  have hy0 : 0 ≤ i / W := Int.ediv_nonneg h0 (by omega)
  have hy1 : i / W < H := Int.ediv_lt_of_lt_mul hW (by rw [Int.mul_comm]; exact h1)
  obtain ⟨a, b⟩ := hg _ _ hx.1 hx.2 hy0 hy1
  have := h _ a b
  unfold betw at this ⊢
  rw [el_mov h0 h1]; exact this
theorem movL_len' (W H : Int) (g : Int → Int → Int) (X : List Nat) : (movL W H g X).length = (W * H).toNat := tab_length _ _
theorem validS_mov {W H W' H' : Int} {g : Int → Int → Int} {P L : List Nat} (hv : validS W' H' P L = true) (hs : sidesB W H = true) (hg : ∀ x y, 0 ≤ x → x < W → 0 ≤ y → y < H → 0 ≤ g x y ∧ g x y < W' * H') : validS W H (movL W H g P) (movL W H g L) = true := by
  obtain ⟨_, _, _, h4, h5⟩ := validS_iff.1 hv
  obtain ⟨⟨⟨a, _⟩, _⟩, b, _⟩ := sides_b hs
  exact validS_iff.2 ⟨hs, by rw [movL_len']; omega, by rw [movL_len']; omega, betw_mov h4 (by omega) hg, betw_mov h5 (by omega) hg⟩
theorem validS_mir {wd hi : Int} {P L : List Nat} (hv : validS wd hi P L = true) : validS wd hi (mirS wd hi P) (mirS wd hi L) = true :=
  validS_mov hv (validS_iff.1 hv).1 fun x y a b c d => row_lt (by omega) (by omega) c d
theorem validS_swp {wd hi : Int} {P L : List Nat} (hv : validS wd hi P L = true) : validS hi wd (swpS wd hi P) (swpS wd hi L) = true := by
  have hs := (validS_iff.1 hv).1
  simp only [sidesB, Bool.and_eq_true] at hs
  exact validS_mov hv (sides_of hs.2 hs.1) fun x y a b c d => row_lt c d a b
theorem validS_shf {wd hi dx dy : Int} {P L : List Nat} (hv : validS wd hi P L = true) : validS wd hi (shfS wd hi dx dy P) (shfS wd hi dx dy L) = true := by
  have hb := (validS_b hv).1.1
  exact validS_mov hv (validS_iff.1 hv).1 fun x y a b c d => row_lt (Int.emod_nonneg _ (by omega)) (Int.emod_lt_of_pos _ (by omega)) (Int.emod_nonneg _ (by omega)) (Int.emod_lt_of_pos _ (by omega))
end Go.Wv
