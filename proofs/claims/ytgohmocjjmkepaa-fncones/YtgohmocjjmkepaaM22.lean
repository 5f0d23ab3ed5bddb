/- Noughts; what is not reached. -/
import Derived.Test.YtgohmocjjmkepaaM21
set_option linter.unusedSimpArgs false
set_option linter.unusedVariables false
namespace Go.Wv
open Ieee
def zr (x : Nat) : Prop := feq .f32 x 0 = true
theorem zr_iff {x : Nat} : zr x ↔ fin .f32 x ∧ val .f32 x = 0 := by
  constructor
  · intro h
    obtain ⟨t, j, hr⟩ := isz_read h
    refine ⟨⟨_, _, _, hr⟩, ?_⟩
    rw [val_of hr, signed_sg]; cases t <;> simp [sg]
  · rintro ⟨hf, hv⟩
    obtain ⟨s, m, p, h1, h2, h3⟩ := val_num hf
    rw [hv] at h3
    have hm : m * 2 ^ (p - lpl .f32).toNat = 0 := by
      have := congrArg Int.natAbs h3
      rw [sg_abs] at this; exact this.symm
    rcases Nat.mul_eq_zero.1 hm with h | h
    · subst h; exact isz_of h1
    · exact absurd h (Nat.ne_of_gt (Nat.two_pow_pos _))
theorem zr_sub {a b : Nat} (ha : zr a) (hb : zr b) : zr (fop .sub .f32 a b) := by
  have a1 := zr_iff.1 ha; have b1 := zr_iff.1 hb
  have := sub_val a1.1 b1.1 (by rw [a1.2, b1.2]; simp)
  exact zr_iff.2 ⟨this.1, by rw [this.2, a1.2, b1.2]; exact WZ_zero _⟩
theorem zr_add {a b : Nat} (ha : zr a) (hb : zr b) : zr (fop .add .f32 a b) := by
  have a1 := zr_iff.1 ha; have b1 := zr_iff.1 hb
  have := add_val a1.1 b1.1 (by rw [a1.2, b1.2]; simp)
  exact zr_iff.2 ⟨this.1, by rw [this.2, a1.2, b1.2]; exact WZ_zero _⟩
theorem zr_mulR {a b : Nat} (ha : fin .f32 a) (hb : zr b) : zr (fop .mul .f32 a b) := by
  have b1 := zr_iff.1 hb
  have := mul_val ha b1.1 (Q := 0) (by rw [b1.2]; simp) (by simp)
  exact zr_iff.2 ⟨this.1, by rw [this.2]; exact WZ_zero _⟩
theorem zr_mulL {a b : Nat} (ha : zr a) (hb : fin .f32 b) : zr (fop .mul .f32 a b) := by
  have b1 := zr_iff.1 ha
  have := mul_val b1.1 hb (Q := 0) (by rw [b1.2]; simp) (by simp)
  exact zr_iff.2 ⟨this.1, by rw [this.2]; exact WZ_zero _⟩
theorem fin_half : fin .f32 1056964608 := ⟨false, 8388608, -24, by kernel_rfl⟩
theorem fin_one : fin .f32 1065353216 := ⟨false, 8388608, -23, by kernel_rfl⟩
theorem fin_zero : fin .f32 0 := ⟨false, 0, -149, by kernel_rfl⟩
theorem val_half : val .f32 1056964608 = 2 ^ 148 := by decide +kernel
theorem val_one : val .f32 1065353216 = 2 ^ 149 := by decide +kernel
theorem val_zero : val .f32 0 = 0 := by decide +kernel
theorem betw_fin {M : Nat} {X : List Nat} {i : Int} (hM : fin .f32 M) (h : betw M X i = true) : fin .f32 (el X i) ∧ 0 ≤ val .f32 (el X i) ∧ val .f32 (el X i) ≤ val .f32 M := by
  unfold betw at h
  simp only [Bool.and_eq_true] at h
  have hf : fin .f32 (el X i) := by
    cases hd : FloatKind.f32.format.read (el X i) with
    | number s m p => exact ⟨s, m, p, hd⟩
    | nan s t =>
      have : nanb .f32 (el X i) = true := by unfold nanb; rw [hd]; rfl
      have h1 := h.1
      unfold fge at h1; rw [order_nan this] at h1; cases h1
    | infinity s =>
      obtain ⟨h1, h2⟩ := h
      obtain ⟨t, n, q, hm⟩ := hM
      unfold fge at h1
      unfold fle at h2
      rw [show FloatKind.f32.format.order (el X i) 0 = (FloatKind.f32.format.read (el X i)).order (FloatKind.f32.format.read 0) from rfl, hd, read_zero] at h1
      rw [show FloatKind.f32.format.order (el X i) M = (FloatKind.f32.format.read (el X i)).order (FloatKind.f32.format.read M) from rfl, hd, hm] at h2
      cases s
      · cases h2
      · cases h1
  have a := fge_val hf fin_zero
  have b := fle_val hf hM
  rw [h.1] at a; rw [h.2] at b
  rw [val_zero] at a
  exact ⟨hf, of_decide_eq_true a.symm, of_decide_eq_true b.symm⟩
theorem one_minus {x : Nat} (hf : fin .f32 x) (h0 : 0 ≤ val .f32 x) (h1 : val .f32 x ≤ 2 ^ 149) : fin .f32 (fop .sub .f32 1065353216 x) ∧ val .f32 (fop .sub .f32 1065353216 x) = WZ .f32 (2 ^ 149 - val .f32 x) := by
  have := sub_val fin_one hf (by
    rw [val_one]
    exact Nat.le_trans (show (2 ^ 149 - val .f32 x).natAbs ≤ 2 ^ 149 by omega) (Nat.pow_le_pow_right (by decide) (by decide)))
  rw [val_one] at this; exact this
theorem stepP {x n : Int} (h0 : 0 ≤ x) (h1 : x < n) : (x + 1 + n) % n = if x + 1 = n then 0 else x + 1 := by
  split
  · rename_i e; rw [e, show n + n = n * 2 by omega]; exact Int.mul_emod_right _ _
  · rw [Int.add_emod_right]; exact Int.emod_eq_of_lt (by omega) (by omega)
theorem stepM {x n : Int} (h0 : 0 ≤ x) (h1 : x < n) : (x - 1 + n) % n = if x = 0 then n - 1 else x - 1 := by
  split
  · rename_i e; rw [e, show 0 - 1 + n = n - 1 by omega]; exact Int.emod_eq_of_lt (by omega) (by omega)
  · rw [Int.add_emod_right]; exact Int.emod_eq_of_lt (by omega) (by omega)
section
variable {wd hi : Int} {wr : Bool} {P L E X Y : List Nat} {x0 y0 : Int}
theorem atI_at {x y : Int} : atI wd hi x y = (x + wd) % wd + wd * ((y + hi) % hi) := rfl
theorem el_hxL {x y : Int} (h0 : 0 ≤ x) (h1 : x < wd) (h2 : 0 ≤ y) (h3 : y < hi) : el (hxL wd hi wr E X) (x + wd * y) = hxF wd hi wr E X x y := by
  have h4 := row_lt h0 h1 h2 h3
  have h5 := divmod_row (y := y) h0 h1
  unfold hxL; rw [el_tab h4.1 h4.2, h5.1, h5.2]
theorem el_hyL {x y : Int} (h0 : 0 ≤ x) (h1 : x < wd) (h2 : 0 ≤ y) (h3 : y < hi) : el (hyL wd hi wr E Y) (x + wd * y) = hyF wd hi wr E Y x y := by
  have h4 := row_lt h0 h1 h2 h3
  have h5 := divmod_row (y := y) h0 h1
  unfold hyL; rw [el_tab h4.1 h4.2, h5.1, h5.2]
theorem el_nwL {x y : Int} (h0 : 0 ≤ x) (h1 : x < wd) (h2 : 0 ≤ y) (h3 : y < hi) : el (nwL wd hi wr P L E X Y) (x + wd * y) = nwF wd hi wr P L E X Y x y := by
  have h4 := row_lt h0 h1 h2 h3
  have h5 := divmod_row (y := y) h0 h1
  unfold nwL; rw [el_tab h4.1 h4.2, h5.1, h5.2]
theorem hx_zero {x y : Int} (h1 : zr (el X (atI wd hi x y))) (h2 : zr (el E (atI wd hi x y))) (h3 : (wr || decide (y < hi - 1)) = true → zr (el E (atI wd hi x (y + 1)))) : zr (hxF wd hi wr E X x y) := by
  unfold hxF
  split
  · rename_i hc; exact zr_sub h1 (zr_mulR fin_half (zr_sub (h3 hc) h2))
  · exact h1
theorem hy_zero {x y : Int} (h1 : zr (el Y (atI wd hi x y))) (h2 : zr (el E (atI wd hi x y))) (h3 : (wr || decide (x < wd - 1)) = true → zr (el E (atI wd hi (x + 1) y))) : zr (hyF wd hi wr E Y x y) := by
  unfold hyF
  split
  · rename_i hc; exact zr_add h1 (zr_mulR fin_half (zr_sub (h3 hc) h2))
  · exact h1
def dst (wd hi : Int) (wr : Bool) (x0 y0 x y : Int) : Int := wayI wr x0 x wd + wayI wr y0 y hi
theorem way_near {a b c n : Int} (h0 : 0 ≤ a) (h1 : a < n) (h2 : 0 ≤ b) (h3 : b < n) (h4 : 0 ≤ c) (h5 : c < n) (h : b = c + 1 ∨ c = b + 1 ∨ b = c ∨ (wr = true ∧ ((b = 0 ∧ c = n - 1) ∨ (c = 0 ∧ b = n - 1)))) : wayI wr a b n ≤ wayI wr a c n + 1 := by
  unfold wayI
  cases wr
  · simp at h ⊢; omega
  · simp at h ⊢; omega
/-- All is nought in the cells that are farther away than 'k'. -/
def ZF (wd hi : Int) (wr : Bool) (x0 y0 : Int) (F : Fld) (k : Int) : Prop :=
  ∀ x y, 0 ≤ x → x < wd → 0 ≤ y → y < hi → k < dst wd hi wr x0 y0 x y → zr (el F.1 (x + wd * y)) ∧ zr (el F.2.1 (x + wd * y)) ∧ zr (el F.2.2 (x + wd * y))
theorem cone_step {F : Fld} {k : Int} (hv : validS wd hi P L = true) (hx0 : 0 ≤ x0 ∧ x0 < wd) (hy0 : 0 ≤ y0 ∧ y0 < hi) (hz : ZF wd hi wr x0 y0 F k) : ZF wd hi wr x0 y0 (stpT wd hi wr P L F) (k + 1) := by
  intro x y a b c d hk
  have hb := validS_b hv
  have hw : 0 < wd := by omega
  have hh : 0 < hi := by omega
  have eself : atI wd hi x y = x + wd * y := atI_in a b c d
  -- neighbours
  have xm := stepM a b
  have xp := stepP a b
  have ym := stepM c d
  have yp := stepP c d
  have hself := hz x y a b c d (by omega)
  have nbE : ∀ u v, 0 ≤ u → u < wd → 0 ≤ v → v < hi → (u = x ∧ (v = y + 1 ∨ y = v + 1 ∨ (wr = true ∧ ((v = 0 ∧ y = hi - 1) ∨ (y = 0 ∧ v = hi - 1))))) ∨ (v = y ∧ (u = x + 1 ∨ x = u + 1 ∨ (wr = true ∧ ((u = 0 ∧ x = wd - 1) ∨ (x = 0 ∧ u = wd - 1))))) →
      zr (el F.1 (u + wd * v)) ∧ zr (el F.2.1 (u + wd * v)) ∧ zr (el F.2.2 (u + wd * v)) := by
    intro u v h1 h2 h3 h4 h5
    refine hz u v h1 h2 h3 h4 ?_
    unfold dst at hk ⊢
    rcases h5 with ⟨rfl, h5⟩ | ⟨rfl, h5⟩
    · have := way_near (wr := wr) (a := y0) (b := y) (c := v) (n := hi) (by omega) (by omega) c d h3 h4 (by rcases h5 with h | h | ⟨hw, h⟩; exact .inr (.inl h); exact .inl h; exact .inr (.inr (.inr ⟨hw, by omega⟩)))
      omega
    · have := way_near (wr := wr) (a := x0) (b := x) (c := u) (n := wd) (by omega) (by omega) a b h1 h2 (by rcases h5 with h | h | ⟨hw, h⟩; exact .inr (.inl h); exact .inl h; exact .inr (.inr (.inr ⟨hw, by omega⟩)))
      omega
  -- X and Y of the cell itself
  have hX : zr (hxF wd hi wr F.1 F.2.1 x y) := by
    refine hx_zero (by rw [eself]; exact hself.2.1) (by rw [eself]; exact hself.1) fun hc => ?_
    simp only [Bool.or_eq_true, decide_eq_true_eq] at hc
    rw [atI_at, Int.add_emod_right, Int.emod_eq_of_lt a b, yp]
    split
    · exact (nbE x 0 a b (by omega) (by omega) (.inl ⟨rfl, .inr (.inr ⟨hc.resolve_right (by omega), by omega⟩)⟩)).1
    · exact (nbE x (y + 1) a b (by omega) (by omega) (.inl ⟨rfl, .inl rfl⟩)).1
  have hY : zr (hyF wd hi wr F.1 F.2.2 x y) := by
    refine hy_zero (by rw [eself]; exact hself.2.2) (by rw [eself]; exact hself.1) fun hc => ?_
    simp only [Bool.or_eq_true, decide_eq_true_eq] at hc
    rw [atI_at, Int.add_emod_right (y), Int.emod_eq_of_lt c d, xp]
    split
    · exact (nbE 0 y (by omega) (by omega) c d (.inr ⟨rfl, .inr (.inr ⟨hc.resolve_right (by omega), by omega⟩)⟩)).1
    · exact (nbE (x + 1) y (by omega) (by omega) c d (.inr ⟨rfl, .inl rfl⟩)).1
  refine ⟨?_, ?_, ?_⟩
  · show zr (el (nwL wd hi wr P L F.1 (hxL wd hi wr F.1 F.2.1) (hyL wd hi wr F.1 F.2.2)) (x + wd * y))
    rw [el_nwL a b c d]
    unfold nwF
    rw [eself]
    split
    · exact hself.1
    · rename_i hbd
      have hin : wr = true ∨ (1 ≤ x ∧ x < wd - 1 ∧ 1 ≤ y ∧ y < hi - 1) := by
        cases wr
        · right
          have : ¬ (x = 0 ∨ x = wd - 1 ∨ y = 0 ∨ y = hi - 1) := fun h => hbd (bord_iff.2 h)
          omega
        · left; rfl
      obtain ⟨hs, _, _, hP, hL⟩ := validS_iff.1 hv
      have hr := row_lt a b c d
      have fP := betw_fin fin_half (hP _ hr.1 hr.2)
      have fL := betw_fin fin_one (hL _ hr.1 hr.2)
      rw [val_one] at fL
      have f1 := (one_minus fL.1 fL.2.1 fL.2.2).1
      unfold nvV
      rw [eself]
      -- the cell above and the cell to the left
      have hXm : zr (el (hxL wd hi wr F.1 F.2.1) (atI wd hi x (y - 1))) := by
        rw [atI_at, Int.add_emod_right, Int.emod_eq_of_lt a b]
        generalize hv' : (y - 1 + hi) % hi = v at *
        have hv0 : 0 ≤ v := by rw [← hv']; exact Int.emod_nonneg _ (by omega)
        have hv1 : v < hi := by rw [← hv']; exact Int.emod_lt_of_pos _ hh
        rw [el_hxL a b hv0 hv1]
        have hcell : (v = y - 1 ∧ 1 ≤ y) ∨ (wr = true ∧ y = 0 ∧ v = hi - 1) := by
          rw [ym] at hv'
          split at hv'
          · exact .inr ⟨hin.resolve_right (by omega), by omega, by omega⟩
          · exact .inl (by omega)
        have hn := nbE x v a b hv0 hv1 (.inl ⟨rfl, by rcases hcell with h | ⟨h, h'⟩; exact .inr (.inl (by omega)); exact .inr (.inr ⟨h, by omega⟩)⟩)
        have ev : atI wd hi x v = x + wd * v := atI_in a b hv0 hv1
        refine hx_zero (by rw [ev]; exact hn.2.1) (by rw [ev]; exact hn.1) fun _ => ?_
        have e2 : atI wd hi x (v + 1) = x + wd * y := by
          rw [atI_at, Int.add_emod_right, Int.emod_eq_of_lt a b, stepP hv0 hv1]
          split
          · rw [show y = 0 by omega]
          · rw [show v + 1 = y by omega]
        rw [e2]; exact hself.1
      have hYm : zr (el (hyL wd hi wr F.1 F.2.2) (atI wd hi (x - 1) y)) := by
        rw [atI_at, Int.add_emod_right y, Int.emod_eq_of_lt c d]
        generalize hv' : (x - 1 + wd) % wd = u at *
        have hv0 : 0 ≤ u := by rw [← hv']; exact Int.emod_nonneg _ (by omega)
        have hv1 : u < wd := by rw [← hv']; exact Int.emod_lt_of_pos _ hw
        rw [el_hyL hv0 hv1 c d]
        have hcell : (u = x - 1 ∧ 1 ≤ x) ∨ (wr = true ∧ x = 0 ∧ u = wd - 1) := by
          rw [xm] at hv'
          split at hv'
          · exact .inr ⟨hin.resolve_right (by omega), by omega, by omega⟩
          · exact .inl (by omega)
        have hn := nbE u y hv0 hv1 c d (.inr ⟨rfl, by rcases hcell with h | ⟨h, h'⟩; exact .inr (.inl (by omega)); exact .inr (.inr ⟨h, by omega⟩)⟩)
        have ev : atI wd hi u y = u + wd * y := atI_in hv0 hv1 c d
        refine hy_zero (by rw [ev]; exact hn.2.2) (by rw [ev]; exact hn.1) fun _ => ?_
        have e2 : atI wd hi (u + 1) y = x + wd * y := by
          rw [atI_at, Int.add_emod_right y, Int.emod_eq_of_lt c d, stepP hv0 hv1]
          split
          · rw [show x = 0 by omega]
          · rw [show u + 1 = x by omega]
        rw [e2]; exact hself.1
      refine zr_add (zr_mulL hself.1 f1) (zr_mulR fP.1 (zr_sub (zr_sub ?_ hYm) (zr_sub ?_ hXm)))
      · rw [el_hyL a b c d]; exact hY
      · rw [el_hxL a b c d]; exact hX
  · show zr (el (hxL wd hi wr F.1 F.2.1) (x + wd * y))
    rw [el_hxL a b c d]; exact hX
  · show zr (el (hyL wd hi wr F.1 F.2.2) (x + wd * y))
    rw [el_hyL a b c d]; exact hY
theorem cone {F : Fld} {k : Int} (hv : validS wd hi P L = true) (hx0 : 0 ≤ x0 ∧ x0 < wd) (hy0 : 0 ≤ y0 ∧ y0 < hi) (hz : ZF wd hi wr x0 y0 F k) : ∀ n : Nat, ZF wd hi wr x0 y0 (rnT wd hi wr P L F n) (k + n)
  | 0 => by simpa [rnT] using hz
  | n + 1 => by
    have := cone_step (wr := wr) hv hx0 hy0 (cone hv hx0 hy0 hz n)
    rw [show k + ((n + 1 : Nat) : Int) = k + n + 1 by omega]
    exact this
end
end Go.Wv
