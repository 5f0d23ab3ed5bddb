/- Texts that the walks rest on, joined. -/
import Derived.Test.YtgohmocjjmkepaaModC
set_option linter.unusedSimpArgs false
set_option linter.unusedVariables false
/- Laws of fields in quarters: twice as great, opposite, mirrored, exchanged, shifted. -/
namespace Go.Wv
open Ieee
def finb (k : FloatKind) (x : Nat) : Bool := match k.format.read x with | .number .. => true | _ => false
theorem fin_finb {k : FloatKind} {x : Nat} (h : finb k x = true) : fin k x := by
  unfold finb at h
  split at h
  · rename_i s m p hr; exact ⟨_, _, _, hr⟩
  · cases h
/-- Lists that have equal numbers. -/
def eqL (X Y : List Nat) : Bool := decide (X.length = Y.length) && allI X.length fun i => !fne .f32 (el X i) (el Y i)
theorem eqL_yes {X Y : List Nat} (hl : X.length = Y.length) (h : ∀ i, 0 ≤ i → i < (X.length : Int) → ¬ fne .f32 (el X i) (el Y i) = true) : eqL X Y = true := by
  simp only [eqL, hl, decide_true, Bool.true_and]; exact allI_true (fun i h0 h1 => by have := h i h0 (by omega); simpa using this)
theorem eqL_no {X Y : List Nat} {i : Int} (h0 : 0 ≤ i) (h1 : i < (X.length : Int)) (h : fne .f32 (el X i) (el Y i) = true) : eqL X Y = false := by
  simp only [eqL, Bool.and_eq_false_iff]; exact .inr (allI_false h0 h1 (by simp [h]))
theorem eqL_n {X Y : List Nat} (h : X.length ≠ Y.length) : eqL X Y = false := by simp [eqL, h]
theorem eqL_val {X Y : List Nat} (hl : X.length = Y.length) (h : ∀ i, 0 ≤ i → i < (X.length : Int) → fin .f32 (el X i) ∧ fin .f32 (el Y i) ∧ val .f32 (el X i) = val .f32 (el Y i)) : eqL X Y = true :=
  eqL_yes hl fun i h0 h1 => by
    obtain ⟨a, b, c⟩ := h i h0 h1
    rw [fne_feq, feq_val a b, c]; simp
/-- What a finite number stands for needs no rounding. -/
theorem WS_val {x : Nat} (h : fin .f32 x) : WS (val .f32 x) = val .f32 x := by
  obtain ⟨s, m, p, h1, h2, h3⟩ := val_num h
  have hm : m < 2 ^ 24 := by
    rcases read32 x with ⟨s', m', p', hr, hm, _⟩ | ⟨s', hr⟩ | ⟨s', t', hr⟩
    · have h1' : single.read x = .number s m p := h1
      rw [hr] at h1'; injection h1' with _ e _; omega
    · have h1' : single.read x = .number s m p := h1
      rw [hr] at h1'; cases h1'
    · have h1' : single.read x = .number s m p := h1
      rw [hr] at h1'; cases h1'
  rw [h3]
  unfold WS
  rw [WZ_sg, Wn_shift, Wn_exact (k := .f32) hm]
theorem val_two : val .f32 1073741824 = 2 ^ 150 := by decide +kernel
theorem fin_two : fin .f32 1073741824 := ⟨false, 8388608, -22, by kernel_rfl⟩
theorem val_m1 : val .f32 3212836864 = -2 ^ 149 := by decide +kernel
theorem fin_m1 : fin .f32 3212836864 := ⟨true, 8388608, -23, by kernel_rfl⟩
theorem mul_two {M b x : Nat} (h : gq M b x) (hb : b + 1 ≤ 275) : gq M (b + 1) (fop .mul .f32 x 1073741824) ∧ val .f32 (fop .mul .f32 x 1073741824) = 2 * val .f32 x := by
  have hbd : (2 * val .f32 x).natAbs ≤ 2 ^ (b + 1) := by have := h.2.2; rw [Nat.pow_succ]; omega
  have := mul_val h.1 fin_two (Q := 2 * val .f32 x) (by rw [val_two, neg_lpl, show (2 : Int) ^ 150 = 2 * 2 ^ 149 from by rw [Int.mul_comm]; exact Int.pow_succ 2 149, ← Int.mul_assoc, Int.mul_comm (val .f32 x)]) (pow_le275 hb hbd)
  have e : val .f32 (fop .mul .f32 x 1073741824) = 2 * val .f32 x := by rw [this.2]; exact (WS_two _).trans (by rw [WS_val h.1])
  exact ⟨⟨this.1, by rw [e]; exact Int.dvd_trans h.2.1 (Int.dvd_mul_left _ _), by rw [e]; exact hbd⟩, e⟩
theorem mul_m1 {M b x : Nat} (h : gq M b x) (hb : b ≤ 275) : gq M b (fop .mul .f32 x 3212836864) ∧ val .f32 (fop .mul .f32 x 3212836864) = -1 * val .f32 x := by
  have hbd : (-1 * val .f32 x).natAbs ≤ 2 ^ b := by have := h.2.2; omega
  have := mul_val h.1 fin_m1 (Q := -1 * val .f32 x) (by rw [val_m1, neg_lpl, Int.mul_neg, Int.neg_mul, Int.one_mul, Int.neg_mul]) (pow_le275 hb hbd)
  have e : val .f32 (fop .mul .f32 x 3212836864) = -1 * val .f32 x := by rw [this.2]; exact (lin_neg _).trans (by rw [WS_val h.1])
  exact ⟨⟨this.1, by rw [e]; exact Int.dvd_trans h.2.1 (Int.dvd_mul_left _ _), by rw [e]; exact hbd⟩, e⟩
/-- B is A, scaled. -/
def relL (c : Int) (M b : Nat) (n : Int) (A B : List Nat) : Prop := ∀ i, 0 ≤ i → i < n → gq M b (el B i) ∧ val .f32 (el B i) = c * val .f32 (el A i)
theorem rel_gq {c : Int} {M b : Nat} {n : Int} {A B : List Nat} (h : relL c M b n A B) : gqL M b n B := fun i h0 h1 => (h i h0 h1).1
theorem rel_two {M b : Nat} {n : Int} {A : List Nat} (h : gqL M b n A) (hb : b + 1 ≤ 275) : relL 2 M (b + 1) n A (mulL n A 1073741824) := fun i h0 h1 => by
  unfold mulL zipL; rw [el_tab h0 h1]; exact mul_two (h i h0 h1) hb
theorem rel_m1 {M b : Nat} {n : Int} {A : List Nat} (h : gqL M b n A) (hb : b ≤ 275) : relL (-1) M b n A (mulL n A 3212836864) := fun i h0 h1 => by
  unfold mulL zipL; rw [el_tab h0 h1]; exact mul_m1 (h i h0 h1) hb
theorem rel_sum {M b : Nat} {n : Int} {A B : List Nat} (h : gqL M b n A) (h' : relL (-1) M b n A B) (hb : b + 1 ≤ 275) : relL 0 M (b + 1) n A (addL n A B) := fun i h0 h1 => by
  unfold addL zipL; rw [el_tab h0 h1]
  obtain ⟨a, c⟩ := gq_add (h i h0 h1) (h' i h0 h1).1 hb
  refine ⟨a, ?_⟩
  rw [c, (h' i h0 h1).2, show val .f32 (el A i) + -1 * val .f32 (el A i) = 0 by omega, Int.zero_mul]; exact WZ_zero _
theorem rel_dbl {M b : Nat} {n : Int} {A : List Nat} (h : gqL M b n A) (hb : b + 1 ≤ 275) : relL 2 M (b + 1) n A (addL n A A) := fun i h0 h1 => by
  unfold addL zipL; rw [el_tab h0 h1]
  obtain ⟨a, c⟩ := gq_add (h i h0 h1) (h i h0 h1) hb
  refine ⟨a, ?_⟩
  rw [c, show val .f32 (el A i) + val .f32 (el A i) = 2 * val .f32 (el A i) by omega, WS_two, WS_val (h i h0 h1).1]
theorem rel_zero {M b : Nat} {n : Int} {A : List Nat} {m : Nat} : relL 0 M b n A (List.replicate m 0) := fun i _ _ => by
  rw [el_rep0, val_zero, Int.zero_mul]; exact ⟨⟨fin_zero, by rw [val_zero]; exact Int.dvd_zero _, by rw [val_zero]; exact Nat.zero_le _⟩, rfl⟩
theorem eq_rel {c : Int} {M b M' b' : Nat} {n : Int} {A B B' : List Nat} (h : relL c M b n A B) (h' : relL c M' b' n A B') (hl : (B.length : Int) = n) (hl' : (B'.length : Int) = n) : eqL B B' = true :=
  eqL_val (by omega) fun i h0 h1 => ⟨(h i h0 (by omega)).1.1, (h' i h0 (by omega)).1.1, by rw [(h i h0 (by omega)).2, (h' i h0 (by omega)).2]⟩
theorem mulL_len {n : Int} {A : List Nat} {s : Nat} : (mulL n A s).length = n.toNat := by unfold mulL zipL; exact tab_length _ _
theorem addL_len {n : Int} {A B : List Nat} : (addL n A B).length = n.toNat := by unfold addL zipL; exact tab_length _ _
section
variable {wd hi : Int} {wr : Bool} {P L E X Y : List Nat}
theorem rel_field {c : Int} {M b : Nat} {E' X' Y' : List Nat} (h : fieldB wd hi wr P L E X Y = true) (_hE : fin .f32 0) (_gE : gqL M b (wd * hi) E) (_gX : gqL M b (wd * hi) X) (_gY : gqL M b (wd * hi) Y) {M' b' : Nat}
    (rE : relL c M' b' (wd * hi) E E') (rX : relL c M' b' (wd * hi) X X') (rY : relL c M' b' (wd * hi) Y Y') (l1 : (E'.length : Int) = wd * hi) (l2 : (X'.length : Int) = wd * hi) (l3 : (Y'.length : Int) = wd * hi) : fieldB wd hi wr P L E' X' Y' = true := by
  have key : ∀ {A B : List Nat} {i : Int}, relL c M' b' (wd * hi) A B → 0 ≤ i → i < wd * hi → feq .f32 (el A i) 0 = true → feq .f32 (el B i) 0 = true := fun r h0 h1 hz => by
    have hz' := zr_iff.1 hz
    refine zr_iff.2 ⟨(r _ h0 h1).1.1, ?_⟩
    rw [(r _ h0 h1).2, hz'.2, Int.mul_zero]
  refine field_xy (fieldB_iff.1 h).1 l1 l2 l3 fun hw x y a b' c' d => ?_
  subst hw
  have hr := row_lt a b' c' d
  have he := edge_iff.1 (edge_xy h a b' c' d)
  exact edge_iff.2 ⟨fun hc => key rE hr.1 hr.2 (he.1 hc), fun hc => key rX hr.1 hr.2 (he.2.1 hc), fun hc => key rY hr.1 hr.2 (he.2.2 hc)⟩
theorem rel_vl {c : Int} {M b : Nat} {A B : List Nat} (hw : 0 < wd) (hh : 0 < hi) (r : relL c M b (wd * hi) A B) (x y : Int) : vl wd hi B x y = c * vl wd hi A x y := by
  have := atI_b (wd := wd) (hi := hi) (x := x) (y := y) hw hh
  exact (r _ this.1 this.2).2
theorem vl_rel {c : Int} {M b : Nat} {A B : List Nat} (hw : 0 < wd) (h : ∀ x y, vl wd hi B x y = c * vl wd hi A x y) (hB : gqL M b (wd * hi) B) : relL c M b (wd * hi) A B := fun i h0 h1 => by
  have hr := row_of h0 h1 hw
  have := h (i % wd) (i / wd)
  unfold vl at this
  rw [atI_in hr.1.1 hr.1.2 hr.2.1.1 hr.2.1.2, hr.2.2] at this
  exact ⟨hB i h0 h1, this⟩
/-- A field of quarters. -/
def qrF (wd hi : Int) (E X Y : List Nat) : Prop := gqF 147 150 (wd * hi) (E, X, Y)
/-- Some steps of a field of quarters. -/
theorem qr_run {n : Int} (hS : shG (wd * hi) P L) (hq : qrF wd hi E X Y) (h : fieldB wd hi wr P L E X Y = true) (h1 : n ≤ 5) : gqF 122 175 (wd * hi) (rnT wd hi wr P L (E, X, Y) n.toNat) := by
  have hb := fieldB_b h
  have := gqF_run (wr := wr) (P := P) (L := L) (show 0 < wd by omega) (show 0 < hi by omega) hS hq n.toNat (by omega) (by omega)
  exact ⟨gqL_mono this.1 (by omega) (by omega), gqL_mono this.2.1 (by omega) (by omega), gqL_mono this.2.2 (by omega) (by omega)⟩
theorem run_len {n : Nat} (h : fieldB wd hi wr P L E X Y = true) : ((rnT wd hi wr P L (E, X, Y) n).1.length : Int) = wd * hi ∧ ((rnT wd hi wr P L (E, X, Y) n).2.1.length : Int) = wd * hi ∧ ((rnT wd hi wr P L (E, X, Y) n).2.2.length : Int) = wd * hi :=
  (fieldB_b (rnT_field h n)).1
theorem scl_ok {c : Int} {s M b M' b' : Nat} (h : fieldB wd hi wr P L E X Y = true) (gE : gqL M b (wd * hi) E) (gX : gqL M b (wd * hi) X) (gY : gqL M b (wd * hi) Y) (hr : ∀ A, gqL M b (wd * hi) A → relL c M' b' (wd * hi) A (mulL (wd * hi) A s)) : sclB wd hi wr P L E X Y s = true := by
  have hb := fieldB_b h
  have := rel_field h fin_zero gE gX gY (hr _ gE) (hr _ gX) (hr _ gY) (by rw [mulL_len]; omega) (by rw [mulL_len]; omega) (by rw [mulL_len]; omega)
  simp only [sclB, h, this, Bool.and_self]
theorem scl_field {s : Nat} (h : sclB wd hi wr P L E X Y s = true) : fieldB wd hi wr P L (mulL (wd * hi) E s) (mulL (wd * hi) X s) (mulL (wd * hi) Y s) = true := by
  simp only [sclB, Bool.and_eq_true] at h; exact h.2
theorem scl2_ok (h : fieldB wd hi wr P L E X Y = true) (hq : qrF wd hi E X Y) : sclB wd hi wr P L E X Y 1073741824 = true := scl_ok h hq.1 hq.2.1 hq.2.2 fun _ hA => rel_two hA (by omega)
theorem sclN_ok (h : fieldB wd hi wr P L E X Y = true) (hq : qrF wd hi E X Y) : sclB wd hi wr P L E X Y 3212836864 = true := scl_ok h hq.1 hq.2.1 hq.2.2 fun _ hA => rel_m1 hA (by omega)
theorem scl2_end {n : Int} (hS : shG (wd * hi) P L) (h : fieldB wd hi wr P L E X Y = true) (hq : qrF wd hi E X Y) (h1 : n ≤ 5) : sclB wd hi wr P L (rnT wd hi wr P L (E, X, Y) n.toNat).1 (rnT wd hi wr P L (E, X, Y) n.toNat).2.1 (rnT wd hi wr P L (E, X, Y) n.toNat).2.2 1073741824 = true := by
  have g := qr_run hS hq h h1
  exact scl_ok (rnT_field h _) g.1 g.2.1 g.2.2 fun _ hA => rel_two hA (by omega)
theorem sclN_end {n : Int} (hS : shG (wd * hi) P L) (h : fieldB wd hi wr P L E X Y = true) (hq : qrF wd hi E X Y) (h1 : n ≤ 5) : sclB wd hi wr P L (rnT wd hi wr P L (E, X, Y) n.toNat).1 (rnT wd hi wr P L (E, X, Y) n.toNat).2.1 (rnT wd hi wr P L (E, X, Y) n.toNat).2.2 3212836864 = true := by
  have g := qr_run hS hq h h1
  exact scl_ok (rnT_field h _) g.1 g.2.1 g.2.2 fun _ hA => rel_m1 hA (by omega)
theorem eq_scaled {c : Int} {s Mb bb : Nat} {n : Int} (hc : lin c) (hS : shG (wd * hi) P L) (h : fieldB wd hi wr P L E X Y = true) (hq : qrF wd hi E X Y) (h1 : n ≤ 5)
    (hr : ∀ M b A, b + 1 ≤ 275 → gqL M b (wd * hi) A → relL c M (b + 1) (wd * hi) A (mulL (wd * hi) A s)) (_u : Mb = bb) :
    (eqL (rnT wd hi wr P L (mulL (wd * hi) E s, mulL (wd * hi) X s, mulL (wd * hi) Y s) n.toNat).1 (mulL (wd * hi) (rnT wd hi wr P L (E, X, Y) n.toNat).1 s) &&
     eqL (rnT wd hi wr P L (mulL (wd * hi) E s, mulL (wd * hi) X s, mulL (wd * hi) Y s) n.toNat).2.1 (mulL (wd * hi) (rnT wd hi wr P L (E, X, Y) n.toNat).2.1 s) &&
     eqL (rnT wd hi wr P L (mulL (wd * hi) E s, mulL (wd * hi) X s, mulL (wd * hi) Y s) n.toNat).2.2 (mulL (wd * hi) (rnT wd hi wr P L (E, X, Y) n.toNat).2.2 s)) = true := by
  have hb := fieldB_b h
  have hw : 0 < wd := by omega
  have hh : 0 < hi := by omega
  have g0 : gqF 147 151 (wd * hi) (E, X, Y) := ⟨gqL_mono hq.1 (by omega) (by omega), gqL_mono hq.2.1 (by omega) (by omega), gqL_mono hq.2.2 (by omega) (by omega)⟩
  have rE := hr 147 150 E (by omega) hq.1
  have rX := hr 147 150 X (by omega) hq.2.1
  have rY := hr 147 150 Y (by omega) hq.2.2
  have g1 : gqF 147 151 (wd * hi) (mulL (wd * hi) E s, mulL (wd * hi) X s, mulL (wd * hi) Y s) := ⟨rel_gq rE, rel_gq rX, rel_gq rY⟩
  have hf := rel_field (wr := wr) (P := P) (L := L) h fin_zero hq.1 hq.2.1 hq.2.2 rE rX rY (by rw [mulL_len]; omega) (by rw [mulL_len]; omega) (by rw [mulL_len]; omega)
  have hrs := RSc_run (wr := wr) hc hw hh hS g0 g1 (fun x y => ⟨rel_vl hw hh rE x y, rel_vl hw hh rX x y, rel_vl hw hh rY x y⟩) n.toNat (by omega) (by omega)
  have ge := gqF_run (wr := wr) hw hh hS g0 n.toNat (by omega) (by omega)
  have gf := gqF_run (wr := wr) hw hh hS g1 n.toNat (by omega) (by omega)
  have ln := run_len (n := n.toNat) hf
  have key : ∀ {A B : List Nat}, gqL (147 - 5 * n.toNat) (151 + 5 * n.toNat) (wd * hi) A → gqL (147 - 5 * n.toNat) (151 + 5 * n.toNat) (wd * hi) B → (∀ x y, vl wd hi B x y = c * vl wd hi A x y) → (B.length : Int) = wd * hi → eqL B (mulL (wd * hi) A s) = true :=
    fun hA hB hv hl => eq_rel (vl_rel hw hv hB) (hr _ _ _ (by omega) hA) hl (by rw [mulL_len]; omega)
  rw [key ge.1 gf.1 (fun x y => (hrs x y).1) ln.1, key ge.2.1 gf.2.1 (fun x y => (hrs x y).2.1) ln.2.1, key ge.2.2 gf.2.2 (fun x y => (hrs x y).2.2) ln.2.2]; rfl
theorem add_ok {c : Int} {M b : Nat} {E2 X2 Y2 : List Nat} (h : fieldB wd hi wr P L E X Y = true) (h2 : fieldB wd hi wr P L E2 X2 Y2 = true) (hq : qrF wd hi E X Y) (rE : relL c M b (wd * hi) E (addL (wd * hi) E E2)) (rX : relL c M b (wd * hi) X (addL (wd * hi) X X2)) (rY : relL c M b (wd * hi) Y (addL (wd * hi) Y Y2)) : addB wd hi wr P L E X Y E2 X2 Y2 = true := by
  have hb := fieldB_b h
  have := rel_field h fin_zero hq.1 hq.2.1 hq.2.2 rE rX rY (by rw [addL_len]; omega) (by rw [addL_len]; omega) (by rw [addL_len]; omega)
  simp only [addB, h, h2, this, Bool.and_self]
theorem addN_ok (h : fieldB wd hi wr P L E X Y = true) (hq : qrF wd hi E X Y) : addB wd hi wr P L E X Y (mulL (wd * hi) E 3212836864) (mulL (wd * hi) X 3212836864) (mulL (wd * hi) Y 3212836864) = true :=
  add_ok h (scl_field (sclN_ok h hq)) hq (rel_sum hq.1 (rel_m1 hq.1 (by omega)) (by omega)) (rel_sum hq.2.1 (rel_m1 hq.2.1 (by omega)) (by omega)) (rel_sum hq.2.2 (rel_m1 hq.2.2 (by omega)) (by omega))
theorem addD_ok (h : fieldB wd hi wr P L E X Y = true) (hq : qrF wd hi E X Y) : addB wd hi wr P L E X Y E X Y = true :=
  add_ok h h hq (rel_dbl hq.1 (by omega)) (rel_dbl hq.2.1 (by omega)) (rel_dbl hq.2.2 (by omega))
theorem eq_sum {m : Nat} (hq : qrF wd hi E X Y) (hm : (m : Int) = wd * hi) : (eqL (addL (wd * hi) E (mulL (wd * hi) E 3212836864)) (List.replicate m 0) && eqL (addL (wd * hi) X (mulL (wd * hi) X 3212836864)) (List.replicate m 0) && eqL (addL (wd * hi) Y (mulL (wd * hi) Y 3212836864)) (List.replicate m 0)) = true := by
  have key : ∀ {A : List Nat}, gqL 147 150 (wd * hi) A → eqL (addL (wd * hi) A (mulL (wd * hi) A 3212836864)) (List.replicate m 0) = true := fun hA =>
    eq_rel (M' := 0) (b' := 0) (rel_sum hA (rel_m1 hA (by omega)) (by omega)) rel_zero (by rw [addL_len]; omega) (by simp [hm])
  rw [key hq.1, key hq.2.1, key hq.2.2]; rfl
theorem eq_dbl (hq : qrF wd hi E X Y) (hn : 0 ≤ wd * hi) : (eqL (addL (wd * hi) E E) (mulL (wd * hi) E 1073741824) && eqL (addL (wd * hi) X X) (mulL (wd * hi) X 1073741824) && eqL (addL (wd * hi) Y Y) (mulL (wd * hi) Y 1073741824)) = true := by
  have key : ∀ {A : List Nat}, gqL 147 150 (wd * hi) A → eqL (addL (wd * hi) A A) (mulL (wd * hi) A 1073741824) = true := fun hA =>
    eq_rel (rel_dbl hA (by omega)) (rel_two hA (by omega)) (by rw [addL_len]; omega) (by rw [mulL_len]; omega)
  rw [key hq.1, key hq.2.1, key hq.2.2]; rfl
theorem eq_two {n : Int} (hS : shG (wd * hi) P L) (h : fieldB wd hi wr P L E X Y = true) (hq : qrF wd hi E X Y) (h1 : n ≤ 5) :
    (eqL (rnT wd hi wr P L (mulL (wd * hi) E 1073741824, mulL (wd * hi) X 1073741824, mulL (wd * hi) Y 1073741824) n.toNat).1 (mulL (wd * hi) (rnT wd hi wr P L (E, X, Y) n.toNat).1 1073741824) &&
     eqL (rnT wd hi wr P L (mulL (wd * hi) E 1073741824, mulL (wd * hi) X 1073741824, mulL (wd * hi) Y 1073741824) n.toNat).2.1 (mulL (wd * hi) (rnT wd hi wr P L (E, X, Y) n.toNat).2.1 1073741824) &&
     eqL (rnT wd hi wr P L (mulL (wd * hi) E 1073741824, mulL (wd * hi) X 1073741824, mulL (wd * hi) Y 1073741824) n.toNat).2.2 (mulL (wd * hi) (rnT wd hi wr P L (E, X, Y) n.toNat).2.2 1073741824)) = true :=
  eq_scaled (Mb := 0) (bb := 0) lin_two hS h hq h1 (fun _ _ _ hb hA => rel_two hA hb) rfl
theorem eq_m1 {n : Int} (hS : shG (wd * hi) P L) (h : fieldB wd hi wr P L E X Y = true) (hq : qrF wd hi E X Y) (h1 : n ≤ 5) :
    (eqL (rnT wd hi wr P L (mulL (wd * hi) E 3212836864, mulL (wd * hi) X 3212836864, mulL (wd * hi) Y 3212836864) n.toNat).1 (mulL (wd * hi) (rnT wd hi wr P L (E, X, Y) n.toNat).1 3212836864) &&
     eqL (rnT wd hi wr P L (mulL (wd * hi) E 3212836864, mulL (wd * hi) X 3212836864, mulL (wd * hi) Y 3212836864) n.toNat).2.1 (mulL (wd * hi) (rnT wd hi wr P L (E, X, Y) n.toNat).2.1 3212836864) &&
     eqL (rnT wd hi wr P L (mulL (wd * hi) E 3212836864, mulL (wd * hi) X 3212836864, mulL (wd * hi) Y 3212836864) n.toNat).2.2 (mulL (wd * hi) (rnT wd hi wr P L (E, X, Y) n.toNat).2.2 3212836864)) = true :=
  eq_scaled (Mb := 0) (bb := 0) lin_neg hS h hq h1 (fun _ _ _ hb hA i h0 h1 => ⟨gq_mono (rel_m1 hA (by omega) i h0 h1).1 (Nat.le_refl _) (by omega), (rel_m1 hA (by omega) i h0 h1).2⟩) rfl
end
end Go.Wv

/- Drawn quarters; drawn sheets of sixteenths and eighths. -/
namespace Go.Wv
open Ieee
theorem gq_dec {M b x : Nat} (h : (finb .f32 x && decide ((2 : Int) ^ M ∣ val .f32 x) && decide ((val .f32 x).natAbs ≤ 2 ^ b)) = true) : gq M b x := by
  simp only [Bool.and_eq_true, decide_eq_true_eq] at h
  exact ⟨fin_finb h.1.1, h.1.2, h.2⟩
theorem qv_gq {v : Int} (h0 : -8 ≤ v) (h1 : v ≤ 8) : gq 147 150 (fop .quo .f32 (FloatKind.nearest .f32 v) 1082130432) := by
  have : v ∈ [-8, -7, -6, -5, -4, -3, -2, -1, 0, 1, 2, 3, 4, 5, 6, 7, 8] := by simp; omega
  have key : ∀ v ∈ [-8, -7, -6, -5, -4, -3, -2, -1, 0, 1, 2, 3, 4, 5, 6, 7, 8], (finb .f32 (fop .quo .f32 (FloatKind.nearest .f32 v) 1082130432) && decide ((2 : Int) ^ 147 ∣ val .f32 (fop .quo .f32 (FloatKind.nearest .f32 v) 1082130432)) && decide ((val .f32 (fop .quo .f32 (FloatKind.nearest .f32 v) 1082130432)).natAbs ≤ 2 ^ 150)) = true := by decide +kernel
  exact gq_dec (key v this)
theorem sp_gq {v : Int} (h0 : 0 ≤ v) (h1 : v < 9) : gq 145 148 (fop .quo .f32 (FloatKind.nearest .f32 v) 1098907648) := by
  have : v ∈ [0, 1, 2, 3, 4, 5, 6, 7, 8] := by simp; omega
  have key : ∀ v ∈ [0, 1, 2, 3, 4, 5, 6, 7, 8], (finb .f32 (fop .quo .f32 (FloatKind.nearest .f32 v) 1098907648) && decide ((2 : Int) ^ 145 ∣ val .f32 (fop .quo .f32 (FloatKind.nearest .f32 v) 1098907648)) && decide ((val .f32 (fop .quo .f32 (FloatKind.nearest .f32 v) 1098907648)).natAbs ≤ 2 ^ 148)) = true := by decide +kernel
  exact gq_dec (key v this)
theorem ls_gq {v : Int} (h0 : 0 ≤ v) (h1 : v < 9) : gq 146 149 (fop .sub .f32 1065353216 (fop .quo .f32 (FloatKind.nearest .f32 v) 1090519040)) := by
  have : v ∈ [0, 1, 2, 3, 4, 5, 6, 7, 8] := by simp; omega
  have key : ∀ v ∈ [0, 1, 2, 3, 4, 5, 6, 7, 8], (finb .f32 (fop .sub .f32 1065353216 (fop .quo .f32 (FloatKind.nearest .f32 v) 1090519040)) && decide ((2 : Int) ^ 146 ∣ val .f32 (fop .sub .f32 1065353216 (fop .quo .f32 (FloatKind.nearest .f32 v) 1090519040))) && decide ((val .f32 (fop .sub .f32 1065353216 (fop .quo .f32 (FloatKind.nearest .f32 v) 1090519040))).natAbs ≤ 2 ^ 149)) = true := by decide +kernel
  exact gq_dec (key v this)
theorem dw_grid {X : List Nat} {pl : Bool} {p n : Int} : shG n (dwSpL X pl p n) (dwLsL X pl p n) := by
  refine ⟨fun i h0 h1 => ?_, fun i h0 h1 => ?_⟩
  · have e1 : el (dwSpL X pl p n) i = dwSp X pl (dwP X pl p i) := el_tab' h0 h1
    rw [e1]
    generalize dwP X pl p i = q
    unfold dwSp; split
    · exact gq_mono gq_half (by omega) (Nat.le_refl _)
    · exact sp_gq (pk_b X q (by decide)).1 (pk_b X q (by decide)).2
  · have e2 : el (dwLsL X pl p n) i = dwLs X pl (dwP X pl p i) := el_tab' h0 h1
    rw [e2]
    generalize dwP X pl p i = q
    have z : gq 146 149 (fop .sub .f32 1065353216 0) := gq_dec (by decide +kernel)
    unfold dwLs; split
    · exact z
    · split
      · exact ls_gq (pk_b X _ (by decide)).1 (pk_b X _ (by decide)).2
      · exact z
theorem gqL_zero {M b : Nat} {n : Int} {m : Nat} : gqL M b n (List.replicate m 0) := fun i _ _ => by
  rw [el_rep0]; exact ⟨fin_zero, by rw [val_zero]; exact Int.dvd_zero _, by rw [val_zero]; exact Nat.zero_le _⟩
theorem gqL_put {M b : Nat} {n k : Int} {X : List Nat} {v : Nat} (h : gqL M b n X) (hl : (X.length : Int) = n) (h0 : 0 ≤ k) (h1 : k < n) (hv : gq M b v) : gqL M b n (put X k v) := fun i h2 h3 => by
  rw [el_put h0 (by omega) _ _ h2]
  split
  · exact hv
  · exact h i h2 h3
section
variable {wd hi k : Int} {wr : Bool} {E X Y : List Nat} {v : Nat}
theorem tn_len {a : Int} (h : 9 ≤ a) : ((a.toNat : Nat) : Int) = a := by omega
theorem n0_of {a : Int} (h : 9 ≤ a) : 0 ≤ a := by omega
def edgesO (wd hi : Int) (wr : Bool) (E X Y : List Nat) : Prop := wr = false → ∀ j, 0 ≤ j → j < wd * hi → edgeB wd hi E X Y (j % wd) (j / wd) j = false
theorem edgesO_zero {m : Nat} : edgesO wd hi wr (List.replicate m 0) (List.replicate m 0) (List.replicate m 0) := fun _ _ _ _ => zero_edge
theorem edP_E (hl : (E.length : Int) = wd * hi) (h0 : 0 ≤ k) (h1 : k < wd * hi) (hb : ¬ bordB wd hi wr (k % wd) (k / wd) = true) (h : edgesO wd hi wr E X Y) : edgesO wd hi wr (put E k v) X Y := fun hw j h2 h3 => by
  have := h hw j h2 h3
  subst hw
  unfold edgeB at this ⊢
  rw [el_put h0 (by omega) _ _ h2]
  split
  · rename_i e; subst e
    have hbf : bordB wd hi false (j % wd) (j / wd) = false := by simpa using hb
    rw [hbf] at this ⊢; exact this
  · exact this
theorem edP_X (hl : (X.length : Int) = wd * hi) (h0 : 0 ≤ k) (h1 : k < wd * hi) (hb : wr = true ∨ k / wd < hi - 1) (h : edgesO wd hi wr E X Y) : edgesO wd hi wr E (put X k v) Y := fun hw j h2 h3 => by
  have := h hw j h2 h3
  subst hw
  unfold edgeB at this ⊢
  rw [el_put h0 (by omega) _ _ h2]
  split
  · rename_i e; subst e
    have hbf : decide (j / wd = hi - 1) = false := decide_eq_false (by have := hb.resolve_left (by simp); omega)
    rw [hbf] at this ⊢; exact this
  · exact this
theorem edP_Y (hl : (Y.length : Int) = wd * hi) (h0 : 0 ≤ k) (h1 : k < wd * hi) (hb : wr = true ∨ k % wd < wd - 1) (h : edgesO wd hi wr E X Y) : edgesO wd hi wr E X (put Y k v) := fun hw j h2 h3 => by
  have := h hw j h2 h3
  subst hw
  unfold edgeB at this ⊢
  rw [el_put h0 (by omega) _ _ h2]
  split
  · rename_i e; subst e
    have hbf : decide (j % wd = wd - 1) = false := decide_eq_false (by have := hb.resolve_left (by simp); omega)
    rw [hbf] at this ⊢; exact this
  · exact this
theorem field_O {P L : List Nat} (hv : validS wd hi P L = true) (h1 : (E.length : Int) = wd * hi) (h2 : (X.length : Int) = wd * hi) (h3 : (Y.length : Int) = wd * hi) (h : edgesO wd hi wr E X Y) : fieldB wd hi wr P L E X Y = true := by
  cases wr with
  | true => exact field_wrap hv h1 h2 h3
  | false => exact field_yes hv h1 h2 h3 (h rfl)
end
end Go.Wv

/- Steps of mirrored, exchanged and shifted fields. -/
namespace Go.Wv
open Ieee
section
variable {wd hi : Int} {wr : Bool} {P L E X Y : List Nat}
theorem mir_at (hw : 0 < wd) (hh : 0 < hi) (x y : Int) : el (mirS wd hi X) (atI wd hi x y) = el X (atI wd hi (wd - 1 - x) y) := by
  have a := nrm_b (x := x) hw
  have b := nrm_b (x := y) hh
  rw [show atI wd hi x y = (x + wd) % wd + wd * ((y + hi) % hi) from rfl, mirS, el_movL a.1 a.2 b.1 b.2]
  unfold atI
  rw [nrm_mir hw]
theorem mirY_at (hw : 0 < wd) (hh : 0 < hi) (x y : Int) : el (mirY wd hi Y) (atI wd hi x y) = fneg .f32 (el Y (atI wd hi (wd - 2 - x) y)) := by
  have a := nrm_b (x := x) hw
  have b := nrm_b (x := y) hh
  rw [show atI wd hi x y = (x + wd) % wd + wd * ((y + hi) % hi) from rfl, el_mirY a.1 a.2 b.1 b.2]
  unfold atI
  rw [show 2 * wd - 2 - (x + wd) % wd = wd - 2 - (x + wd) % wd + wd by omega, nrm_mir2 (x := (x + wd) % wd) hw, nrm_nrm, nrm_mir2 (x := x) hw]
theorem swp_at (hw : 0 < wd) (hh : 0 < hi) (x y : Int) : el (swpS wd hi X) (atI hi wd x y) = el X (atI wd hi y x) := by
  have a := nrm_b (x := x) hh
  have b := nrm_b (x := y) hw
  rw [show atI hi wd x y = (x + hi) % hi + hi * ((y + wd) % wd) from rfl, swpS, el_movL a.1 a.2 b.1 b.2]
  rfl
theorem swpN_at (hw : 0 < wd) (hh : 0 < hi) (x y : Int) : el (negL (wd * hi) (swpS wd hi X)) (atI hi wd x y) = fneg .f32 (el X (atI wd hi y x)) := by
  have hb := atI_b (wd := hi) (hi := wd) (x := x) (y := y) hh hw
  rw [el_negL hb.1 (by rw [Int.mul_comm]; exact hb.2), swp_at hw hh]
theorem shf_at {dx dy : Int} (hw : 0 < wd) (hh : 0 < hi) (x y : Int) : el (shfS wd hi dx dy X) (atI wd hi x y) = el X (atI wd hi (x - dx) (y - dy)) := by
  have a := nrm_b (x := x) hw
  have b := nrm_b (x := y) hh
  rw [show atI wd hi x y = (x + wd) % wd + wd * ((y + hi) % hi) from rfl, shfS, el_movL a.1 a.2 b.1 b.2]
  unfold atI
  have e (z n d : Int) : ((z + n) % n - d) % n = (z - d + n) % n := by
    rw [Int.add_emod_right, Int.add_emod_right, Int.emod_sub_emod]
  rw [e, e]
theorem gqL_mir {M b : Nat} (hw : 0 < wd) (hh : 0 < hi) (h : gqL M b (wd * hi) X) : gqL M b (wd * hi) (mirS wd hi X) := gqL_of hw hh fun x y => by rw [mir_at hw hh]; exact gqL_at hw hh h _ _
theorem gq_neg {M b x : Nat} (h : gq M b x) : gq M b (fneg .f32 x) := by
  obtain ⟨a, c⟩ := neg_val h.1
  exact ⟨a, by rw [c]; exact Int.dvd_neg.2 h.2.1, by rw [c, Int.natAbs_neg]; exact h.2.2⟩
theorem gqL_mirY {M b : Nat} (hw : 0 < wd) (hh : 0 < hi) (h : gqL M b (wd * hi) Y) : gqL M b (wd * hi) (mirY wd hi Y) := gqL_of hw hh fun x y => by rw [mirY_at hw hh]; exact gq_neg (gqL_at hw hh h _ _)
theorem gqL_swp {M b : Nat} (hw : 0 < wd) (hh : 0 < hi) (h : gqL M b (wd * hi) X) : gqL M b (hi * wd) (swpS wd hi X) := gqL_of hh hw fun x y => by rw [swp_at hw hh]; exact gqL_at hw hh h _ _
theorem gqL_swpN {M b : Nat} (hw : 0 < wd) (hh : 0 < hi) (h : gqL M b (wd * hi) X) : gqL M b (hi * wd) (negL (wd * hi) (swpS wd hi X)) := gqL_of hh hw fun x y => by rw [swpN_at hw hh]; exact gq_neg (gqL_at hw hh h _ _)
theorem gqL_shf {M b : Nat} {dx dy : Int} (hw : 0 < wd) (hh : 0 < hi) (h : gqL M b (wd * hi) X) : gqL M b (wd * hi) (shfS wd hi dx dy X) := gqL_of hw hh fun x y => by rw [shf_at hw hh]; exact gqL_at hw hh h _ _
theorem vl_mir (hw : 0 < wd) (hh : 0 < hi) (x y : Int) : vl wd hi (mirS wd hi X) x y = vl wd hi X (wd - 1 - x) y := by unfold vl; rw [mir_at hw hh]
theorem vl_mirY {M b : Nat} (hw : 0 < wd) (hh : 0 < hi) (h : gqL M b (wd * hi) Y) (x y : Int) : vl wd hi (mirY wd hi Y) x y = -vl wd hi Y (wd - 2 - x) y := by
  unfold vl; rw [mirY_at hw hh]; exact (neg_val (gqL_at hw hh h _ _).1).2
theorem vl_swp (hw : 0 < wd) (hh : 0 < hi) (x y : Int) : vl hi wd (swpS wd hi X) x y = vl wd hi X y x := by unfold vl; rw [swp_at hw hh]
theorem vl_swpN {M b : Nat} (hw : 0 < wd) (hh : 0 < hi) (h : gqL M b (wd * hi) X) (x y : Int) : vl hi wd (negL (wd * hi) (swpS wd hi X)) x y = -vl wd hi X y x := by
  unfold vl; rw [swpN_at hw hh]; exact (neg_val (gqL_at hw hh h _ _).1).2
theorem vl_shf {dx dy : Int} (hw : 0 < wd) (hh : 0 < hi) (x y : Int) : vl wd hi (shfS wd hi dx dy X) x y = vl wd hi X (x - dx) (y - dy) := by unfold vl; rw [shf_at hw hh]
theorem gq1L_of {n : Int} (h : ∀ x y, gq 146 149 (fop .sub .f32 1065353216 (el L (atI wd hi x y)))) (hw : 0 < wd) (hn : n = wd * hi) : ∀ i, 0 ≤ i → i < n → gq 146 149 (fop .sub .f32 1065353216 (el L i)) := fun i h0 h1 => by
  subst hn
  have hr := row_of h0 h1 hw
  have := h (i % wd) (i / wd)
  rwa [atI_in hr.1.1 hr.1.2 hr.2.1.1 hr.2.1.2, hr.2.2] at this
theorem shG_l (hw : 0 < wd) (hh : 0 < hi) (h : shG (wd * hi) P L) (x y : Int) : gq 146 149 (fop .sub .f32 1065353216 (el L (atI wd hi x y))) := by
  have hb := atI_b (wd := wd) (hi := hi) (x := x) (y := y) hw hh
  exact h.2 _ hb.1 hb.2
theorem shG_mir (hw : 0 < wd) (hh : 0 < hi) (h : shG (wd * hi) P L) : shG (wd * hi) (mirS wd hi P) (mirS wd hi L) := ⟨gqL_mir hw hh h.1, gq1L_of (fun x y => by rw [mir_at hw hh]; exact shG_l hw hh h _ _) hw rfl⟩
theorem shG_swp (hw : 0 < wd) (hh : 0 < hi) (h : shG (wd * hi) P L) : shG (hi * wd) (swpS wd hi P) (swpS wd hi L) := ⟨gqL_swp hw hh h.1, gq1L_of (wd := hi) (hi := wd) (fun x y => by rw [swp_at hw hh]; exact shG_l hw hh h _ _) hh rfl⟩
theorem shG_shf {dx dy : Int} (hw : 0 < wd) (hh : 0 < hi) (h : shG (wd * hi) P L) : shG (wd * hi) (shfS wd hi dx dy P) (shfS wd hi dx dy L) := ⟨gqL_shf hw hh h.1, gq1L_of (fun x y => by rw [shf_at hw hh]; exact shG_l hw hh h _ _) hw rfl⟩
theorem eqL_vl {M b M' b' : Nat} {A B : List Nat} (hw : 0 < wd) (hA : gqL M b (wd * hi) A) (hB : gqL M' b' (wd * hi) B) (la : (A.length : Int) = wd * hi) (lb : (B.length : Int) = wd * hi) (h : ∀ x y, vl wd hi A x y = vl wd hi B x y) : eqL A B = true :=
  eqL_val (by omega) fun i h0 h1 => by
    have h1' : i < wd * hi := by omega
    have hr := row_of h0 h1' hw
    have := h (i % wd) (i / wd)
    unfold vl at this
    rw [atI_in hr.1.1 hr.1.2 hr.2.1.1 hr.2.1.2, hr.2.2] at this
    exact ⟨(hA i h0 h1').1, (hB i h0 h1').1, this⟩
theorem eqF_vl {M b M' b' : Nat} {F G : Fld} (hw : 0 < wd) (hF : gqF M b (wd * hi) F) (hG : gqF M' b' (wd * hi) G) (lF : (F.1.length : Int) = wd * hi ∧ (F.2.1.length : Int) = wd * hi ∧ (F.2.2.length : Int) = wd * hi) (lG : (G.1.length : Int) = wd * hi ∧ (G.2.1.length : Int) = wd * hi ∧ (G.2.2.length : Int) = wd * hi)
    (h : ∀ x y, vl wd hi F.1 x y = vl wd hi G.1 x y ∧ vl wd hi F.2.1 x y = vl wd hi G.2.1 x y ∧ vl wd hi F.2.2 x y = vl wd hi G.2.2 x y) : (eqL F.1 G.1 && eqL F.2.1 G.2.1 && eqL F.2.2 G.2.2) = true := by
  rw [eqL_vl hw hF.1 hG.1 lF.1 lG.1 fun x y => (h x y).1, eqL_vl hw hF.2.1 hG.2.1 lF.2.1 lG.2.1 fun x y => (h x y).2.1, eqL_vl hw hF.2.2 hG.2.2 lF.2.2 lG.2.2 fun x y => (h x y).2.2]; rfl
theorem mirL_len : (mirS wd hi X).length = (wd * hi).toNat := by unfold mirS; exact movL_len' ..
theorem mirYL_len : (mirY wd hi X).length = (wd * hi).toNat := by unfold mirY; exact tab_length ..
theorem swpL_len : (swpS wd hi X).length = (hi * wd).toNat := by unfold swpS; exact movL_len' ..
theorem negL_len {n : Int} : (negL n X).length = n.toNat := by unfold negL; exact tab_length ..
theorem shfL_len {dx dy : Int} : (shfS wd hi dx dy X).length = (wd * hi).toNat := by unfold shfS; exact movL_len' ..
theorem eq_mir {n : Int} (hS : shG (wd * hi) P L) (h : fieldB wd hi wr P L E X Y = true) (hq : qrF wd hi E X Y) (h1 : n ≤ 5) :
    (eqL (rnT wd hi wr (mirS wd hi P) (mirS wd hi L) (mirS wd hi E, mirS wd hi X, mirY wd hi Y) n.toNat).1 (mirS wd hi (rnT wd hi wr P L (E, X, Y) n.toNat).1) &&
     eqL (rnT wd hi wr (mirS wd hi P) (mirS wd hi L) (mirS wd hi E, mirS wd hi X, mirY wd hi Y) n.toNat).2.1 (mirS wd hi (rnT wd hi wr P L (E, X, Y) n.toNat).2.1) &&
     eqL (rnT wd hi wr (mirS wd hi P) (mirS wd hi L) (mirS wd hi E, mirS wd hi X, mirY wd hi Y) n.toNat).2.2 (mirY wd hi (rnT wd hi wr P L (E, X, Y) n.toNat).2.2)) = true := by
  have hb := fieldB_b h
  have hw : 0 < wd := by omega
  have hh : 0 < hi := by omega
  have g1 : gqF 147 150 (wd * hi) (mirS wd hi E, mirS wd hi X, mirY wd hi Y) := ⟨gqL_mir hw hh hq.1, gqL_mir hw hh hq.2.1, gqL_mirY hw hh hq.2.2⟩
  have hr := RMi_run (wr := wr) hw hh hS (shG_mir hw hh hS) (fun x y => vl_mir hw hh x y) (fun x y => by unfold lv; rw [mir_at hw hh]) hq g1 (fun x y => ⟨vl_mir hw hh x y, vl_mir hw hh x y, vl_mirY hw hh hq.2.2 x y⟩) n.toNat (by omega) (by omega)
  have ge := gqF_run (wr := wr) hw hh hS hq n.toNat (by omega) (by omega)
  have gg := gqF_run (wr := wr) hw hh (shG_mir hw hh hS) g1 n.toNat (by omega) (by omega)
  exact eqF_vl (G := (mirS wd hi (rnT wd hi wr P L (E, X, Y) n.toNat).1, mirS wd hi (rnT wd hi wr P L (E, X, Y) n.toNat).2.1, mirY wd hi (rnT wd hi wr P L (E, X, Y) n.toNat).2.2)) hw gg ⟨gqL_mir hw hh ge.1, gqL_mir hw hh ge.2.1, gqL_mirY hw hh ge.2.2⟩ (run_len (fieldB_mir h))
    ⟨by rw [mirL_len]; omega, by rw [mirL_len]; omega, by rw [mirYL_len]; omega⟩ fun x y => ⟨by rw [(hr x y).1, vl_mir hw hh], by rw [(hr x y).2.1, vl_mir hw hh], by rw [(hr x y).2.2, vl_mirY hw hh ge.2.2]⟩
theorem eq_swp {n : Int} (hS : shG (wd * hi) P L) (h : fieldB wd hi wr P L E X Y = true) (hq : qrF wd hi E X Y) (h1 : n ≤ 5) :
    (eqL (rnT hi wd wr (swpS wd hi P) (swpS wd hi L) (swpS wd hi E, negL (wd * hi) (swpS wd hi Y), negL (wd * hi) (swpS wd hi X)) n.toNat).1 (swpS wd hi (rnT wd hi wr P L (E, X, Y) n.toNat).1) &&
     eqL (rnT hi wd wr (swpS wd hi P) (swpS wd hi L) (swpS wd hi E, negL (wd * hi) (swpS wd hi Y), negL (wd * hi) (swpS wd hi X)) n.toNat).2.1 (negL (wd * hi) (swpS wd hi (rnT wd hi wr P L (E, X, Y) n.toNat).2.2)) &&
     eqL (rnT hi wd wr (swpS wd hi P) (swpS wd hi L) (swpS wd hi E, negL (wd * hi) (swpS wd hi Y), negL (wd * hi) (swpS wd hi X)) n.toNat).2.2 (negL (wd * hi) (swpS wd hi (rnT wd hi wr P L (E, X, Y) n.toNat).2.1))) = true := by
  have hb := fieldB_b h
  have hw : 0 < wd := by omega
  have hh : 0 < hi := by omega
  have hcm := Int.mul_comm hi wd
  have g1 : gqF 147 150 (hi * wd) (swpS wd hi E, negL (wd * hi) (swpS wd hi Y), negL (wd * hi) (swpS wd hi X)) := ⟨gqL_swp hw hh hq.1, gqL_swpN hw hh hq.2.2, gqL_swpN hw hh hq.2.1⟩
  have hr := RSw_run (wr := wr) hw hh hS (shG_swp hw hh hS) (fun x y => vl_swp hw hh x y) (fun x y => by unfold lv; rw [swp_at hw hh]) hq g1 (fun x y => ⟨vl_swp hw hh x y, vl_swpN hw hh hq.2.2 x y, vl_swpN hw hh hq.2.1 x y⟩) n.toNat (by omega) (by omega)
  have ge := gqF_run (wr := wr) hw hh hS hq n.toNat (by omega) (by omega)
  have gg := gqF_run (wr := wr) hh hw (shG_swp hw hh hS) g1 n.toNat (by omega) (by omega)
  exact eqF_vl (wd := hi) (hi := wd) (G := (swpS wd hi (rnT wd hi wr P L (E, X, Y) n.toNat).1, negL (wd * hi) (swpS wd hi (rnT wd hi wr P L (E, X, Y) n.toNat).2.2), negL (wd * hi) (swpS wd hi (rnT wd hi wr P L (E, X, Y) n.toNat).2.1))) hh gg ⟨gqL_swp hw hh ge.1, gqL_swpN hw hh ge.2.2, gqL_swpN hw hh ge.2.1⟩ (run_len (fieldB_swp h))
    ⟨by rw [swpL_len]; omega, by rw [negL_len]; omega, by rw [negL_len]; omega⟩ fun x y => ⟨by rw [(hr x y).1, vl_swp hw hh], by rw [(hr x y).2.1, vl_swpN hw hh ge.2.2], by rw [(hr x y).2.2, vl_swpN hw hh ge.2.1]⟩
theorem eq_shf {n dx dy : Int} (hS : shG (wd * hi) P L) (h : fieldB wd hi true P L E X Y = true) (hq : qrF wd hi E X Y) (h1 : n ≤ 5) :
    (eqL (rnT wd hi true (shfS wd hi dx dy P) (shfS wd hi dx dy L) (shfS wd hi dx dy E, shfS wd hi dx dy X, shfS wd hi dx dy Y) n.toNat).1 (shfS wd hi dx dy (rnT wd hi true P L (E, X, Y) n.toNat).1) &&
     eqL (rnT wd hi true (shfS wd hi dx dy P) (shfS wd hi dx dy L) (shfS wd hi dx dy E, shfS wd hi dx dy X, shfS wd hi dx dy Y) n.toNat).2.1 (shfS wd hi dx dy (rnT wd hi true P L (E, X, Y) n.toNat).2.1) &&
     eqL (rnT wd hi true (shfS wd hi dx dy P) (shfS wd hi dx dy L) (shfS wd hi dx dy E, shfS wd hi dx dy X, shfS wd hi dx dy Y) n.toNat).2.2 (shfS wd hi dx dy (rnT wd hi true P L (E, X, Y) n.toNat).2.2)) = true := by
  have hb := fieldB_b h
  have hw : 0 < wd := by omega
  have hh : 0 < hi := by omega
  have g1 : gqF 147 150 (wd * hi) (shfS wd hi dx dy E, shfS wd hi dx dy X, shfS wd hi dx dy Y) := ⟨gqL_shf hw hh hq.1, gqL_shf hw hh hq.2.1, gqL_shf hw hh hq.2.2⟩
  have hr := RSh_run hw hh hS (shG_shf (dx := dx) (dy := dy) hw hh hS) (fun x y => vl_shf hw hh x y) (fun x y => by unfold lv; rw [shf_at hw hh]) hq g1 (fun x y => ⟨vl_shf hw hh x y, vl_shf hw hh x y, vl_shf hw hh x y⟩) n.toNat (by omega) (by omega)
  have ge := gqF_run (wr := true) hw hh hS hq n.toNat (by omega) (by omega)
  have gg := gqF_run (wr := true) hw hh (shG_shf (dx := dx) (dy := dy) hw hh hS) g1 n.toNat (by omega) (by omega)
  exact eqF_vl (G := (shfS wd hi dx dy (rnT wd hi true P L (E, X, Y) n.toNat).1, shfS wd hi dx dy (rnT wd hi true P L (E, X, Y) n.toNat).2.1, shfS wd hi dx dy (rnT wd hi true P L (E, X, Y) n.toNat).2.2)) hw gg ⟨gqL_shf hw hh ge.1, gqL_shf hw hh ge.2.1, gqL_shf hw hh ge.2.2⟩ (run_len (fieldB_shf h))
    ⟨by rw [shfL_len]; omega, by rw [shfL_len]; omega, by rw [shfL_len]; omega⟩ fun x y => ⟨by rw [(hr x y).1, vl_shf hw hh], by rw [(hr x y).2.1, vl_shf hw hh], by rw [(hr x y).2.2, vl_shf hw hh]⟩
end
end Go.Wv

