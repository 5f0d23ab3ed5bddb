/- Texts that the walks rest on, joined. -/
import Derived.Test.YtgohmocjjmkepaaModC
set_option linter.unusedSimpArgs false
set_option linter.unusedVariables false
/- Laws of fields in quarters: twice as great, opposite, mirrored, exchanged, shifted. -/
namespace Go.Wv
open Ieee
def finb (k : FloatKind) (x : Nat) : Bool := match k.format.read x with | .number .. => true | _ => false
theorem fin_finb {k : FloatKind} {x : Nat} (h : finb k x = true) : fin k x := by
  unfold finb at h
  split at h
  · rename_i s m p hr; exact ⟨_, _, _, hr⟩
  · cases h
/-- Lists that have equal numbers. -/
def eqL (X Y : List Nat) : Bool := decide (X.length = Y.length) && allI X.length fun i => !fne .f32 (el X i) (el Y i)
theorem eqL_yes {X Y : List Nat} (hl : X.length = Y.length) (h : ∀ i, 0 ≤ i → i < (X.length : Int) → ¬ fne .f32 (el X i) (el Y i) = true) : eqL X Y = true := by
  simp only [eqL, hl, decide_true, Bool.true_and]; exact allI_true (fun i h0 h1 => by have := h i h0 (by omega); simpa using this)
theorem eqL_no {X Y : List Nat} {i : Int} (h0 : 0 ≤ i) (h1 : i < (X.length : Int)) (h : fne .f32 (el X i) (el Y i) = true) : eqL X Y = false := by
  simp only [eqL, Bool.and_eq_false_iff]; exact .inr (allI_false h0 h1 (by simp [h]))
theorem eqL_n {X Y : List Nat} (h : X.length ≠ Y.length) : eqL X Y = false := by simp [eqL, h]
theorem eqL_val {X Y : List Nat} (hl : X.length = Y.length) (h : ∀ i, 0 ≤ i → i < (X.length : Int) → fin .f32 (el X i) ∧ fin .f32 (el Y i) ∧ val .f32 (el X i) = val .f32 (el Y i)) : eqL X Y = true :=
  eqL_yes hl fun i h0 h1 => by
    obtain ⟨a, b, c⟩ := h i h0 h1
    rw [fne_feq, feq_val a b, c]; simp
/-- What a finite number stands for needs no rounding. -/
theorem WS_val {x : Nat} (h : fin .f32 x) : WS (val .f32 x) = val .f32 x := by
  obtain ⟨s, m, p, h1, h2, h3⟩ := val_num h
  have hm : m < 2 ^ 24 := by
    rcases read32 x with ⟨s', m', p', hr, hm, _⟩ | ⟨s', hr⟩ | ⟨s', t', hr⟩
    · have h1' : single.read x = .number s m p := h1
      rw [hr] at h1'; injection h1' with _ e _; omega
    · have h1' : single.read x = .number s m p := h1
      rw [hr] at h1'; cases h1'
    · have h1' : single.read x = .number s m p := h1
      rw [hr] at h1'; cases h1'
  rw [h3]
  unfold WS
  rw [WZ_sg, Wn_shift, Wn_exact (k := .f32) hm]
theorem val_two : val .f32 1073741824 = 2 ^ 150 := by decide +kernel
theorem fin_two : fin .f32 1073741824 := ⟨false, 8388608, -22, by kernel_rfl⟩
theorem val_m1 : val .f32 3212836864 = -2 ^ 149 := by decide +kernel
theorem fin_m1 : fin .f32 3212836864 := ⟨true, 8388608, -23, by kernel_rfl⟩
theorem mul_two {M b x : Nat} (h : gq M b x) (hb : b + 1 ≤ 275) : gq M (b + 1) (fop .mul .f32 x 1073741824) ∧ val .f32 (fop .mul .f32 x 1073741824) = 2 * val .f32 x := by
  have hbd : (2 * val .f32 x).natAbs ≤ 2 ^ (b + 1) := by have := h.2.2; rw [Nat.pow_succ]; omega
  have := mul_val h.1 fin_two (Q := 2 * val .f32 x) (by rw [val_two, neg_lpl, show (2 : Int) ^ 150 = 2 * 2 ^ 149 from by rw [Int.mul_comm]; exact Int.pow_succ 2 149, ← Int.mul_assoc, Int.mul_comm (val .f32 x)]) (pow_le275 hb hbd)
  have e : val .f32 (fop .mul .f32 x 1073741824) = 2 * val .f32 x := by rw [this.2]; exact (WS_two _).trans (by rw [WS_val h.1])
  exact ⟨⟨this.1, by rw [e]; exact Int.dvd_trans h.2.1 (Int.dvd_mul_left _ _), by rw [e]; exact hbd⟩, e⟩
theorem mul_m1 {M b x : Nat} (h : gq M b x) (hb : b ≤ 275) : gq M b (fop .mul .f32 x 3212836864) ∧ val .f32 (fop .mul .f32 x 3212836864) = -1 * val .f32 x := by
  have hbd : (-1 * val .f32 x).natAbs ≤ 2 ^ b := by have := h.2.2; omega
  have := mul_val h.1 fin_m1 (Q := -1 * val .f32 x) (by rw [val_m1, neg_lpl, Int.mul_neg, Int.neg_mul, Int.one_mul, Int.neg_mul]) (pow_le275 hb hbd)
  have e : val .f32 (fop .mul .f32 x 3212836864) = -1 * val .f32 x := by rw [this.2]; exact (lin_neg _).trans (by rw [WS_val h.1])
  exact ⟨⟨this.1, by rw [e]; exact Int.dvd_trans h.2.1 (Int.dvd_mul_left _ _), by rw [e]; exact hbd⟩, e⟩
/-- B is A, scaled. -/
def relL (c : Int) (M b : Nat) (n : Int) (A B : List Nat) : Prop := ∀ i, 0 ≤ i → i < n → gq M b (el B i) ∧ val .f32 (el B i) = c * val .f32 (el A i)
theorem rel_gq {c : Int} {M b : Nat} {n : Int} {A B : List Nat} (h : relL c M b n A B) : gqL M b n B := fun i h0 h1 => (h i h0 h1).1
theorem rel_two {M b : Nat} {n : Int} {A : List Nat} (h : gqL M b n A) (hb : b + 1 ≤ 275) : relL 2 M (b + 1) n A (mulL n A 1073741824) := fun i h0 h1 => by
  unfold mulL zipL; rw [el_tab h0 h1]; exact mul_two (h i h0 h1) hb
theorem rel_m1 {M b : Nat} {n : Int} {A : List Nat} (h : gqL M b n A) (hb : b ≤ 275) : relL (-1) M b n A (mulL n A 3212836864) := fun i h0 h1 => by
  unfold mulL zipL; rw [el_tab h0 h1]; exact mul_m1 (h i h0 h1) hb
theorem rel_sum {M b : Nat} {n : Int} {A B : List Nat} (h : gqL M b n A) (h' : relL (-1) M b n A B) (hb : b + 1 ≤ 275) : relL 0 M (b + 1) n A (addL n A B) := fun i h0 h1 => by
  unfold addL zipL; rw [el_tab h0 h1]
  obtain ⟨a, c⟩ := gq_add (h i h0 h1) (h' i h0 h1).1 hb
  refine ⟨a, ?_⟩
  rw [c, (h' i h0 h1).2, show val .f32 (el A i) + -1 * val .f32 (el A i) = 0 by omega, Int.zero_mul]; exact WZ_zero _
theorem rel_dbl {M b : Nat} {n : Int} {A : List Nat} (h : gqL M b n A) (hb : b + 1 ≤ 275) : relL 2 M (b + 1) n A (addL n A A) := fun i h0 h1 => by
  unfold addL zipL; rw [el_tab h0 h1]
  obtain ⟨a, c⟩ := gq_add (h i h0 h1) (h i h0 h1) hb
  refine ⟨a, ?_⟩
  rw [c, show val .f32 (el A i) + val .f32 (el A i) = 2 * val .f32 (el A i) by omega, WS_two, WS_val (h i h0 h1).1]
theorem rel_zero {M b : Nat} {n : Int} {A : List Nat} {m : Nat} : relL 0 M b n A (List.replicate m 0) := fun i _ _ => by
  rw [el_rep0, val_zero, Int.zero_mul]; exact ⟨⟨fin_zero, by rw [val_zero]; exact Int.dvd_zero _, by rw [val_zero]; exact Nat.zero_le _⟩, rfl⟩
theorem eq_rel {c : Int} {M b M' b' : Nat} {n : Int} {A B B' : List Nat} (h : relL c M b n A B) (h' : relL c M' b' n A B') (hl : (B.length : Int) = n) (hl' : (B'.length : Int) = n) : eqL B B' = true :=
  eqL_val (by omega) fun i h0 h1 => ⟨(h i h0 (by omega)).1.1, (h' i h0 (by omega)).1.1, by rw [(h i h0 (by omega)).2, (h' i h0 (by omega)).2]⟩
theorem mulL_len {n : Int} {A : List Nat} {s : Nat} : (mulL n A s).length = n.toNat := by unfold mulL zipL; exact tab_length _ _
theorem addL_len {n : Int} {A B : List Nat} : (addL n A B).length = n.toNat := by unfold addL zipL; exact tab_length _ _
section
variable {wd hi : Int} {wr : Bool} {P L E X Y : List Nat}
theorem rel_field {c : Int} {M b : Nat} {E' X' Y' : List Nat} (h : fieldB wd hi wr P L E X Y = true) (_hE : fin .f32 0) (_gE : gqL M b (wd * hi) E) (_gX : gqL M b (wd * hi) X) (_gY : gqL M b (wd * hi) Y) {M' b' : Nat}
    (rE : relL c M' b' (wd * hi) E E') (rX : relL c M' b' (wd * hi) X X') (rY : relL c M' b' (wd * hi) Y Y') (l1 : (E'.length : Int) = wd * hi) (l2 : (X'.length : Int) = wd * hi) (l3 : (Y'.length : Int) = wd * hi) : fieldB wd hi wr P L E' X' Y' = true := by
  have key : ∀ {A B : List Nat} {i : Int}, relL c M' b' (wd * hi) A B → 0 ≤ i → i < wd * hi → feq .f32 (el A i) 0 = true → feq .f32 (el B i) 0 = true := fun r h0 h1 hz => by
    have hz' := zr_iff.1 hz
    refine zr_iff.2 ⟨(r _ h0 h1).1.1, ?_⟩
    rw [(r _ h0 h1).2, hz'.2, Int.mul_zero]
  refine field_xy (fieldB_iff.1 h).1 l1 l2 l3 fun hw x y a b' c' d => ?_
  subst hw
  have hr := row_lt a b' c' d
  have he := edge_iff.1 (edge_xy h a b' c' d)
  exact edge_iff.2 ⟨fun hc => key rE hr.1 hr.2 (he.1 hc), fun hc => key rX hr.1 hr.2 (he.2.1 hc), fun hc => key rY hr.1 hr.2 (he.2.2 hc)⟩
theorem rel_vl {c : Int} {M b : Nat} {A B : List Nat} (hw : 0 < wd) (hh : 0 < hi) (r : relL c M b (wd * hi) A B) (x y : Int) : vl wd hi B x y = c * vl wd hi A x y := by
  have := atI_b (wd := wd) (hi := hi) (x := x) (y := y) hw hh
  exact (r _ this.1 this.2).2
theorem vl_rel {c : Int} {M b : Nat} {A B : List Nat} (hw : 0 < wd) (h : ∀ x y, vl wd hi B x y = c * vl wd hi A x y) (hB : gqL M b (wd * hi) B) : relL c M b (wd * hi) A B := fun i h0 h1 => by
  have hr := row_of h0 h1 hw
  have := h (i % wd) (i / wd)
  unfold vl at this
  rw [atI_in hr.1.1 hr.1.2 hr.2.1.1 hr.2.1.2, hr.2.2] at this
  exact ⟨hB i h0 h1, this⟩
/-- A field of quarters. -/
def qrF (wd hi : Int) (E X Y : List Nat) : Prop := gqF 147 150 (wd * hi) (E, X, Y)
/-- Some steps of a field of quarters. -/
theorem qr_run {n : Int} (hS : shG (wd * hi) P L) (hq : qrF wd hi E X Y) (h : fieldB wd hi wr P L E X Y = true) (h1 : n ≤ 5) : gqF 122 175 (wd * hi) (rnT wd hi wr P L (E, X, Y) n.toNat) := by
  have hb := fieldB_b h
  have := gqF_run (wr := wr) (P := P) (L := L) (show 0 < wd by omega) (show 0 < hi by omega) hS hq n.toNat (by omega) (by omega)
  exact ⟨gqL_mono this.1 (by omega) (by omega), gqL_mono this.2.1 (by omega) (by omega), gqL_mono this.2.2 (by omega) (by omega)⟩
theorem run_len {n : Nat} (h : fieldB wd hi wr P L E X Y = true) : ((rnT wd hi wr P L (E, X, Y) n).1.length : Int) = wd * hi ∧ ((rnT wd hi wr P L (E, X, Y) n).2.1.length : Int) = wd * hi ∧ ((rnT wd hi wr P L (E, X, Y) n).2.2.length : Int) = wd * hi :=
  (fieldB_b (rnT_field h n)).1
theorem scl_ok {c : Int} {s M b M' b' : Nat} (h : fieldB wd hi wr P L E X Y = true) (gE : gqL M b (wd * hi) E) (gX : gqL M b (wd * hi) X) (gY : gqL M b (wd * hi) Y) (hr : ∀ A, gqL M b (wd * hi) A → relL c M' b' (wd * hi) A (mulL (wd * hi) A s)) : sclB wd hi wr P L E X Y s = true := by
  have hb := fieldB_b h
  have := rel_field h fin_zero gE gX gY (hr _ gE) (hr _ gX) (hr _ gY) (by rw [mulL_len]; omega) (by rw [mulL_len]; omega) (by rw [mulL_len]; omega)
  simp only [sclB, h, this, Bool.and_self]
theorem scl_field {s : Nat} (h : sclB wd hi wr P L E X Y s = true) : fieldB wd hi wr P L (mulL (wd * hi) E s) (mulL (wd * hi) X s) (mulL (wd * hi) Y s) = true := by
  simp only [sclB, Bool.and_eq_true] at h; exact h.2
theorem scl2_ok (h : fieldB wd hi wr P L E X Y = true) (hq : qrF wd hi E X Y) : sclB wd hi wr P L E X Y 1073741824 = true := scl_ok h hq.1 hq.2.1 hq.2.2 fun _ hA => rel_two hA (by omega)
theorem sclN_ok (h : fieldB wd hi wr P L E X Y = true) (hq : qrF wd hi E X Y) : sclB wd hi wr P L E X Y 3212836864 = true := scl_ok h hq.1 hq.2.1 hq.2.2 fun _ hA => rel_m1 hA (by omega)
theorem scl2_end {n : Int} (hS : shG (wd * hi) P L) (h : fieldB wd hi wr P L E X Y = true) (hq : qrF wd hi E X Y) (h1 : n ≤ 5) : sclB wd hi wr P L (rnT wd hi wr P L (E, X, Y) n.toNat).1 (rnT wd hi wr P L (E, X, Y) n.toNat).2.1 (rnT wd hi wr P L (E, X, Y) n.toNat).2.2 1073741824 = true := by
  have g := qr_run hS hq h h1
  exact scl_ok (rnT_field h _) g.1 g.2.1 g.2.2 fun _ hA => rel_two hA (by omega)
theorem sclN_end {n : Int} (hS : shG (wd * hi) P L) (h : fieldB wd hi wr P L E X Y = true) (hq : qrF wd hi E X Y) (h1 : n ≤ 5) : sclB wd hi wr P L (rnT wd hi wr P L (E, X, Y) n.toNat).1 (rnT wd hi wr P L (E, X, Y) n.toNat).2.1 (rnT wd hi wr P L (E, X, Y) n.toNat).2.2 3212836864 = true := by
  have g := qr_run hS hq h h1
  exact scl_ok (rnT_field h _) g.1 g.2.1 g.2.2 fun _ hA => rel_m1 hA (by omega)
theorem eq_scaled {c : Int} {s Mb bb : Nat} {n : Int} (hc : lin c) (hS : shG (wd * hi) P L) (h : fieldB wd hi wr P L E X Y = true) (hq : qrF wd hi E X Y) (h1 : n ≤ 5)
    (hr : ∀ M b A, b + 1 ≤ 275 → gqL M b (wd * hi) A → relL c M (b + 1) (wd * hi) A (mulL (wd * hi) A s)) (_u : Mb = bb) :
    (eqL (rnT wd hi wr P L (mulL (wd * hi) E s, mulL (wd * hi) X s, mulL (wd * hi) Y s) n.toNat).1 (mulL (wd * hi) (rnT wd hi wr P L (E, X, Y) n.toNat).1 s) &&
     eqL (rnT wd hi wr P L (mulL (wd * hi) E s, mulL (wd * hi) X s, mulL (wd * hi) Y s) n.toNat).2.1 (mulL (wd * hi) (rnT wd hi wr P L (E, X, Y) n.toNat).2.1 s) &&
     eqL (rnT wd hi wr P L (mulL (wd * hi) E s, mulL (wd * hi) X s, mulL (wd * hi) Y s) n.toNat).2.2 (mulL (wd * hi) (rnT wd hi wr P L (E, X, Y) n.toNat).2.2 s)) = true := by
  have hb := fieldB_b h
  have hw : 0 < wd := by omega
  have hh : 0 < hi := by omega
  have g0 : gqF 147 151 (wd * hi) (E, X, Y) := ⟨gqL_mono hq.1 (by omega) (by omega), gqL_mono hq.2.1 (by omega) (by omega), gqL_mono hq.2.2 (by omega) (by omega)⟩
  have rE := hr 147 150 E (by omega) hq.1
  have rX := hr 147 150 X (by omega) hq.2.1
  have rY := hr 147 150 Y (by omega) hq.2.2
  have g1 : gqF 147 151 (wd * hi) (mulL (wd * hi) E s, mulL (wd * hi) X s, mulL (wd * hi) Y s) := ⟨rel_gq rE, rel_gq rX, rel_gq rY⟩
  have hf := rel_field (wr := wr) (P := P) (L := L) h fin_zero hq.1 hq.2.1 hq.2.2 rE rX rY (by rw [mulL_len]; omega) (by rw [mulL_len]; omega) (by rw [mulL_len]; omega)
  have hrs := RSc_run (wr := wr) hc hw hh hS g0 g1 (fun x y => ⟨rel_vl hw hh rE x y, rel_vl hw hh rX x y, rel_vl hw hh rY x y⟩) n.toNat (by omega) (by omega)
  have ge := gqF_run (wr := wr) hw hh hS g0 n.toNat (by omega) (by omega)
  have gf := gqF_run (wr := wr) hw hh hS g1 n.toNat (by omega) (by omega)
  have ln := run_len (n := n.toNat) hf
  have key : ∀ {A B : List Nat}, gqL (147 - 5 * n.toNat) (151 + 5 * n.toNat) (wd * hi) A → gqL (147 - 5 * n.toNat) (151 + 5 * n.toNat) (wd * hi) B → (∀ x y, vl wd hi B x y = c * vl wd hi A x y) → (B.length : Int) = wd * hi → eqL B (mulL (wd * hi) A s) = true :=
    fun hA hB hv hl => eq_rel (vl_rel hw hv hB) (hr _ _ _ (by omega) hA) hl (by rw [mulL_len]; omega)
  rw [key ge.1 gf.1 (fun x y => (hrs x y).1) ln.1, key ge.2.1 gf.2.1 (fun x y => (hrs x y).2.1) ln.2.1, key ge.2.2 gf.2.2 (fun x y => (hrs x y).2.2) ln.2.2]; rfl
theorem add_ok {c : Int} {M b : Nat} {E2 X2 Y2 : List Nat} (h : fieldB wd hi wr P L E X Y = true) (h2 : fieldB wd hi wr P L E2 X2 Y2 = true) (hq : qrF wd hi E X Y) (rE : relL c M b (wd * hi) E (addL (wd * hi) E E2)) (rX : relL c M b (wd * hi) X (addL (wd * hi) X X2)) (rY : relL c M b (wd * hi) Y (addL (wd * hi) Y Y2)) : addB wd hi wr P L E X Y E2 X2 Y2 = true := by
  have hb := fieldB_b h
  have := rel_field h fin_zero hq.1 hq.2.1 hq.2.2 rE rX rY (by rw [addL_len]; omega) (by rw [addL_len]; omega) (by rw [addL_len]; omega)
  simp only [addB, h, h2, this, Bool.and_self]
theorem addN_ok (h : fieldB wd hi wr P L E X Y = true) (hq : qrF wd hi E X Y) : addB wd hi wr P L E X Y (mulL (wd * hi) E 3212836864) (mulL (wd * hi) X 3212836864) (mulL (wd * hi) Y 3212836864) = true :=
  add_ok h (scl_field (sclN_ok h hq)) hq (rel_sum hq.1 (rel_m1 hq.1 (by omega)) (by omega)) (rel_sum hq.2.1 (rel_m1 hq.2.1 (by omega)) (by omega)) (rel_sum hq.2.2 (rel_m1 hq.2.2 (by omega)) (by omega))
theorem addD_ok (h : fieldB wd hi wr P L E X Y = true) (hq : qrF wd hi E X Y) : addB wd hi wr P L E X Y E X Y = true :=
  add_ok h h hq (rel_dbl hq.1 (by omega)) (rel_dbl hq.2.1 (by omega)) (rel_dbl hq.2.2 (by omega))
theorem eq_sum {m : Nat} (hq : qrF wd hi E X Y) (hm : (m : Int) = wd * hi) : (eqL (addL (wd * hi) E (mulL (wd * hi) E 3212836864)) (List.replicate m 0) && eqL (addL (wd * hi) X (mulL (wd * hi) X 3212836864)) (List.replicate m 0) && eqL (addL (wd * hi) Y (mulL (wd * hi) Y 3212836864)) (List.replicate m 0)) = true := by
  have key : ∀ {A : List Nat}, gqL 147 150 (wd * hi) A → eqL (addL (wd * hi) A (mulL (wd * hi) A 3212836864)) (List.replicate m 0) = true := fun hA =>
    eq_rel (M' := 0) (b' := 0) (rel_sum hA (rel_m1 hA (by omega)) (by omega)) rel_zero (by rw [addL_len]; omega) (by simp [hm])
  rw [key hq.1, key hq.2.1, key hq.2.2]; rfl
theorem eq_dbl (hq : qrF wd hi E X Y) (hn : 0 ≤ wd * hi) : (eqL (addL (wd * hi) E E) (mulL (wd * hi) E 1073741824) && eqL (addL (wd * hi) X X) (mulL (wd * hi) X 1073741824) && eqL (addL (wd * hi) Y Y) (mulL (wd * hi) Y 1073741824)) = true := by
  have key : ∀ {A : List Nat}, gqL 147 150 (wd * hi) A → eqL (addL (wd * hi) A A) (mulL (wd * hi) A 1073741824) = true := fun hA =>
    eq_rel (rel_dbl hA (by omega)) (rel_two hA (by omega)) (by rw [addL_len]; omega) (by rw [mulL_len]; omega)
  rw [key hq.1, key hq.2.1, key hq.2.2]; rfl
theorem eq_two {n : Int} (hS : shG (wd * hi) P L) (h : fieldB wd hi wr P L E X Y = true) (hq : qrF wd hi E X Y) (h1 : n ≤ 5) :
    (eqL (rnT wd hi wr P L (mulL (wd * hi) E 1073741824, mulL (wd * hi) X 1073741824, mulL (wd * hi) Y 1073741824) n.toNat).1 (mulL (wd * hi) (rnT wd hi wr P L (E, X, Y) n.toNat).1 1073741824) &&
     eqL (rnT wd hi wr P L (mulL (wd * hi) E 1073741824, mulL (wd * hi) X 1073741824, mulL (wd * hi) Y 1073741824) n.toNat).2.1 (mulL (wd * hi) (rnT wd hi wr P L (E, X, Y) n.toNat).2.1 1073741824) &&
     eqL (rnT wd hi wr P L (mulL (wd * hi) E 1073741824, mulL (wd * hi) X 1073741824, mulL (wd * hi) Y 1073741824) n.toNat).2.2 (mulL (wd * hi) (rnT wd hi wr P L (E, X, Y) n.toNat).2.2 1073741824)) = true :=
  eq_scaled (Mb := 0) (bb := 0) lin_two hS h hq h1 (fun _ _ _ hb hA => rel_two hA hb) rfl
theorem eq_m1 {n : Int} (hS : shG (wd * hi) P L) (h : fieldB wd hi wr P L E X Y = true) (hq : qrF wd hi E X Y) (h1 : n ≤ 5) :
    (eqL (rnT wd hi wr P L (mulL (wd * hi) E 3212836864, mulL (wd * hi) X 3212836864, mulL (wd * hi) Y 3212836864) n.toNat).1 (mulL (wd * hi) (rnT wd hi wr P L (E, X, Y) n.toNat).1 3212836864) &&
     eqL (rnT wd hi wr P L (mulL (wd * hi) E 3212836864, mulL (wd * hi) X 3212836864, mulL (wd * hi) Y 3212836864) n.toNat).2.1 (mulL (wd * hi) (rnT wd hi wr P L (E, X, Y) n.toNat).2.1 3212836864) &&
     eqL (rnT wd hi wr P L (mulL (wd * hi) E 3212836864, mulL (wd * hi) X 3212836864, mulL (wd * hi) Y 3212836864) n.toNat).2.2 (mulL (wd * hi) (rnT wd hi wr P L (E, X, Y) n.toNat).2.2 3212836864)) = true :=
  eq_scaled (Mb := 0) (bb := 0) lin_neg hS h hq h1 (fun _ _ _ hb hA i h0 h1 => ⟨gq_mono (rel_m1 hA (by omega) i h0 h1).1 (Nat.le_refl _) (by omega), (rel_m1 hA (by omega) i h0 h1).2⟩) rfl
end
end Go.Wv

/- Drawn quarters; drawn sheets of sixteenths and eighths. -/
namespace Go.Wv
open Ieee
theorem gq_dec {M b x : Nat} (h : (finb .f32 x && decide ((2 : Int) ^ M ∣ val .f32 x) && decide ((val .f32 x).natAbs ≤ 2 ^ b)) = true) : gq M b x := by
  simp only [Bool.and_eq_true, decide_eq_true_eq] at h
  exact ⟨fin_finb h.1.1, h.1.2, h.2⟩
theorem qv_gq {v : Int} (h0 : -8 ≤ v) (h1 : v ≤ 8) : gq 147 150 (fop .quo .f32 (FloatKind.nearest .f32 v) 1082130432) := by
  have : v ∈ [-8, -7, -6, -5, -4, -3, -2, -1, 0, 1, 2, 3, 4, 5, 6, 7, 8] := by simp; omega
  have key : ∀ v ∈ [-8, -7, -6, -5, -4, -3, -2, -1, 0, 1, 2, 3, 4, 5, 6, 7, 8], (finb .f32 (fop .quo .f32 (FloatKind.nearest .f32 v) 1082130432) && decide ((2 : Int) ^ 147 ∣ val .f32 (fop .quo .f32 (FloatKind.nearest .f32 v) 1082130432)) && decide ((val .f32 (fop .quo .f32 (FloatKind.nearest .f32 v) 1082130432)).natAbs ≤ 2 ^ 150)) = true := by decide +kernel
  exact gq_dec (key v this)
theorem sp_gq {v : Int} (h0 : 0 ≤ v) (h1 : v < 9) : gq 145 148 (fop .quo .f32 (FloatKind.nearest .f32 v) 1098907648) := by
  have : v ∈ [0, 1, 2, 3, 4, 5, 6, 7, 8] := by simp; omega
  have key : ∀ v ∈ [0, 1, 2, 3, 4, 5, 6, 7, 8], (finb .f32 (fop .quo .f32 (FloatKind.nearest .f32 v) 1098907648) && decide ((2 : Int) ^ 145 ∣ val .f32 (fop .quo .f32 (FloatKind.nearest .f32 v) 1098907648)) && decide ((val .f32 (fop .quo .f32 (FloatKind.nearest .f32 v) 1098907648)).natAbs ≤ 2 ^ 148)) = true := by decide +kernel
  exact gq_dec (key v this)
theorem ls_gq {v : Int} (h0 : 0 ≤ v) (h1 : v < 9) : gq 146 149 (fop .sub .f32 1065353216 (fop .quo .f32 (FloatKind.nearest .f32 v) 1090519040)) := by
  have : v ∈ [0, 1, 2, 3, 4, 5, 6, 7, 8] := by simp; omega
  have key : ∀ v ∈ [0, 1, 2, 3, 4, 5, 6, 7, 8], (finb .f32 (fop .sub .f32 1065353216 (fop .quo .f32 (FloatKind.nearest .f32 v) 1090519040)) && decide ((2 : Int) ^ 146 ∣ val .f32 (fop .sub .f32 1065353216 (fop .quo .f32 (FloatKind.nearest .f32 v) 1090519040))) && decide ((val .f32 (fop .sub .f32 1065353216 (fop .quo .f32 (FloatKind.nearest .f32 v) 1090519040))).natAbs ≤ 2 ^ 149)) = true := by decide +kernel
  exact gq_dec (key v this)
theorem dw_grid {X : List Nat} {pl : Bool} {p n : Int} : shG n (dwSpL X pl p n) (dwLsL X pl p n) := by
  refine ⟨fun i h0 h1 => ?_, fun i h0 h1 => ?_⟩
  · have e1 : el (dwSpL X pl p n) i = dwSp X pl (dwP X pl p i) := el_tab' h0 h1
    rw [e1]
    generalize dwP X pl p i = q
    unfold dwSp; split
    · exact gq_mono gq_half (by omega) (Nat.le_refl _)
    · exact sp_gq (pk_b X q (by decide)).1 (pk_b X q (by decide)).2
  · have e2 : el (dwLsL X pl p n) i = dwLs X pl (dwP X pl p i) := el_tab' h0 h1
    rw [e2]
    generalize dwP X pl p i = q
    have z : gq 146 149 (fop .sub .f32 1065353216 0) := gq_dec (by decide +kernel)
    unfold dwLs; split
    · exact z
    · split
      · exact ls_gq (pk_b X _ (by decide)).1 (pk_b X _ (by decide)).2
      · exact z
theorem gqL_zero {M b : Nat} {n : Int} {m : Nat} : gqL M b n (List.replicate m 0) := fun i _ _ => by
  rw [el_rep0]; exact ⟨fin_zero, by rw [val_zero]; exact Int.dvd_zero _, by rw [val_zero]; exact Nat.zero_le _⟩
theorem gqL_put {M b : Nat} {n k : Int} {X : List Nat} {v : Nat} (h : gqL M b n X) (hl : (X.length : Int) = n) (h0 : 0 ≤ k) (h1 : k < n) (hv : gq M b v) : gqL M b n (put X k v) := fun i h2 h3 => by
  rw [el_put h0 (by omega) _ _ h2]
  split
  · exact hv
  · exact h i h2 h3
section
variable {wd hi k : Int} {wr : Bool} {E X Y : List Nat} {v : Nat}
theorem tn_len {a : Int} (h : 9 ≤ a) : ((a.toNat : Nat) : Int) = a := by omega
theorem n0_of {a : Int} (h : 9 ≤ a) : 0 ≤ a := by omega
def edgesO (wd hi : Int) (wr : Bool) (E X Y : List Nat) : Prop := wr = false → ∀ j, 0 ≤ j → j < wd * hi → edgeB wd hi E X Y (j % wd) (j / wd) j = false
theorem edgesO_zero {m : Nat} : edgesO wd hi wr (List.replicate m 0) (List.replicate m 0) (List.replicate m 0) := fun _ _ _ _ => zero_edge
theorem edP_E (hl : (E.length : Int) = wd * hi) (h0 : 0 ≤ k) (h1 : k < wd * hi) (hb : ¬ bordB wd hi wr (k % wd) (k / wd) = true) (h : edgesO wd hi wr E X Y) : edgesO wd hi wr (put E k v) X Y := fun hw j h2 h3 => by
  have := h hw j h2 h3
  subst hw
  unfold edgeB at this ⊢
  rw [el_put h0 (by omega) _ _ h2]
  split
  · rename_i e; subst e
    have hbf : bordB wd hi false (j % wd) (j / wd) = false := by simpa using hb
    rw [hbf] at this ⊢; exact this
  · exact this
theorem edP_X (hl : (X.length : Int) = wd * hi) (h0 : 0 ≤ k) (h1 : k < wd * hi) (hb : wr = true ∨ k / wd < hi - 1) (h : edgesO wd hi wr E X Y) : edgesO wd hi wr E (put X k v) Y := fun hw j h2 h3 => by
  have := h hw j h2 h3
  subst hw
  unfold edgeB at this ⊢
  rw [el_put h0 (by omega) _ _ h2]
  split
  · rename_i e; subst e
    have hbf : decide (j / wd = hi - 1) = false := decide_eq_false (by have := hb.resolve_left (by simp); omega)
    rw [hbf] at this ⊢; exact this
  · exact this
theorem edP_Y (hl : (Y.length : Int) = wd * hi) (h0 : 0 ≤ k) (h1 : k < wd * hi) (hb : wr = true ∨ k % wd < wd - 1) (h : edgesO wd hi wr E X Y) : edgesO wd hi wr E X (put Y k v) := fun hw j h2 h3 => by
  have := h hw j h2 h3
  subst hw
  unfold edgeB at this ⊢
  rw [el_put h0 (by omega) _ _ h2]
  split
  · rename_i e; subst e
    have hbf : decide (j % wd = wd - 1) = false := decide_eq_false (by have := hb.resolve_left (by simp); omega)
    rw [hbf] at this ⊢; exact this
  · exact this
theorem field_O {P L : List Nat} (hv : validS wd hi P L = true) (h1 : (E.length : Int) = wd * hi) (h2 : (X.length : Int) = wd * hi) (h3 : (Y.length : Int) = wd * hi) (h : edgesO wd hi wr E X Y) : fieldB wd hi wr P L E X Y = true := by
  cases wr with
  | true => exact field_wrap hv h1 h2 h3
  | false => exact field_yes hv h1 h2 h3 (h rfl)
end
end Go.Wv

/- Numbers narrowed; energies of quarters; peaks. -/
namespace Go.Wv
open Ieee
/-- 'float32(x)', up to payloads, where it does not overflow. -/
def narrow (x : Nat) : Nat := (floatToFloatBits .f64 x .f32).getD (qnan .f32)
def okN (x : Nat) : Bool := match double.read x with
  | .number s m p => !(single.read (single.write (.number s m p))).isInfinity
  | _ => true
section
variable {P : Program} {ρ : Env} {w : World} {d : Option Tmp} {ty : TypeId} {pos : String} {aft : Array Edge} {g : Option (Nat × Bool)} {x : Operand}
theorem run_narrow {b X : Nat} (hX : Cn .f64 b X) (hok : okN X = true) (w : World) : ∃ r n, (Conv.floatToFloat .f64 b .f32).run P w = .ok (.float .f32 r) (w.drewN n) ∧ Cn .f32 r (narrow X) := by
  obtain ⟨hX, _⟩ := hX
  by_cases hn : nanb .f64 b = true
  · -- a not-a-number
    have h' : (double.read b).isNaN = true := hn
    refine ⟨(Question.nanConv .f32 b).cut (w.tape w.drawn (Question.nanConv .f32 b)), 1, ?_, ?_, cut_lt32 _⟩
    · unfold Conv.floatToFloat
      rw [if_neg (by decide)]
      show (match double.read b with | .nan _ _ => _ | .infinity s => _ | .number s m e => _ : Sem Value).run P w = _
      cases hr : double.read b with
      | nan s t =>
        simp only [Sem.run_bind, run_choose (.nanConv .f32 b) rfl w]
        rfl
      | number s m p => rw [hr] at h'; cases h'
      | infinity s => rw [hr] at h'; cases h'
    · have hXn : nanb .f64 X = true := by rw [← hX, nanb_can]; exact hn
      have hX' : (double.read X).isNaN = true := hXn
      have hb : floatToFloatBits .f64 X .f32 = none := by
        unfold floatToFloatBits
        rw [if_neg (by decide)]
        show (match double.read X with | .nan _ _ => _ | .infinity s => _ | .number s m e => _) = _
        cases hr : double.read X with
        | nan s t => rfl
        | number s m p => rw [hr] at hX'; cases hX'
        | infinity s => rw [hr] at hX'; cases hX'
      unfold narrow; rw [hb]
      exact can_of_nan (nan_cut32 _)
  · have hn' : nanb .f64 b = false := by simpa using hn
    have hrd : double.read X = double.read b := by
      have := read_can (k := .f64) hn'
      rw [hX] at this; exact this
    cases hr : double.read b with
    | nan s t => unfold nanb at hn'; rw [show FloatKind.f64.format.read b = double.read b from rfl, hr] at hn'; cases hn'
    | infinity s =>
      have hb : floatToFloatBits .f64 X .f32 = some (single.write (.infinity s)) := by
        unfold floatToFloatBits
        rw [if_neg (by decide)]
        show (match double.read X with | .nan _ _ => none | .infinity s => some (single.write (.infinity s)) | .number s m e => if (single.read (single.write (.number s m e))).isInfinity then none else some (single.write (.number s m e))) = _
        rw [hrd, hr]
      refine ⟨_, 0, ?_, by unfold narrow; rw [hb]; exact ⟨can_of_not (b := single.write (.infinity s)) (nanb_write (k := .f32) (d := .infinity s) rfl) (single.write_lt _), single.write_lt _⟩⟩
      unfold Conv.floatToFloat
      rw [if_neg (by decide)]
      show (match double.read b with | .nan _ _ => _ | .infinity s => _ | .number s m e => _ : Sem Value).run P w = _
      rw [hr]; rfl
    | number s m p =>
      have hinf : (single.read (single.write (.number s m p))).isInfinity = false := by
        unfold okN at hok
        rw [hrd, hr] at hok
        simpa using hok
      have hb : floatToFloatBits .f64 X .f32 = some (single.write (.number s m p)) := by
        unfold floatToFloatBits
        rw [if_neg (by decide)]
        show (match double.read X with | .nan _ _ => none | .infinity s => some (single.write (.infinity s)) | .number s m e => if (single.read (single.write (.number s m e))).isInfinity then none else some (single.write (.number s m e))) = _
        rw [hrd, hr]; simp only [hinf]; rfl
      refine ⟨_, 0, ?_, by unfold narrow; rw [hb]; exact ⟨can_of_not (b := single.write (.number s m p)) (nanb_write (k := .f32) (d := .number s m p) rfl) (single.write_lt _), single.write_lt _⟩⟩
      unfold Conv.floatToFloat
      rw [if_neg (by decide)]
      show (match double.read b with | .nan _ _ => _ | .infinity s => _ | .number s m e => _ : Sem Value).run P w = _
      rw [hr]
      show (if (single.read (single.write (.number s m p))).isInfinity then _ else _ : Sem Value).run P w = _
      rw [hinf]; rfl
theorem n_narrow {S T : Nat} {b X : Nat} (hS : (P.underlying S).isSome = true) (hT : P.underlying T = some (.float .f32)) (hx : ev ρ x = .float .f64 b) (hX : Cn .f64 b X) (hok : okN X = true) :
    Yn P ρ ⟨d, .convert S T x, ty, pos, aft, g⟩ (fun v => ∃ r, v = .float .f32 r ∧ Cn .f32 r (narrow X)) w := by
  obtain ⟨r, n, hr, hc⟩ := run_narrow (P := P) hX hok w
  obtain ⟨u, hu⟩ := Option.isSome_iff_exists.1 hS
  refine ⟨_, n, ?_, r, rfl, hc⟩
  cases u <;> simp [execOp, convert, hx, run_underlying hu, run_underlying hT, hr]
end
/-- Some squares are added. -/
def sqT (S : Nat) (X : List Nat) : Nat → Nat
  | 0 => S
  | k + 1 => fop .add .f64 (sqT S X k) (fop .mul .f64 (widen (el X k)) (widen (el X k)))
theorem sqT_next {S : Nat} {X : List Nat} {k : Int} (h : 0 ≤ k) : fop .add .f64 (sqT S X k.toNat) (fop .mul .f64 (widen (el X k)) (widen (el X k))) = sqT S X (k + 1).toNat := by
  rw [show (k + 1).toNat = k.toNat + 1 by omega]
  simp only [sqT, Int.toNat_of_nonneg h]
def enT (E X Y : List Nat) : Nat := sqT (sqT (sqT 0 E E.length) X X.length) Y Y.length
theorem lpl64 : lpl .f64 = -1074 := by decide
theorem lpl32 : lpl .f32 = -149 := by decide
theorem widen_val {x : Nat} (h : fin .f32 x) : fin .f64 (widen x) ∧ val .f64 (widen x) = val .f32 x * 2 ^ 925 := by
  obtain ⟨s, m, p, h1, h2, h3⟩ := val_num h
  have h1' : single.read x = .number s m p := h1
  obtain ⟨hm, hp⟩ : m < 2 ^ 24 ∧ p ≤ 104 := by
    rcases read32 x with ⟨s', m', p', hr, hm, _, hp⟩ | ⟨s', hr⟩ | ⟨s', t', hr⟩
    · rw [hr] at h1'; injection h1' with _ e1 e2; exact ⟨by omega, by omega⟩
    · rw [hr] at h1'; cases h1'
    · rw [hr] at h1'; cases h1'
  rw [lpl32] at h2 h3
  have hbd : m * 2 ^ (p - lpl .f64).toNat ≤ 2 ^ emaxU .f64 := by
    rw [lpl64]
    calc m * 2 ^ (p - -1074).toNat ≤ 2 ^ 24 * 2 ^ (p - -1074).toNat := Nat.mul_le_mul_right _ (Nat.le_of_lt hm)
      _ = 2 ^ (24 + (p - -1074).toNat) := by rw [← Nat.pow_add]
      _ ≤ 2 ^ emaxU .f64 := Nat.pow_le_pow_right (by decide) (by show _ ≤ 2096; omega)
  obtain ⟨m', p', e1, e2, e3⟩ := nearest_val .f64 s (by rw [lpl64]; omega) hbd
  have hw : widen x = double.nearest s m p := by
    have hb : floatToFloatBits .f32 x .f64 = some (double.write (.number s m p)) := by
      unfold floatToFloatBits
      rw [if_neg (by decide)]
      show (match single.read x with | .nan _ _ => none | .infinity s => some (double.write (.infinity s)) | .number s m e => if (double.read (double.write (.number s m e))).isInfinity then none else some (double.write (.number s m e))) = _
      have e1' : double.read (double.write (.number s m p)) = .number s m' p' := e1
      rw [h1', ]; simp only [e1']; rfl
    unfold widen; rw [hb]; rfl
  have e1w : FloatKind.f64.format.read (widen x) = .number s m' p' := by rw [hw]; exact e1
  refine ⟨⟨_, _, _, e1w⟩, ?_⟩
  rw [val_of e1w, signed_sg, e3, h3, ← sg_pow, Wn_exact (k := .f64) (Nat.lt_trans hm (by decide)), lpl64, Nat.mul_assoc, ← Nat.pow_add 2 _ 925]
  have e9 : (p - -149).toNat + 925 = (p - -1074).toNat := by omega
  rw [e9]
/-- Quarters: what the numbers are in units of a quarter. -/
def qi (X : List Nat) (i : Int) : Int := val .f32 (el X i) / 2 ^ 147
theorem qi_val {b : Nat} {n i : Int} {X : List Nat} (h : gqL 147 b n X) (h0 : 0 ≤ i) (h1 : i < n) : val .f32 (el X i) = qi X i * 2 ^ 147 := by
  unfold qi; rw [Int.ediv_mul_cancel (h i h0 h1).2.1]
theorem qi_abs {n i : Int} {X : List Nat} (h : gqL 147 151 n X) (h0 : 0 ≤ i) (h1 : i < n) : (qi X i).natAbs ≤ 16 := by
  have e := qi_val h h0 h1
  have := (h i h0 h1).2.2
  rw [e, Int.natAbs_mul, Int.natAbs_pow, show (2 : Nat) ^ 151 = 16 * 2 ^ 147 from by rw [show (16 : Nat) = 2 ^ 4 by rfl, ← Nat.pow_add]] at this
  exact Nat.le_of_mul_le_mul_right this (Nat.two_pow_pos _)
/-- The sum of the squares. -/
def sQ (X : List Nat) : Nat → Int
  | 0 => 0
  | k + 1 => sQ X k + qi X k * qi X k
theorem sq_le {q : Int} (h : q.natAbs ≤ 16) : 0 ≤ q * q ∧ q * q ≤ 256 := by
  have e : q * q = ((q.natAbs * q.natAbs : Nat) : Int) := Int.natAbs_mul_self.symm
  have : q.natAbs * q.natAbs ≤ 16 * 16 := Nat.mul_le_mul h h
  omega
theorem sQ_b {n : Int} {X : List Nat} (h : gqL 147 151 n X) : ∀ k : Nat, (k : Int) ≤ n → 0 ≤ sQ X k ∧ sQ X k ≤ 256 * (k : Int)
  | 0, _ => by simp [sQ]
  | k + 1, hk => by
    have := sQ_b h k (by omega)
    have h2 := sq_le (qi_abs h (i := k) (by omega) (by omega))
    simp only [sQ]; omega
theorem sq_val {n : Int} {X : List Nat} {S : Nat} {s : Int} (h : gqL 147 151 n X) (hn : n ≤ 256) (hS : fin .f64 S) (hv : val .f64 S = s * 2 ^ 1070) (hs : 0 ≤ s ∧ s ≤ 200000) : ∀ k : Nat, (k : Int) ≤ n → fin .f64 (sqT S X k) ∧ val .f64 (sqT S X k) = (s + sQ X k) * 2 ^ 1070
  | 0, _ => by simp only [sqT, sQ, Int.add_zero]; exact ⟨hS, hv⟩
  | k + 1, hk => by
    obtain ⟨f0, v0⟩ := sq_val h hn hS hv hs k (by omega)
    have hq := qi_abs h (i := k) (by omega) (by omega)
    have hq2 := sq_le hq
    obtain ⟨fw, vw⟩ := widen_val (h (k : Int) (by omega) (by omega)).1
    rw [qi_val h (by omega) (by omega)] at vw
    have hb := sQ_b h k (by omega)
    generalize hqq : qi X (k : Int) = q at *
    have hexact : ∀ t : Int, 0 ≤ t → t ≤ 1000000 → WZ .f64 (t * 2 ^ 1070) = t * 2 ^ 1070 := fun t h0 h1 => WZ_exact2 (by show t.natAbs < 9007199254740992; omega)
    have hbig : ∀ t : Int, 0 ≤ t → t ≤ 1000000 → (t * 2 ^ 1070 : Int).natAbs ≤ 2 ^ emaxU .f64 := fun t h0 h1 =>
      abs_big (a := 20) (b := 1070) (by show t.natAbs ≤ 1048576; omega) (by decide)
    have hm := mul_val fw fw (Q := (q * q) * 2 ^ 1070) (by
      rw [vw, lpl64]
      show q * 2 ^ 147 * 2 ^ 925 * (q * 2 ^ 147 * 2 ^ 925) = q * q * 2 ^ 1070 * 2 ^ 1074
      rw [Int.mul_assoc q, ← Int.pow_add, Int.mul_assoc (q * q), ← Int.pow_add, Int.mul_assoc q, Int.mul_left_comm (2 ^ _) q, ← Int.mul_assoc q q, ← Int.pow_add]) (hbig _ hq2.1 (by omega))
    rw [hexact _ hq2.1 (by omega)] at hm
    have ha := add_val f0 hm.1 (by rw [v0, hm.2, ← Int.add_mul]; exact hbig _ (by omega) (by omega))
    rw [v0, hm.2, ← Int.add_mul, hexact _ (by omega) (by omega)] at ha
    refine ⟨ha.1, ?_⟩
    show val .f64 (fop .add .f64 (sqT S X k) (fop .mul .f64 (widen (el X k)) (widen (el X k)))) = (s + (sQ X k + qi X k * qi X k)) * 2 ^ 1070
    rw [ha.2, hqq, Int.add_assoc]
theorem cancel_I {x y : Int} {b : Nat} (h : x * 2 ^ b = y * 2 ^ b) : x = y := Int.eq_of_mul_eq_mul_right (Int.ne_of_gt (Int.pow_pos (by decide))) h
theorem cancel_pow {m s a b k : Nat} (h : m * 2 ^ (a + k) = s * 2 ^ (b + k)) : m * 2 ^ a = s * 2 ^ b := by
  rw [Nat.pow_add, Nat.pow_add, ← Nat.mul_assoc, ← Nat.mul_assoc] at h
  exact Nat.eq_of_mul_eq_mul_right (Nat.two_pow_pos k) h
theorem abs_pos {m s a b : Nat} (hm : m ≠ 0) (h : m * 2 ^ a = s * 2 ^ b) : 1 ≤ s := by
  rcases Nat.eq_zero_or_pos s with e | e
  · rw [e, Nat.zero_mul] at h
    rcases Nat.mul_eq_zero.1 h with h' | h'
    · exact absurd h' hm
    · exact absurd h' (Nat.ne_of_gt (Nat.two_pow_pos a))
  · exact e
theorem zero_abs {s b : Nat} (h : 0 = s * 2 ^ b) : s = 0 := by
  rcases Nat.mul_eq_zero.1 h.symm with h' | h'
  · exact h'
  · exact absurd h' (Nat.ne_of_gt (Nat.two_pow_pos b))
theorem small_pow {m s a b c : Nat} (hm : m < 2 ^ c) (hs : 1 ≤ s) (h : m * 2 ^ a = s * 2 ^ b) : b < c + a := by
  apply Nat.not_le.1
  intro hle
  have a1 : 2 ^ b ≤ s * 2 ^ b := Nat.le_mul_of_pos_left _ hs
  have a2 : m * 2 ^ a < 2 ^ c * 2 ^ a := Nat.mul_lt_mul_of_pos_right hm (Nat.two_pow_pos _)
  rw [← Nat.pow_add] at a2
  have a3 : 2 ^ (c + a) ≤ 2 ^ b := Nat.pow_le_pow_right (by decide) hle
  omega
/-- A whole number of sixteenths is narrowed exactly. -/
theorem narrow_val {x : Nat} {S : Int} (hf : fin .f64 x) (hv : val .f64 x = S * 2 ^ 1070) (h0 : 0 ≤ S) (h1 : S ≤ 1000000) : okN x = true ∧ fin .f32 (narrow x) ∧ val .f32 (narrow x) = S * 2 ^ 145 := by
  obtain ⟨s, m, p, e1, e2, e3⟩ := val_num hf
  rw [lpl64] at e2 e3
  have e1' : double.read x = .number s m p := e1
  have habs : m * 2 ^ (p - -1074).toNat = S.natAbs * 2 ^ 1070 := by
    have := congrArg Int.natAbs (e3.symm.trans hv)
    rw [sg_abs, abs_pow2 S 1070] at this; exact this
  have key : ∃ m' p', single.read (single.write (.number s m p)) = .number s m' p' ∧ sg s (m' * 2 ^ (p' - lpl .f32).toNat) = S * 2 ^ 145 := by
    by_cases hm0 : m = 0
    · subst hm0
      have hS0 : S = 0 := by
        rw [Nat.zero_mul] at habs
        have := zero_abs (b := 1070) habs
        omega
      obtain ⟨a, b, c1, c2, c3⟩ := nearest_val .f32 s (m := 0) (p := lpl .f32) (Int.le_refl _) (by simp)
      refine ⟨a, b, ?_, ?_⟩
      · rw [← c1]; show single.read (single.nearest s 0 p) = single.read (single.nearest s 0 _); simp [Format.nearest]
      · rw [c3, Wn_zero, hS0]; cases s <;> simp [sg]
    · have hp : -149 ≤ p := by
        have hm53 : m < 2 ^ 53 := by
          have hmk : FloatKind.f64.format.read x = mkR double (x / double.signWeight % 2 == 1) (x % double.signWeight) := rfl
          rw [e1] at hmk
          unfold mkR at hmk
          have e5 : double.binade = 2 ^ 52 := rfl
          have e6 : (2 : Nat) ^ 53 = 2 * 2 ^ 52 := by rw [Nat.pow_succ, Nat.mul_comm]
          split at hmk
          · injection hmk with _ e _; omega
          · split at hmk
            · injection hmk with _ e _
              have := Nat.mod_lt (x % double.signWeight) (show 0 < double.binade by rw [e5]; exact Nat.two_pow_pos _)
              omega
            · split at hmk <;> cases hmk
        apply Int.not_lt.1
        intro hlt
        have hSpos : 1 ≤ S.natAbs := abs_pos hm0 habs
        have := small_pow (b := 1070) hm53 hSpos habs
        omega
      have hv2 : m * 2 ^ (p - lpl .f32).toNat = S.natAbs * 2 ^ 145 := by
        refine cancel_pow (k := 925) ?_
        rw [lpl32, show (p - -149).toNat + 925 = (p - -1074).toNat by omega, show 145 + 925 = 1070 from rfl]
        exact habs
      obtain ⟨a, b, c1, c2, c3⟩ := nearest_val .f32 s (m := m) (p := p) (by rw [lpl32]; exact hp) (by
        rw [hv2]
        calc S.natAbs * 2 ^ 145 ≤ 2 ^ 20 * 2 ^ 145 := Nat.mul_le_mul_right _ (by show S.natAbs ≤ 1048576; omega)
          _ = 2 ^ 165 := by rw [← Nat.pow_add]
          _ ≤ 2 ^ emaxU .f32 := Nat.pow_le_pow_right (by decide) (by decide))
      refine ⟨a, b, c1, ?_⟩
      rw [c3, ← Wn_shift, hv2, Wn_shift, Wn_exact (k := .f32) (show S.natAbs < 16777216 by omega)]
      have hs : sg s (S.natAbs * 2 ^ 1070) = S * 2 ^ 1070 := by rw [← habs]; exact e3.symm.trans hv
      rw [sg_pow s S.natAbs 1070] at hs
      rw [sg_pow s S.natAbs 145, cancel_I (b := 1070) hs]
  obtain ⟨m', p', c1, c2⟩ := key
  have hb : floatToFloatBits .f64 x .f32 = some (single.write (.number s m p)) := by
    unfold floatToFloatBits
    rw [if_neg (by decide)]
    show (match double.read x with | .nan _ _ => none | .infinity s => some (single.write (.infinity s)) | .number s m e => if (single.read (single.write (.number s m e))).isInfinity then none else some (single.write (.number s m e))) = _
    rw [e1']; simp only [c1]; rfl
  have hw : narrow x = single.write (.number s m p) := by unfold narrow; rw [hb]; rfl
  have hrd : FloatKind.f32.format.read (narrow x) = .number s m' p' := by rw [hw]; exact c1
  refine ⟨?_, ⟨_, _, _, hrd⟩, ?_⟩
  · unfold okN; rw [e1']; simp only [c1]; rfl
  · rw [val_of hrd, signed_sg, c2]
end Go.Wv

/- Waves: what the functions compute. -/
namespace Go.Wv
open Ieee
def itv (x : Nat) : Int := (floatToIntVal .f64 x .i64).getD 0
def okI (x : Nat) : Bool := !nanb .f64 x && (floatToIntVal .f64 x .i64).isSome
/-- A number of turns without whole ones. -/
def frT (x : Nat) : Nat := if flt .f64 (fop .sub .f64 x (FloatKind.nearest .f64 (itv x))) 0 = true then fop .add .f64 (fop .sub .f64 x (FloatKind.nearest .f64 (itv x))) 4607182418800017408 else fop .sub .f64 x (FloatKind.nearest .f64 (itv x))
/-- The numbers 8, 7, 6, ..; the polynomial. -/
def kT : Nat → Nat
  | 0 => 4620693217682128896
  | i + 1 => fop .sub .f64 (kT i) 4607182418800017408
def pT (u : Nat) : Nat → Nat
  | 0 => 4607182418800017408
  | i + 1 => fop .sub .f64 4607182418800017408 (fop .quo .f64 (fop .mul .f64 u (pT u i)) (fop .mul .f64 (fop .mul .f64 4611686018427387904 (kT i)) (fop .add .f64 (fop .mul .f64 4611686018427387904 (kT i)) 4607182418800017408)))
def folT (f : Nat) : Nat := if fgt .f64 f 4598175219545276416 = true then fop .sub .f64 4602678819172646912 f else f
def polT (f : Nat) : Nat := fop .mul .f64 (fop .mul .f64 f 4618760256179416344) (pT (fop .mul .f64 (fop .mul .f64 f 4618760256179416344) (fop .mul .f64 f 4618760256179416344)) 8)
def sinT (x : Nat) : Nat := if fge .f64 (frT x) 4602678819172646912 = true then fneg .f64 (polT (folT (fop .sub .f64 (frT x) 4602678819172646912))) else polT (folT (frT x))
def absT (x : Nat) : Nat := Int.toNat (IntKind.u64.wrap ((BitVec.ofInt IntKind.u64.bits (x : Int) &&& ~~~ BitVec.ofInt IntKind.u64.bits 9223372036854775808).toNat : Int))
def sinOK (x : Nat) : Bool := finB x && !fge .f64 (can .f64 (absT (widen x))) 4841369599423283200 && okI (widen x) && okN (sinT (widen x))
def SN (x : Nat) : Nat := narrow (sinT (widen x))
def tonA (tn : Nat) (t : Int) : Nat := fop .mul .f64 (FloatKind.nearest .f64 t) (widen tn)
def tonOK (tn : Nat) (t : Int) : Bool := okN (tonA tn t) && sinOK (narrow (tonA tn t))
def tonT (tn sz : Nat) (t : Int) : Nat := fop .mul .f32 sz (SN (narrow (tonA tn t)))
def burA (t ln : Int) : Nat := fop .add .f32 1048576000 (fop .quo .f32 (FloatKind.nearest .f32 t) (FloatKind.nearest .f32 ln))
def burT (t ln : Int) : Nat := fop .sub .f32 1056964608 (fop .quo .f32 (SN (burA t ln)) 1073741824)
def noiT (sd st : Int) : Nat := fop .quo .f32 (fop .sub .f32 (FloatKind.nearest .f32 (nextS (nextS ((sd + 40503 * st) % 2147483648)) / 65536)) 1182793728) 1182793728
def wavT (kd tt ln : Int) (tn sz : Nat) (sd st : Int) : Nat :=
  if st - tt < 0 ∨ (ln ≤ st - tt ∧ kd ≠ 1 ∧ kd ≠ 3) then 0
  else if kd = 0 then sz
  else if kd = 1 then tonT tn sz (st - tt)
  else if kd = 2 then fop .mul .f32 (tonT tn sz (st - tt)) (burT (st - tt) ln)
  else if kd = 3 then (if ln ≤ st - tt then sz else fop .mul .f32 sz (fop .quo .f32 (FloatKind.nearest .f32 (st - tt + 1)) (FloatKind.nearest .f32 ln)))
  else fop .mul .f32 sz (noiT sd st)
/-- Nothing overflows. -/
def wavOK (kd tt ln : Int) (tn : Nat) (st : Int) : Prop := 0 ≤ st - tt → (kd = 1 → tonOK tn (st - tt) = true) ∧ (kd = 2 → st - tt < ln → tonOK tn (st - tt) = true ∧ sinOK (burA (st - tt) ln) = true)
def ticksB (a n : Int) : Bool := isTick a && within n 0 64 && (decide (n = 0) || isTick (a + n - 1))
theorem kT_ge : ∀ i : Nat, i < 8 → fge .f64 (kT i) 4607182418800017408 = true := by decide +kernel
theorem kT_no : fge .f64 (kT 8) 4607182418800017408 = false := by decide +kernel
def kidx (x : Nat) : Nat := ((floatToIntVal .f64 x .i64).getD 0).toNat
theorem kidx_kT : ∀ i : Nat, i < 9 → kidx (kT i) = 8 - i := by decide +kernel
def kmea (v : Value) : Nat := match v with | .float .f64 b => kidx (can .f64 b) | _ => 0
theorem finB_fin {x : Nat} (h : finB x = true) : nanb .f32 x = false := finB_not h
section
variable {P : Program} {ρ : Env} {w : World} {d : Option Tmp} {ty : TypeId} {pos : String} {aft : Array Edge} {g : Option (Nat × Bool)} {x y : Operand} {K : Value → World → Prop}
theorem can_eq {k : FloatKind} {b X : Nat} (hX : Cn k b X) (hn : nanb k X = false) : b = X := by
  obtain ⟨h, hl⟩ := hX
  have h' : nanb k b = false := by rw [← h, nanb_can] at hn; exact hn
  rw [← h, can_of_not h' hl]
theorem y_fi {S T : Nat} {b X : Nat} (hS : (P.underlying S).isSome = true) (hT : P.underlying T = some (.int .i64)) (hx : ev ρ x = .float .f64 b) (hX : Cn .f64 b X) (hok : okI X = true) :
    Yv P ρ ⟨d, .convert S T x, ty, pos, aft, g⟩ (.int .i64 (itv X)) w := by
  simp only [okI, Bool.and_eq_true, Bool.not_eq_true'] at hok
  obtain rfl := can_eq hX hok.1
  obtain ⟨n, hn⟩ := Option.isSome_iff_exists.1 hok.2
  have := run_convert_float_int (P := P) w S T .f64 .i64 b n hS hT hn
  have e : itv b = n := by unfold itv; rw [hn]; rfl
  rw [e]
  simp [Yv, execOp, hx, this]
theorem y_andn {a b : Int} {T U : Nat} (hx : ev ρ x = .int .u64 a) (hy : ev ρ y = .int .u64 b) : Yv P ρ ⟨d, .binOp .andNot T x y U, ty, pos, aft, g⟩ (.int .u64 (IntKind.u64.wrap ((BitVec.ofInt IntKind.u64.bits a &&& ~~~ BitVec.ofInt IntKind.u64.bits b).toNat : Int))) w := by
  simp [Yv, execOp, eqGuard, hx, hy, binOp, Op.intBits]
def from64B (P : Program) (f : Nat) : Prop := ∃ fn, P.funcs[f]? = some fn ∧ (fn.name == "runtime.NumGoroutine") = false ∧ fn.body.isNone = true ∧ (Extern.findNext fn).isNone = true ∧ Extern.find fn = some Extern.MathFloatBits.float64frombits
theorem k_from64 {f : Nat} {as : List Operand} {ts : Array TypeId} {n : Int} (h : from64B P f) (ha : as.map (ev ρ) = [.int .u64 n]) (k : K (.float .f64 n.toNat) w) :
    opk P ⟨d, .call { callee := .value (.func f), args := as.toArray, argTypes := ts }, ty, pos, aft, g⟩ ρ w K := by
  obtain ⟨fn, hf, h1, h2, h3, h4⟩ := h
  have h3' : Extern.findNext fn = none := by simpa using h3
  have he : Extern.MathFloatBits.float64frombits #[.int .u64 n] = pure (.float .f64 n.toNat) := rfl
  have hr : (callFunc f #[.int .u64 n]).run P w = .ok (.value (.float .f64 n.toNat)) w := by
    have n1 : ¬ fn.name = "runtime.NumGoroutine" := by simpa using h1
    have n2 : fn.body = none := by simpa using h2
    simp [callFunc, hf, n1, n2, h3', h4, he]
  have hm : as.toArray.map (ev ρ) = #[.int .u64 n] := by rw [List.map_toArray, ha]
  unfold opk
  simp only [execOp, resolve, Sem.run_bind, Sem.run_pure, Deferred.ofValue, ev, Result.andThen_ok, invoke, Array.empty_append, Array.append_empty, hm, hr]
  exact k
theorem u64_wid (n : Int) : (IntKind.u64.wrap n).toNat < wid .f64 := by
  show _ < 18446744073709551616
  rw [show IntKind.u64.wrap n = n % 18446744073709551616 from rfl]
  omega
end
end Go.Wv

/- Waves of small numbers: tables; sizes. -/
namespace Go.Wv
open Ieee
def gqb (M b x : Nat) : Bool := finb .f32 x && decide ((2 : Int) ^ M ∣ val .f32 x) && decide ((val .f32 x).natAbs ≤ 2 ^ b)
theorem gq_gqb {M b x : Nat} (h : gqb M b x = true) : gq M b x := gq_dec h
/-- Turns in sixteenths, sizes in halves. -/
def twT (u : Int) : Nat := fop .quo .f32 (FloatKind.nearest .f32 (u - 4)) 1098907648
def szT (u : Int) : Nat := fop .quo .f32 (FloatKind.nearest .f32 (u - 4)) 1073741824
def r9 : List Int := [0, 1, 2, 3, 4, 5, 6, 7, 8]
theorem mem_r9 {u : Int} (h0 : 0 ≤ u) (h1 : u < 9) : u ∈ r9 := by simp [r9]; omega
theorem sz_tab : ∀ u ∈ r9, gqb 148 150 (szT u) = true := by decide +kernel
theorem tw_fin : ∀ u ∈ r9, finB (twT u) = true := by decide +kernel
def tonChk (u t : Int) : Bool := tonOK (twT u) t && gqb 100 149 (SN (narrow (tonA (twT u) t)))
theorem ton_tab1 : (([0, 1, 2, 3, 4, 5, 6] : List Int).all fun t => r9.all fun u => tonChk u t) = true := by decide +kernel
theorem ton_tab2 : (([7, 8, 9, 10, 11, 12, 13] : List Int).all fun t => r9.all fun u => tonChk u t) = true := by decide +kernel
theorem ton_tab3 : (([14, 15, 16, 17, 18, 19, 20] : List Int).all fun t => r9.all fun u => tonChk u t) = true := by decide +kernel
theorem ton_tab4 : (([21, 22, 23, 24, 25, 26] : List Int).all fun t => r9.all fun u => tonChk u t) = true := by decide +kernel
theorem ton_chk {u t : Int} (h0 : 0 ≤ u) (h1 : u < 9) (h2 : 0 ≤ t) (h3 : t ≤ 26) : tonChk u t = true := by
  have hu := mem_r9 h0 h1
  rcases (by omega : t ≤ 6 ∨ (7 ≤ t ∧ t ≤ 13) ∨ (14 ≤ t ∧ t ≤ 20) ∨ 21 ≤ t) with h | h | h | h
  · exact List.all_eq_true.1 (List.all_eq_true.1 ton_tab1 t (by simp; omega)) u hu
  · exact List.all_eq_true.1 (List.all_eq_true.1 ton_tab2 t (by simp; omega)) u hu
  · exact List.all_eq_true.1 (List.all_eq_true.1 ton_tab3 t (by simp; omega)) u hu
  · exact List.all_eq_true.1 (List.all_eq_true.1 ton_tab4 t (by simp; omega)) u hu
theorem bur_tab : (([1, 2, 3, 4, 5, 6, 7, 8] : List Int).all fun ln => ([0, 1, 2, 3, 4, 5, 6, 7] : List Int).all fun t => decide (ln ≤ t) || (sinOK (burA t ln) && gqb 90 149 (burT t ln))) = true := by decide +kernel
theorem ramp_tab : (([1, 2, 3, 4, 5, 6, 7, 8] : List Int).all fun ln => ([0, 1, 2, 3, 4, 5, 6, 7] : List Int).all fun t => decide (ln ≤ t) || gqb 100 149 (fop .quo .f32 (FloatKind.nearest .f32 (t + 1)) (FloatKind.nearest .f32 ln))) = true := by decide +kernel
theorem bur_chk {t ln : Int} (h0 : 0 ≤ t) (h1 : t < ln) (h2 : ln ≤ 8) : sinOK (burA t ln) = true ∧ gqb 90 149 (burT t ln) = true := by
  have := List.all_eq_true.1 (List.all_eq_true.1 bur_tab ln (by simp; omega)) t (by simp; omega)
  rw [decide_eq_false (by omega), Bool.false_or, Bool.and_eq_true] at this
  exact this
theorem ramp_chk {t ln : Int} (h0 : 0 ≤ t) (h1 : t < ln) (h2 : ln ≤ 8) : gqb 100 149 (fop .quo .f32 (FloatKind.nearest .f32 (t + 1)) (FloatKind.nearest .f32 ln)) = true := by
  have := List.all_eq_true.1 (List.all_eq_true.1 ramp_tab ln (by simp; omega)) t (by simp; omega)
  rw [decide_eq_false (by omega), Bool.false_or] at this
  exact this
/-- Whole numbers are exact. -/
theorem near_val {n : Int} (h : n.natAbs < 2 ^ 24) : fin .f32 (FloatKind.nearest .f32 n) ∧ val .f32 (FloatKind.nearest .f32 n) = n * 2 ^ 149 := by
  have e : FloatKind.nearest .f32 n = single.nearest (decide (n < 0)) n.natAbs 0 := rfl
  obtain ⟨a, b⟩ := write_val .f32 (s := decide (n < 0)) (m := n.natAbs) (p := 0) (by rw [lpl32]; decide) (by
    rw [lpl32]
    calc n.natAbs * 2 ^ (0 - -149 : Int).toNat ≤ 2 ^ 24 * 2 ^ 149 := Nat.mul_le_mul_right _ (Nat.le_of_lt h)
      _ = 2 ^ 173 := by rw [← Nat.pow_add]
      _ ≤ 2 ^ emaxU .f32 := Nat.pow_le_pow_right (by decide) (by decide))
  rw [e]
  refine ⟨a, b.trans ?_⟩
  rw [lpl32, sg_pow, sg_of]
  exact WZ_exact2 (k := .f32) h
/-- A whole number, divided by 16384. -/
theorem quo_val {x : Nat} {e : Int} (hf : fin .f32 x) (hv : val .f32 x = e * 2 ^ 149) (he : e.natAbs ≤ 16384) : fin .f32 (fop .quo .f32 x 1182793728) ∧ val .f32 (fop .quo .f32 x 1182793728) = e * 2 ^ 135 := by
  obtain ⟨s, m, i, h1, h2, h3⟩ := val_num hf
  rw [lpl32] at h2 h3
  have hc : FloatKind.f32.format.read 1182793728 = .number false 8388608 (-9) := by kernel_rfl
  have hm : m < 2 ^ 24 := by
    rcases read32 x with ⟨s', m', p', hr, hm, _⟩ | ⟨s', hr⟩ | ⟨s', t', hr⟩
    · have h1' : single.read x = .number s m i := h1
      rw [hr] at h1'; injection h1' with _ e _; omega
    · have h1' : single.read x = .number s m i := h1
      rw [hr] at h1'; cases h1'
    · have h1' : single.read x = .number s m i := h1
      rw [hr] at h1'; cases h1'
  have habs : m * 2 ^ (i - -149).toNat = e.natAbs * 2 ^ 149 := by
    have := congrArg Int.natAbs (h3.symm.trans hv)
    rw [sg_abs, Int.natAbs_mul, Int.natAbs_pow] at this; exact this
  have hlog := log2_lt24 hm
  have hq : fop .quo .f32 x 1182793728 = single.nearest s (m * 2 ^ (26 - m.log2)) (i - 40 + m.log2) := by
    unfold fop floatBits
    show (((FloatKind.f32.format.read x).quotient 25 (FloatKind.f32.format.read 1182793728)).map single.write).getD _ = _
    rw [h1, hc]
    have hl : (8388608 : Nat).log2 = 23 := by decide +kernel
    simp only [Datum.quotient, hl]
    rw [if_neg (by decide)]
    have e1 : 25 + 23 - m.log2 = 25 - m.log2 + 23 := by omega
    have e2 : m <<< (25 + 23 - m.log2) = m * 2 ^ (25 - m.log2) * 8388608 := by rw [Nat.shiftLeft_eq, e1, Nat.pow_add, ← Nat.mul_assoc]
    rw [e2, Nat.mul_div_cancel _ (by decide), Nat.mul_mod_left]
    simp only [Option.map_some, Option.getD_some, Bool.xor_false]
    show single.nearest s _ _ = _
    congr 1
    · show 2 * (m * 2 ^ (25 - m.log2)) + 0 = _
      rw [Nat.add_zero, show 26 - m.log2 = 25 - m.log2 + 1 by omega, Nat.pow_succ, Nat.mul_comm 2, Nat.mul_assoc]
    · omega
  rw [hq]
  by_cases h0 : m = 0
  · have he0 : e = 0 := by
      rw [h0, Nat.zero_mul] at habs
      rcases Nat.mul_eq_zero.1 habs.symm with h | h
      · omega
      · exact absurd h (Nat.ne_of_gt (Nat.two_pow_pos _))
    have : single.nearest s (m * 2 ^ (26 - m.log2)) (i - 40 + m.log2) = single.nearest s 0 (lpl .f32) := by rw [h0, Nat.zero_mul]; simp [Format.nearest]
    rw [this]
    obtain ⟨a, b⟩ := write_val .f32 (s := s) (m := 0) (p := lpl .f32) (Int.le_refl _) (by simp)
    refine ⟨a, b.trans ?_⟩
    rw [he0, Nat.zero_mul, Int.zero_mul]; cases s <;> simp [sg, WZ_zero]
  · rw [nearest_shift single s m _ _ h0]
    have hi : -24 < i := by
      have hpos : 1 ≤ e.natAbs := by
        rcases Nat.eq_zero_or_pos e.natAbs with h | h
        · rw [h, Nat.zero_mul] at habs
          rcases Nat.mul_eq_zero.1 habs with h' | h'
          · exact absurd h' h0
          · exact absurd h' (Nat.ne_of_gt (Nat.two_pow_pos _))
        · exact h
      apply Int.not_le.1
      intro hle
      have a1 : 2 ^ 149 ≤ e.natAbs * 2 ^ 149 := Nat.le_mul_of_pos_left _ hpos
      have a2 : m * 2 ^ (i - -149).toNat < 2 ^ 24 * 2 ^ (i - -149).toNat := Nat.mul_lt_mul_of_pos_right hm (Nat.two_pow_pos _)
      rw [← Nat.pow_add] at a2
      have a3 : 2 ^ (24 + (i - -149).toNat) ≤ 2 ^ 149 := Nat.pow_le_pow_right (by decide) (by omega)
      omega
    have hp : i - 40 + (m.log2 : Int) + ((26 - m.log2 : Nat) : Int) = i - 14 := by omega
    rw [hp]
    have hmag : m * 2 ^ (i - 14 - lpl .f32).toNat = e.natAbs * 2 ^ 135 := by
      rw [lpl32]
      apply Nat.eq_of_mul_eq_mul_right (Nat.two_pow_pos 14)
      rw [Nat.mul_assoc, ← Nat.pow_add, show (i - 14 - -149).toNat + 14 = (i - -149).toNat by omega, Nat.mul_assoc, ← Nat.pow_add]
      exact habs
    obtain ⟨a, b⟩ := write_val .f32 (s := s) (m := m) (p := i - 14) (by rw [lpl32]; omega) (by
      rw [hmag]
      calc e.natAbs * 2 ^ 135 ≤ 2 ^ 14 * 2 ^ 135 := Nat.mul_le_mul_right _ he
        _ = 2 ^ 149 := by rw [← Nat.pow_add]
        _ ≤ 2 ^ emaxU .f32 := Nat.pow_le_pow_right (by decide) (by decide))
    refine ⟨a, b.trans ?_⟩
    rw [hmag]
    have hs : sg s (e.natAbs * 2 ^ 149) = e * 2 ^ 149 := by rw [← habs]; exact h3.symm.trans hv
    rw [sg_pow] at hs ⊢
    have := Int.eq_of_mul_eq_mul_right (Int.ne_of_gt (Int.pow_pos (by decide))) hs
    rw [this]
    exact WZ_exact2 (k := .f32) (show e.natAbs < 16777216 by omega)
theorem fin_16k : fin .f32 1182793728 ∧ val .f32 1182793728 = 16384 * 2 ^ 149 := ⟨fin_finb (by decide +kernel), by decide +kernel⟩
theorem noi_gq (sd st : Int) : gq 135 149 (noiT sd st) := by
  unfold noiT
  generalize hd : nextS (nextS ((sd + 40503 * st) % 2147483648)) / 65536 = d
  have hb : 0 ≤ d ∧ d ≤ 32767 := by
    subst hd
    unfold nextS
    generalize (1103515245 * ((sd + 40503 * st) % 2147483648) + 12345) % 2147483648 = q
    have h1 := Int.emod_nonneg (1103515245 * q + 12345) (show (2147483648 : Int) ≠ 0 by decide)
    have h2 := Int.emod_lt_of_pos (1103515245 * q + 12345) (show (0 : Int) < 2147483648 by decide)
    omega
  obtain ⟨f1, v1⟩ := near_val (n := d) (by show d.natAbs < 16777216; omega)
  have hs := sub_val f1 fin_16k.1 (by
    rw [v1, fin_16k.2, ← Int.sub_mul, Int.natAbs_mul, Int.natAbs_pow]
    calc (d - 16384).natAbs * 2 ^ 149 ≤ 2 ^ 14 * 2 ^ 149 := Nat.mul_le_mul_right _ (by show _ ≤ 16384; omega)
      _ = 2 ^ 163 := by rw [← Nat.pow_add]
      _ ≤ 2 ^ emaxU .f32 := Nat.pow_le_pow_right (by decide) (by decide))
  rw [v1, fin_16k.2, ← Int.sub_mul, WZ_exact2 (k := .f32) (show (d - 16384).natAbs < 16777216 by omega)] at hs
  have hq := quo_val hs.1 hs.2 (by omega)
  refine ⟨hq.1, by rw [hq.2]; exact Int.dvd_mul_left _ _, ?_⟩
  rw [hq.2, Int.natAbs_mul, Int.natAbs_pow, show (2 : Nat) ^ 149 = 2 ^ 14 * 2 ^ 135 from by rw [← Nat.pow_add]]
  exact Nat.mul_le_mul_right _ (by show _ ≤ 16384; omega)
section
variable {kd tt ln u v sd st : Int}
theorem sz_gq (h0 : 0 ≤ v) (h1 : v < 9) : gq 148 150 (szT v) := gq_gqb (sz_tab v (mem_r9 h0 h1))
theorem ton_gq (hu : 0 ≤ u ∧ u < 9) (hv : 0 ≤ v ∧ v < 9) {t : Int} (h0 : 0 ≤ t) (h1 : t ≤ 26) : gq 99 150 (tonT (twT u) (szT v) t) := by
  have hc := ton_chk hu.1 hu.2 h0 h1
  unfold tonChk at hc
  rw [Bool.and_eq_true] at hc
  exact (gq_mul (sz_gq hv.1 hv.2) (gq_gqb hc.2) (by omega) (by omega) (by omega)).1
theorem wav_ok (hu : 0 ≤ u ∧ u < 9) (hln : ln ≤ 8) (h : st - tt ≤ 26) : wavOK kd tt ln (twT u) st := fun h0 => by
  have hc := ton_chk hu.1 hu.2 h0 h
  unfold tonChk at hc
  rw [Bool.and_eq_true] at hc
  exact ⟨fun _ => hc.1, fun _ h1 => ⟨hc.1, (bur_chk h0 h1 hln).1⟩⟩
/-- No value is greater than 2. -/
theorem wav_gq (hu : 0 ≤ u ∧ u < 9) (hv : 0 ≤ v ∧ v < 9) (hln : 1 ≤ ln ∧ ln ≤ 8) (h : st - tt ≤ 26) : gq 0 150 (wavT kd tt ln (twT u) (szT v) sd st) := by
  have hz := sz_gq hv.1 hv.2
  unfold wavT
  split
  · exact ⟨fin_zero, by rw [val_zero]; exact Int.dvd_zero _, by rw [val_zero]; exact Nat.zero_le _⟩
  · rename_i hc
    have h0 : 0 ≤ st - tt := by omega
    split
    · exact gq_mono hz (by omega) (by omega)
    · split
      · exact gq_mono (ton_gq hu hv h0 h) (by omega) (by omega)
      · rename_i hk0 hk1
        split
        · rename_i hk
          have hlt : st - tt < ln := by omega
          exact gq_mono (gq_mul (ton_gq hu hv h0 h) (gq_gqb (bur_chk h0 hlt hln.2).2) (by omega) (by omega) (by omega)).1 (by omega) (by omega)
        · split
          · split
            · exact gq_mono hz (by omega) (by omega)
            · rename_i hlt
              exact gq_mono (gq_mul hz (gq_gqb (ramp_chk h0 (by omega) hln.2)) (by omega) (by omega) (by omega)).1 (by omega) (by omega)
          · exact gq_mono (gq_mul hz (noi_gq sd st) (by omega) (by omega) (by omega)).1 (by omega) (by omega)
theorem cast_pow2 (n : Nat) : ((2 ^ n : Nat) : Int) = 2 ^ n := by rw [Int.natCast_pow]; rfl
theorem over_tab : finb .f64 4611688270227201589 && finb .f64 13835060307081977397 && decide (2 ^ 1075 ≤ val .f64 4611688270227201589) && decide (val .f64 13835060307081977397 ≤ -2 ^ 1075) = true := by decide +kernel
theorem not_over {x : Nat} (h : gq 0 150 x) : ¬ fgt .f64 (widen x) 4611688270227201589 = true ∧ ¬ flt .f64 (widen x) 13835060307081977397 = true := by
  have ht := over_tab
  simp only [Bool.and_eq_true, decide_eq_true_eq] at ht
  obtain ⟨⟨⟨f1, f2⟩, v1⟩, v2⟩ := ht
  obtain ⟨fw, vw⟩ := widen_val h.1
  have hb : (val .f64 (widen x)).natAbs ≤ 2 ^ 1075 := by
    rw [vw]; exact abs_big (a := 150) (b := 925) (E := 1075) h.2.2 (by decide)
  rw [fgt_val fw (fin_finb f1), flt_val fw (fin_finb f2)]
  have e := cast_pow2 1075
  generalize (2 : Int) ^ 1075 = c at *
  generalize (2 : Nat) ^ 1075 = c' at *
  constructor
  · intro hh; have := of_decide_eq_true hh; omega
  · intro hh; have := of_decide_eq_true hh; omega
theorem wav_early (h : st - tt < 0) {tn sz : Nat} : wavT kd tt ln tn sz sd st = 0 := by unfold wavT; rw [if_pos (.inl h)]
theorem wav_later {y : Int} {tn sz : Nat} (hk : kd ≠ 4) (h0 : 0 ≤ kd) (h4 : kd ≤ 4) : wavT kd (tt + y) ln tn sz sd (st + y) = wavT kd tt ln tn sz sd st := by
  unfold wavT
  rw [show st + y - (tt + y) = st - tt by omega]
  split
  · rfl
  · split
    · rfl
    · split
      · rfl
      · split
        · rfl
        · split
          · rfl
          · omega
theorem wav_pulse {tn sz : Nat} (h0 : 0 ≤ st - tt) (h1 : st - tt < ln) (hk : kd = 0) : wavT kd tt ln tn sz sd st = sz := by
  unfold wavT; rw [if_neg (by omega), if_pos hk]
theorem wav_ramp {tn sz : Nat} (h0 : 0 ≤ st - tt) (h1 : ln ≤ st - tt) (hk : kd = 3) : wavT kd tt ln tn sz sd st = sz := by
  subst hk
  unfold wavT; rw [if_neg (by omega), if_neg (by omega), if_neg (by omega), if_neg (by omega), if_pos rfl, if_pos h1]
end
section
variable {i r r2 : Nat}
theorem kT_lt (h1 : i ≤ 8) (c : fge .f64 (kT i) 4607182418800017408 = true) : i < 8 := by
  rcases Nat.lt_or_ge i 8 with h | h
  · exact h
  · have : i = 8 := by omega
    subst this; rw [kT_no] at c; cases c
theorem kT_end (h1 : i ≤ 8) (c : ¬ fge .f64 (kT i) 4607182418800017408 = true) : i = 8 := by
  rcases Nat.lt_or_ge i 8 with h | h
  · exact absurd (kT_ge i h) c
  · omega
theorem kidx_step (h1 : Cn .f64 r (kT i)) (h2 : Cn .f64 r2 (fop .sub .f64 (kT i) 4607182418800017408)) (hi : i < 8) : kidx (can .f64 r2) < kidx (can .f64 r) := by
  rw [h1.1, h2.1, kidx_kT i (by omega), show fop .sub .f64 (kT i) 4607182418800017408 = kT (i + 1) from rfl, kidx_kT (i + 1) (by omega)]; omega
end
theorem sinOK_all {x : Nat} (h : sinOK x = true) : finB x = true ∧ ¬ fge .f64 (can .f64 (absT (widen x))) 4841369599423283200 = true ∧ okI (widen x) = true ∧ okN (sinT (widen x)) = true ∧ nanb .f64 (widen x) = false := by
  simp only [sinOK, Bool.and_eq_true, Bool.not_eq_true'] at h
  exact ⟨h.1.1.1, by rw [h.1.1.2]; simp, h.1.2, h.2, widen_num (finB_fin h.1.1.1)⟩
theorem tonOK_all {tn : Nat} {t : Int} (h : tonOK tn t = true) : okN (tonA tn t) = true ∧ sinOK (narrow (tonA tn t)) = true := by
  simpa only [tonOK, Bool.and_eq_true] using h
theorem nextS_b (x : Int) : 0 ≤ nextS x ∧ nextS x ≤ 2147483647 := by unfold nextS; omega
theorem ticksB_b {a n : Int} (h : ticksB a n = true) : (0 ≤ a ∧ a ≤ 1000000) ∧ (0 ≤ n ∧ n ≤ 64) ∧ (n = 0 ∨ a + n - 1 ≤ 1000000) := by
  simp only [ticksB, Bool.and_eq_true, Bool.or_eq_true, decide_eq_true_eq] at h
  refine ⟨isTick_b h.1.1, within_b h.1.2, h.2.imp id fun h => (isTick_b h).2⟩
theorem laterB_b {kd tt ln : Int} {tn : Nat} {sd y : Int} (h : laterB kd tt ln tn sd y = true) : validW kd tt ln tn sd = true := by
  simp only [laterB, Bool.and_eq_true] at h; exact h.1.1
theorem frT_1 {x : Nat} (h : flt .f64 (fop .sub .f64 x (FloatKind.nearest .f64 (itv x))) 0 = true) : fop .add .f64 (fop .sub .f64 x (FloatKind.nearest .f64 (itv x))) 4607182418800017408 = frT x := by unfold frT; rw [if_pos h]
theorem frT_2 {x : Nat} (h : ¬ flt .f64 (fop .sub .f64 x (FloatKind.nearest .f64 (itv x))) 0 = true) : fop .sub .f64 x (FloatKind.nearest .f64 (itv x)) = frT x := by unfold frT; rw [if_neg h]
theorem folT_1 {f : Nat} (h : fgt .f64 f 4598175219545276416 = true) : fop .sub .f64 4602678819172646912 f = folT f := by unfold folT; rw [if_pos h]
theorem folT_2 {f : Nat} (h : ¬ fgt .f64 f 4598175219545276416 = true) : f = folT f := by unfold folT; rw [if_neg h]
theorem sinT_1 {x f : Nat} (h : fge .f64 (frT x) 4602678819172646912 = true) (hf : f = folT (fop .sub .f64 (frT x) 4602678819172646912)) : fneg .f64 (polT f) = sinT x := by subst hf; unfold sinT; rw [if_pos h]
theorem sinT_2 {x f : Nat} (h : ¬ fge .f64 (frT x) 4602678819172646912 = true) (hf : f = folT (frT x)) : polT f = sinT x := by subst hf; unfold sinT; rw [if_neg h]
end Go.Wv

/- Waves of small numbers are valid. -/
namespace Go.Wv
section
variable {kd tt ln u sd st y : Int}
theorem va_ok (hk : 0 ≤ kd ∧ kd ≤ 4) (ht : 0 ≤ tt ∧ tt ≤ 1000000) (hl : 1 ≤ ln ∧ ln ≤ 1000000) (hu : 0 ≤ u ∧ u < 9) (hs : 0 ≤ sd ∧ sd ≤ 2147483647) : validW kd tt ln (twT u) sd = true := by
  simp [validW, within, isTick, isSeed, tw_fin u (mem_r9 hu.1 hu.2)]; omega
theorem wa_ok (hk : 0 ≤ kd ∧ kd ≤ 4) (ht : 0 ≤ tt ∧ tt ≤ 1000000) (hl : 1 ≤ ln ∧ ln ≤ 1000000) (hu : 0 ≤ u ∧ u < 9) (hs : 0 ≤ sd ∧ sd ≤ 2147483647) (h : 0 ≤ st ∧ st ≤ 1000000) : (validW kd tt ln (twT u) sd && isTick st) = true := by
  rw [va_ok hk ht hl hu hs, Bool.true_and]
  simp only [isTick, within, Bool.and_eq_true, decide_eq_true_eq]; exact h
theorem wl_ok {n : Int} (hk : 0 ≤ kd ∧ kd ≤ 4) (ht : 0 ≤ tt ∧ tt ≤ 1000000) (hl : 1 ≤ ln ∧ ln ≤ 1000000) (hu : 0 ≤ u ∧ u < 9) (hs : 0 ≤ sd ∧ sd ≤ 2147483647) (h : 0 ≤ st ∧ st ≤ 1000 ∧ 1 ≤ n ∧ n ≤ 64) : (validW kd tt ln (twT u) sd && ticksB st n) = true := by
  rw [va_ok hk ht hl hu hs, Bool.true_and]
  simp only [ticksB, isTick, within, Bool.and_eq_true, Bool.or_eq_true, decide_eq_true_eq]; omega
theorem la_ok (hk : 0 ≤ kd ∧ kd ≤ 4) (ht : 0 ≤ tt ∧ tt ≤ 100) (hl : 1 ≤ ln ∧ ln ≤ 1000000) (hu : 0 ≤ u ∧ u < 9) (hs : 0 ≤ sd ∧ sd ≤ 2147483647) (h : 0 ≤ y ∧ y ≤ 100) : laterB kd tt ln (twT u) sd y = true := by
  unfold laterB
  rw [va_ok hk (by omega) hl hu hs, Bool.true_and]
  simp only [isTick, within, Bool.and_eq_true, decide_eq_true_eq]; omega
theorem se_ok (hs : 0 ≤ sd ∧ sd ≤ 2147483647) : isSeed sd = true := by
  simp only [isSeed, within, Bool.and_eq_true, decide_eq_true_eq]; exact hs
theorem wav_same {st' tt' : Int} {tn sz : Nat} (hk : kd ≠ 4) (h0 : 0 ≤ kd ∧ kd ≤ 4) (h : st' - tt' = st - tt) : sameN (wavT kd tt' ln tn sz sd st') (wavT kd tt ln tn sz sd st) = true := by
  have := wav_later (kd := kd) (tt := tt) (ln := ln) (sd := sd) (st := st) (y := tt' - tt) (tn := tn) (sz := sz) hk h0.1 h0.2
  rw [show tt + (tt' - tt) = tt' by omega, show st + (tt' - tt) = st' by omega] at this
  rw [this]; exact sameN_refl _
end
end Go.Wv

/- Sources that feed a field; runs with sources. -/
namespace Go.Wv
def srcV (s : Src) (st : Int) : Nat := wavT s.kd s.tt s.ln s.tn s.sz s.sd st
/-- A field that some sources have fed. -/
def fedT (wd hi : Int) (E : List Nat) (ss : List Src) (st : Int) : Nat → List Nat
  | 0 => E
  | k + 1 => put (fedT wd hi E ss st k) (atI wd hi (gl ss k).x (gl ss k).y) (if (gl ss k).hd = true then srcV (gl ss k) st else fop .add .f32 (el (fedT wd hi E ss st k) (atI wd hi (gl ss k).x (gl ss k).y)) (srcV (gl ss k) st))
section
variable {wd hi : Int} {wr : Bool} {P L E X Y : List Nat} {ss : List Src} {st k : Int}
theorem fed_hard (h0 : 0 ≤ k) (h : (gl ss k).hd = true) : put (fedT wd hi E ss st k.toNat) (atI wd hi (gl ss k).x (gl ss k).y) (wavT (gl ss k).kd (gl ss k).tt (gl ss k).ln (gl ss k).tn (gl ss k).sz (gl ss k).sd st) = fedT wd hi E ss st (k + 1).toNat := by
  rw [show (k + 1).toNat = k.toNat + 1 by omega]
  simp only [fedT, Int.toNat_of_nonneg h0, h, if_true]; rfl
theorem fed_soft (h0 : 0 ≤ k) (h : (gl ss k).hd = false) : put (fedT wd hi E ss st k.toNat) (atI wd hi (gl ss k).x (gl ss k).y) (fop .add .f32 (el (fedT wd hi E ss st k.toNat) (atI wd hi (gl ss k).x (gl ss k).y)) (wavT (gl ss k).kd (gl ss k).tt (gl ss k).ln (gl ss k).tn (gl ss k).sz (gl ss k).sd st)) = fedT wd hi E ss st (k + 1).toNat := by
  rw [show (k + 1).toNat = k.toNat + 1 by omega]
  simp only [fedT, Int.toNat_of_nonneg h0, h]
  rw [if_neg (by simp)]; rfl
theorem fed_len : ∀ n : Nat, (fedT wd hi E ss st n).length = E.length
  | 0 => rfl
  | n + 1 => by simp only [fedT, put_length]; exact fed_len n
theorem src_b {s : Src} (h : srcB wd hi wr s = true) : ((0 ≤ s.x ∧ s.x ≤ wd - 1) ∧ (0 ≤ s.y ∧ s.y ≤ hi - 1)) ∧ ((0 ≤ s.kd ∧ s.kd ≤ 4) ∧ (0 ≤ s.tt ∧ s.tt ≤ 1000000) ∧ (1 ≤ s.ln ∧ s.ln ≤ 1000000)) ∧ (0 ≤ s.sd ∧ s.sd ≤ 2147483647) := by
  simp only [srcB, Bool.and_eq_true] at h
  have h2 := validW_b h.2
  exact ⟨cellB_b h.1.1, ⟨h2.1, h2.2.1, h2.2.2.1⟩, h2.2.2.2.2⟩
/-- A step, and what the sources feed; some of them. -/
def rstT (wd hi : Int) (wr : Bool) (P L : List Nat) (ss : List Src) (st : Int) (F : Fld) : Fld := (fedT wd hi (stpT wd hi wr P L F).1 ss st ss.length, (stpT wd hi wr P L F).2.1, (stpT wd hi wr P L F).2.2)
def rsT (wd hi : Int) (wr : Bool) (P L : List Nat) (ss : List Src) (fr : Int) (F : Fld) : Nat → Fld
  | 0 => F
  | n + 1 => rstT wd hi wr P L ss (fr + n) (rsT wd hi wr P L ss fr F n)
/-- The records of the probes. -/
def rcT (wd hi : Int) (wr : Bool) (P L : List Nat) (ss : List Src) (fr : Int) (F : Fld) (p : Int × Int) (n : Int) : List Nat := tab n fun q => el (rsT wd hi wr P L ss fr F (q + 1).toNat).1 (atI wd hi p.1 p.2)
end
end Go.Wv

/- Lists of lists. -/
namespace Go.Wv
/-- Cells that hold lists. -/
def kL : Kd (Option Addr × Nat × Nat) := ⟨1, fun x cs => cs = [.slice x.1 x.2.1 x.2.2], by decide, fun h => by subst h; rfl, fun h => by subst h; simp [Value.oneCell']⟩
section
variable {α : Type} {k : Kd α} {w w0 : World} {S : Nat → Prop} {L : List Fact} {T n c : Nat} {a : Option Addr} {Y : List α} {Z : List (Option Addr × Nat × Nat)} {X : List (List α)} {i : Int}
def allP (_ : Nat) : Prop := True
def butP (i : Int) (j : Nat) : Prop := j ≠ i.toNat
theorem New.famNil (w : World) (k : Kd α) (T n : Nat) : New w w [.fam k T allP (List.replicate n (none, 0, 0)) (List.replicate n ([] : List α))] := by
  refine New.one (Ext.refl _ _) ⟨by simp, fun i _ z x hz hx => ?_, fun i j _ _ _ zi zj hi hj b hb => ?_⟩ fun b hb => ?_
  · obtain ⟨h1, rfl⟩ := List.getElem?_eq_some_iff.1 hz
    obtain ⟨h2, rfl⟩ := List.getElem?_eq_some_iff.1 hx
    rw [List.getElem_replicate, List.getElem_replicate]
    exact Ow.nil w k T
  · obtain ⟨h1, rfl⟩ := List.getElem?_eq_some_iff.1 hi
    rw [List.getElem_replicate] at hb
    simp [inA] at hb
  · obtain ⟨i, z, _, hz, hb⟩ := hb
    obtain ⟨h1, rfl⟩ := List.getElem?_eq_some_iff.1 hz
    rw [List.getElem_replicate] at hb
    simp [inA] at hb
theorem gl_some {β : Type} [Inhabited β] {X : List β} {i : Int} (h0 : 0 ≤ i) (h1 : i < (X.length : Int)) : X[i.toNat]? = some (gl X i) := by
  have h : i.toNat < X.length := by omega
  simp [gl, h]
/-- One of a family. -/
theorem Fam.own (h : Fam w k T allP Z X) (h0 : 0 ≤ i) (h1 : i < (Z.length : Int)) (hz : gl Z i = (a, n, c)) : Ow w k a n c T (gl X i) := by
  have := h.2.1 i.toNat trivial _ _ (gl_some h0 h1) (gl_some h0 (by rw [← h.1]; exact h1))
  rw [hz] at this; exact this
theorem Upd.split (h : Fam w k T allP Z X) (h0 : 0 ≤ i) (h1 : i < (Z.length : Int)) (hz : gl Z i = (a, n, c)) : Upd w w [.fam k T allP Z X] [.ow k a n c T (gl X i), .fam k T (butP i) Z X] := by
  have hzi : Z[i.toNat]? = some (a, n, c) := by rw [gl_some h0 h1, hz]
  refine ⟨Ext.refl _ _, All.cons (h.own h0 h1 hz) (All.cons ⟨h.1, fun j _ z x => h.2.1 j trivial z x, fun j j' _ _ => h.2.2 j j' trivial trivial⟩ All.nil), ?_, ?_⟩
  · refine List.pairwise_cons.2 ⟨fun g hg => ?_, Pw.one _⟩
    rcases List.mem_cons.1 hg with rfl | hg
    · refine .inr fun b hb ⟨j, z, hp, hj, hb'⟩ => ?_
      exact h.2.2 i.toNat j trivial trivial (fun e => hp e.symm) _ _ hzi hj b hb hb'
    · cases hg
  · intro g hg b hb _
    refine ⟨.fam k T allP Z X, by simp, rfl, ?_⟩
    rcases List.mem_cons.1 hg with rfl | hg
    · exact ⟨i.toNat, _, trivial, hzi, hb⟩
    · rcases List.mem_cons.1 hg with rfl | hg
      · obtain ⟨j, z, _, hj, hb⟩ := hb
        exact ⟨j, z, trivial, hj, hb⟩
      · cases hg
theorem Upd.join {Xi : List α} (B : Bu w0 S w L) (j1 j2 : Nat) (ho : L[j1]? = some (.ow k a n c T Xi)) (hf : L[j2]? = some (.fam k T (butP i) Z X)) (hne : (j1 != j2) = true) : Upd w w [.ow k a n c T Xi, .fam k T (butP i) Z X] [.fam k T allP (pl Z i (a, n, c)) (pl X i Xi)] := by
  have h1 : Ow w k a n c T Xi := B.o j1 ho
  have h2 : Fam w k T (butP i) Z X := B.all.get j2 hf
  have hap : ∀ b, inA a b → (Fact.fam k T (butP i) Z X).has b → False := fun b x y => B.ap j1 j2 ho hf hne rfl b x y
  have key : ∀ j z, (pl Z i (a, n, c))[j]? = some z → (j = i.toNat ∧ z = (a, n, c)) ∨ (butP i j ∧ Z[j]? = some z) := fun j z hz => by
    unfold pl at hz
    rw [List.getElem?_set] at hz
    split at hz
    · rename_i e
      split at hz
      · exact .inl ⟨e.symm, by injection hz with hz; exact hz.symm⟩
      · cases hz
    · rename_i e; exact .inr ⟨fun e' => e e'.symm, hz⟩
  refine ⟨Ext.refl _ _, All.cons ⟨by rw [pl_length, pl_length]; exact h2.1, fun j _ z x hz hx => ?_, fun j j' _ _ hjj z z' hz hz' b hb hb' => ?_⟩ All.nil, Pw.one _, ?_⟩
  · rcases key j z hz with ⟨rfl, rfl⟩ | ⟨hp, hz'⟩
    · unfold pl at hx
      rw [List.getElem?_set] at hx
      split at hx
      · split at hx
        · injection hx with hx; subst hx; exact h1
        · cases hx
      · rename_i e; exact absurd rfl e
    · refine h2.2.1 j hp z x hz' ?_
      unfold pl at hx
      rw [List.getElem?_set, if_neg (fun e => hp e.symm)] at hx
      exact hx
  · rcases key j z hz with ⟨rfl, rfl⟩ | ⟨hp, hzz⟩
    · rcases key j' z' hz' with ⟨rfl, rfl⟩ | ⟨hp', hzz'⟩
      · exact hjj rfl
      · exact hap b hb ⟨j', z', hp', hzz', hb'⟩
    · rcases key j' z' hz' with ⟨rfl, rfl⟩ | ⟨hp', hzz'⟩
      · exact hap b hb' ⟨j, z, hp, hzz, hb⟩
      · exact h2.2.2 j j' hp hp' hjj z z' hzz hzz' b hb hb'
  · intro g hg b hb _
    rcases List.mem_cons.1 hg with rfl | hg
    · obtain ⟨j, z, _, hz, hb⟩ := hb
      rcases key j z hz with ⟨rfl, rfl⟩ | ⟨hp, hzz⟩
      · exact ⟨_, List.mem_cons_self, rfl, hb⟩
      · exact ⟨.fam k T (butP i) Z X, by simp, rfl, ⟨j, z, hp, hzz, hb⟩⟩
    · cases hg
theorem Bu.f (B : Bu w0 S w L) (j : Nat) {p : Nat → Prop} (h : L[j]? = some (.fam k T p Z X)) : Fam w k T p Z X := B.all.get j h
theorem Bu.castF {X' : List (List α)} {p : Nat → Prop} (B : Bu w0 S w L) (j : Nat) (h : L[j]? = some (.fam k T p Z X)) (hX : X = X') : Bu w0 S w (L.set j (.fam k T p Z X')) := by
  subst hX
  exact B.cast j h (B.f j h) rfl fun _ h => h
end
theorem Rd.atL {w : World} {a : Option Addr} {n : Nat} {Z : List (Option Addr × Nat × Nat)} (h : Rd w kL a n Z) (i : Int) (h0 : 0 ≤ i) (h1 : i < (n : Int)) {z : Option Addr × Nat × Nat} (hz : gl Z i = z) : Row w a (i.toNat * 1) [.slice z.1 z.2.1 z.2.2] := by
  obtain ⟨_, rfl, hR⟩ := h.at i h0 h1
  subst hz; exact hR
end Go.Wv

/- Runs with sources: their records, step by step. -/
namespace Go.Wv
section
variable {wd hi fr : Int} {wr : Bool} {P L : List Nat} {ss : List Src} {F : Fld} {ps : List (Int × Int)} {n : Nat} {k j : Int}
/-- The records behind k steps; while step k + 1 is told to the probes, j of them have been told. -/
def rcs (wd hi : Int) (wr : Bool) (P L : List Nat) (ss : List Src) (fr : Int) (F : Fld) (ps : List (Int × Int)) (n : Nat) (k : Int) : List (List Nat) := gtab (n : Int) fun i => rcT wd hi wr P L ss fr F (gl ps i) k
def rcj (wd hi : Int) (wr : Bool) (P L : List Nat) (ss : List Src) (fr : Int) (F : Fld) (ps : List (Int × Int)) (n : Nat) (k j : Int) : List (List Nat) := gtab (n : Int) fun i => rcT wd hi wr P L ss fr F (gl ps i) (if i < j then k + 1 else k)
theorem rcs_zero {m : Nat} (hm : m = n) : List.replicate m ([] : List Nat) = rcs wd hi wr P L ss fr F ps n 0 := by
  subst hm
  unfold rcs
  refine gtab_of (by simp) fun i h0 h1 => ?_
  have h : i.toNat < m := by omega
  simp [gl, h, rcT, tab_zero]
theorem rcj_zero : rcs wd hi wr P L ss fr F ps n k = rcj wd hi wr P L ss fr F ps n k 0 := by
  unfold rcs rcj
  exact gtab_ext fun i h0 _ => by rw [if_neg (by omega)]
theorem rcj_end (h : ¬ j < (n : Int)) : rcj wd hi wr P L ss fr F ps n k j = rcs wd hi wr P L ss fr F ps n (k + 1) := by
  unfold rcs rcj
  exact gtab_ext fun i h0 h1 => by rw [if_pos (by omega)]
theorem rcj_gl (h0 : 0 ≤ j) (h1 : j < (n : Int)) : gl (rcj wd hi wr P L ss fr F ps n k j) j = rcT wd hi wr P L ss fr F (gl ps j) k := by
  unfold rcj; rw [gl_gtab h0 h1, if_neg (by omega)]
theorem rcs_gl {i : Int} (h0 : 0 ≤ i) (h1 : i < (n : Int)) : gl (rcs wd hi wr P L ss fr F ps n k) i = rcT wd hi wr P L ss fr F (gl ps i) k := by
  unfold rcs; rw [gl_gtab h0 h1]
theorem rcT_len {p : Int × Int} : (rcT wd hi wr P L ss fr F p k).length = k.toNat := by unfold rcT; exact tab_length _ _
theorem rcj_len {m : Nat} (h0 : 0 ≤ j) (h1 : j < (n : Int)) (h : (gl (rcj wd hi wr P L ss fr F ps n k j) j).length = m) : m = k.toNat := by
  rw [rcj_gl h0 h1, rcT_len] at h; exact h.symm
theorem rcs_len : (rcs wd hi wr P L ss fr F ps n k).length = n := by unfold rcs; rw [gtab_length]; omega
theorem rcj_step {v : Nat} (hk : 0 ≤ k) (h0 : 0 ≤ j) (h1 : j < (n : Int)) (hv : v = el (rsT wd hi wr P L ss fr F (k + 1).toNat).1 (atI wd hi (gl ps j).1 (gl ps j).2)) :
    pl (rcj wd hi wr P L ss fr F ps n k j) j (gl (rcj wd hi wr P L ss fr F ps n k j) j ++ [v]) = rcj wd hi wr P L ss fr F ps n k (j + 1) := by
  rw [rcj_gl h0 h1]
  have hl : (rcj wd hi wr P L ss fr F ps n k j).length = n := by unfold rcj; rw [gtab_length]; omega
  have e : rcT wd hi wr P L ss fr F (gl ps j) k ++ [v] = rcT wd hi wr P L ss fr F (gl ps j) (k + 1) := by
    unfold rcT; exact tab_snoc hk hv
  rw [e]
  unfold rcj at hl ⊢
  refine gtab_of (by rw [pl_length, hl]) fun i h2 h3 => ?_
  rw [pl_get h0 (by omega) h2]
  by_cases hij : i = j
  · rw [if_pos hij, hij, if_pos (by omega)]
  · rw [if_neg hij, gl_gtab h2 h3]
    by_cases h4 : i < j
    · rw [if_pos h4, if_pos (by omega)]
    · rw [if_neg h4, if_neg (by omega)]
theorem rsT_next (h : 0 ≤ k) : rsT wd hi wr P L ss fr F (k + 1).toNat = rstT wd hi wr P L ss (fr + k) (rsT wd hi wr P L ss fr F k.toNat) := by
  rw [show (k + 1).toNat = k.toNat + 1 by omega]
  simp only [rsT, Int.toNat_of_nonneg h]
theorem rs_E {m : Nat} (h : 0 ≤ k) (hn : ss.length = m) : fedT wd hi (nwL wd hi wr P L (rsT wd hi wr P L ss fr F k.toNat).1 (hxL wd hi wr (rsT wd hi wr P L ss fr F k.toNat).1 (rsT wd hi wr P L ss fr F k.toNat).2.1) (hyL wd hi wr (rsT wd hi wr P L ss fr F k.toNat).1 (rsT wd hi wr P L ss fr F k.toNat).2.2)) ss (fr + k) m = (rsT wd hi wr P L ss fr F (k + 1).toNat).1 := by
  rw [rsT_next h, ← hn]; rfl
theorem rs_X (h : 0 ≤ k) : hxL wd hi wr (rsT wd hi wr P L ss fr F k.toNat).1 (rsT wd hi wr P L ss fr F k.toNat).2.1 = (rsT wd hi wr P L ss fr F (k + 1).toNat).2.1 := by rw [rsT_next h]; rfl
theorem rs_Y (h : 0 ≤ k) : hyL wd hi wr (rsT wd hi wr P L ss fr F k.toNat).1 (rsT wd hi wr P L ss fr F k.toNat).2.2 = (rsT wd hi wr P L ss fr F (k + 1).toNat).2.2 := by rw [rsT_next h]; rfl
def rsB (wd hi : Int) (wr : Bool) (P L : List Nat) (E X Y : List Nat) (ss : List Src) (ps : List (Int × Int)) (fr ct : Int) : Bool := fieldB wd hi wr P L E X Y && areSrcB wd hi wr P L ss && areProbesB wd hi P L ps && ticksB fr ct
theorem areSrc_src (h : areSrcB wd hi wr P L ss = true) : srcsB wd hi wr ss = true := by simp only [areSrcB, Bool.and_eq_true] at h; exact h.2
theorem areProbes_pr (h : areProbesB wd hi P L ps = true) : prB wd hi ps = true := by simp only [areProbesB, Bool.and_eq_true] at h; exact h.2
end
end Go.Wv

