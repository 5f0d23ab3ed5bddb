/- The law of cones. -/
import Derived.Test.YtgohmocjjmkepaaM22
set_option linter.unusedSimpArgs false
set_option linter.unusedVariables false
namespace Go.Wv
section
variable {α : Type} [Inhabited α]
theorem gl_mem {X : List α} {i : Int} (h0 : 0 ≤ i) (h1 : i < (X.length : Int)) : gl X i ∈ X := by
  have h : i.toNat < X.length := by omega
  have : gl X i = X[i.toNat] := by simp [gl, h]
  rw [this]; exact List.getElem_mem h
end
theorem sel_mem {n : Int} {p : Int → Bool} {j : Int} : j ∈ sel n p ↔ (0 ≤ j ∧ j < n) ∧ p j = true := by
  unfold sel
  simp only [List.mem_filter, List.mem_map, List.mem_range]
  constructor
  · rintro ⟨⟨k, hk, rfl⟩, hp⟩; exact ⟨⟨by omega, by omega⟩, hp⟩
  · rintro ⟨⟨h0, h1⟩, hp⟩; exact ⟨⟨j.toNat, by omega, by omega⟩, hp⟩
theorem sel_gl {n : Int} {p : Int → Bool} {k : Int} (h0 : 0 ≤ k) (h1 : k < ((sel n p).length : Int)) : 0 ≤ gl (sel n p) k ∧ gl (sel n p) k < n := (sel_mem.1 (gl_mem h0 h1)).1
/-- The cells that the first numbers of a list name. -/
def seenT (n : Int) (R : List Int) (k : Int) : List Bool := gtab n fun j => (R.take k.toNat).contains j
theorem seen_len {n : Int} {R : List Int} {k : Int} : (seenT n R k).length = n.toNat := gtab_length _ _
theorem gtab_ext {α : Type} {n : Int} {g h : Int → α} (e : ∀ i, 0 ≤ i → i < n → g i = h i) : gtab n g = gtab n h := by
  unfold gtab
  apply List.map_congr_left
  intro i hi
  rw [List.mem_range] at hi
  exact e i (by omega) (by omega)
theorem seen_zero {n : Int} {R : List Int} {m : Nat} (hm : m = n.toNat) : List.replicate m false = seenT n R 0 := by
  subst hm
  unfold seenT gtab
  simp only [Int.toNat_zero, List.take_zero]
  apply List.ext_getElem?
  intro i
  simp only [List.getElem?_replicate, List.getElem?_map, List.getElem?_range]
  by_cases h : i < n.toNat
  · rw [if_pos h, List.getElem?_range h]; rfl
  · rw [if_neg h, List.getElem?_eq_none (by simp; omega)]; rfl
theorem pl_get {α : Type} [Inhabited α] {X : List α} {i j : Int} {v : α} (h0 : 0 ≤ i) (h1 : i < (X.length : Int)) (hj : 0 ≤ j) : gl (pl X i v) j = if j = i then v else gl X j := by
  unfold gl pl
  simp only [List.getD_eq_getElem?_getD, List.getElem?_set]
  by_cases e : j = i
  · subst e; rw [if_pos rfl, if_pos rfl, if_pos (by omega)]; rfl
  · rw [if_neg e, if_neg (by omega)]
theorem seen_next {n : Int} {R : List Int} {k : Int} (h0 : 0 ≤ k) (h1 : k < (R.length : Int)) (h2 : 0 ≤ gl R k) (h3 : gl R k < n) : pl (seenT n R k) (gl R k) true = seenT n R (k + 1) := by
  refine gtab_of (by rw [pl_length, seen_len]; omega) fun j h4 h5 => ?_
  rw [pl_get h2 (by rw [seen_len]; omega) h4]
  have hk : k.toNat < R.length := by omega
  have e : R.take (k + 1).toNat = R.take k.toNat ++ [gl R k] := by
    rw [show (k + 1).toNat = k.toNat + 1 by omega, List.take_succ_eq_append_getElem hk]
    have : gl R k = R[k.toNat] := by simp [gl, hk]
    rw [this]
  rw [e]
  unfold seenT
  by_cases hj : j = gl R k
  · rw [if_pos hj, ← hj]; simp
  · rw [if_neg hj, gl_gtab h4 h5, Bool.eq_iff_iff]
    simp [hj]
theorem seen_end {n : Int} {p : Int → Bool} {k : Int} (hk : ¬ k < ((sel n p).length : Int)) : seenT n (sel n p) k = gtab n p := by
  unfold seenT
  refine gtab_ext fun i h0 h1 => ?_
  rw [List.take_of_length_le (by omega), Bool.eq_iff_iff, List.contains_iff_mem, sel_mem]
  exact ⟨fun h => h.2, fun h => ⟨⟨h0, h1⟩, h⟩⟩
theorem sel_len_yes {n : Int} {p : Int → Bool} (h : 0 ≤ n) (hp : p n = true) : (((sel (n + 1) p).length : Nat) : Int) = (((sel n p).length : Nat) : Int) + 1 := by
  rw [sel_succ h, if_pos hp]; simp
theorem sel_len_no {n : Int} {p : Int → Bool} (h : 0 ≤ n) (hp : ¬ p n = true) : (((sel (n + 1) p).length : Nat) : Int) = (((sel n p).length : Nat) : Int) := by
  rw [sel_succ h, if_neg hp]; simp
section
variable {wd hi x0 y0 : Int} {wr : Bool} {P L E X Y : List Nat}
theorem reachB_yes {n : Int} (hv : validS wd hi P L = true) (hx : 0 ≤ x0 ∧ x0 < wd) (hy : 0 ≤ y0 ∧ y0 < hi) (hn : 0 ≤ n ∧ n ≤ 64) : reachB wd hi P L x0 y0 n = true := by
  simp only [reachB, vcellB, cellB, hv, within, Bool.true_and, Bool.and_eq_true, decide_eq_true_eq]; omega
theorem el_rep0 {m : Nat} {i : Int} : el (List.replicate m 0) i = 0 := el_replicate m i
theorem zr_zero : zr 0 := by unfold zr; kernel_rfl
theorem zero_edge {m : Nat} {x y i : Int} : edgeB wd hi (List.replicate m 0) (List.replicate m 0) (List.replicate m 0) x y i = false :=
  edge_iff.2 ⟨fun _ => by rw [el_rep0]; exact zr_zero, fun _ => by rw [el_rep0]; exact zr_zero, fun _ => by rw [el_rep0]; exact zr_zero⟩
theorem field_zero {m : Nat} (hv : validS wd hi P L = true) (hm : (m : Int) = wd * hi) : fieldB wd hi wr P L (List.replicate m 0) (List.replicate m 0) (List.replicate m 0) = true :=
  field_xy hv (by simp [hm]) (by simp [hm]) (by simp [hm]) fun _ _ _ _ _ _ _ => zero_edge
theorem put_ok {V : Nat} (hf : fieldB wd hi wr P L E X Y = true) (hx : 1 ≤ x0 ∧ x0 ≤ wd - 2) (hy : 1 ≤ y0 ∧ y0 ≤ hi - 2) : putB wd hi wr P L E X Y x0 y0 V = true := by
  have hb : bordB wd hi wr x0 y0 = false := by
    cases wr
    · have : ¬ bordB wd hi false x0 y0 = true := fun h => by have := bord_iff.1 h; omega
      simpa using this
    · simp [bordB]
  simp only [putB, valB, cellB, hf, hb, within, Bool.false_and, Bool.not_false, Bool.and_true, Bool.true_and, Bool.and_eq_true, decide_eq_true_eq]; omega
theorem put_run {V : Nat} {n : Int} (h : putB wd hi wr P L E X Y x0 y0 V = true) (hn : 0 ≤ n ∧ n ≤ 64) : runB wd hi wr P L (put E (x0 + wd * y0) V) X Y n = true := by
  have hv : valB wd hi wr P L E X Y x0 y0 = true := by simp only [putB, Bool.and_eq_true] at h; exact h.1
  have := put_fits (V := V) hv
  rw [h] at this
  simp only [runB, this, within, Bool.true_and, Bool.and_eq_true, decide_eq_true_eq]; omega
theorem runB_yes {n : Int} (h : fieldB wd hi wr P L E X Y = true) (hn : 0 ≤ n ∧ n ≤ 64) : runB wd hi wr P L E X Y n = true := by
  simp only [runB, h, within, Bool.true_and, Bool.and_eq_true, decide_eq_true_eq]; omega
theorem dst_pos {x y : Int} (hx0 : 0 ≤ x0 ∧ x0 < wd) (hy0 : 0 ≤ y0 ∧ y0 < hi) (hx : 0 ≤ x ∧ x < wd) (hy : 0 ≤ y ∧ y < hi) : 0 ≤ dst wd hi wr x0 y0 x y := by
  have a := wayI_b (wr := wr) (a := x0) (b := x) (side := wd) hx0.1 hx0.2 hx.1 hx.2
  have b := wayI_b (wr := wr) (a := y0) (b := y) (side := hi) hy0.1 hy0.2 hy.1 hy.2
  unfold dst; omega
theorem way_self {a n : Int} (h : 0 < n) : wayI wr a a n = 0 := by unfold wayI; split <;> omega
theorem put_ZF {m V : Nat} (hm : (m : Int) = wd * hi) (hx0 : 0 ≤ x0 ∧ x0 < wd) (hy0 : 0 ≤ y0 ∧ y0 < hi) : ZF wd hi wr x0 y0 (put (List.replicate m 0) (x0 + wd * y0) V, List.replicate m 0, List.replicate m 0) 0 := by
  intro x y a b c d hk
  have hr := row_lt a b c d
  have hr0 := row_lt (wd := wd) (hi := hi) (a := x0) (b := y0) hx0.1 hx0.2 hy0.1 hy0.2
  have hne : x + wd * y ≠ x0 + wd * y0 := by
    intro e
    have e1 := divmod_row (y := y) a b
    have e2 := divmod_row (y := y0) hx0.1 hx0.2
    rw [e] at e1
    have : x = x0 := e1.1.symm.trans e2.1
    have : y = y0 := e1.2.symm.trans e2.2
    subst_vars
    unfold dst at hk
    rw [way_self (by omega), way_self (by omega)] at hk
    omega
  refine ⟨?_, ?_, ?_⟩
  · show zr (el (put _ _ _) _)
    rw [el_put hr0.1 (by simp only [List.length_replicate]; omega) _ _ hr.1, if_neg hne, el_rep0]; exact zr_zero
  · show zr (el _ _); rw [el_rep0]; exact zr_zero
  · show zr (el _ _); rw [el_rep0]; exact zr_zero
/-- What is not reached is nought. -/
theorem far_of {m V : Nat} {n i : Int} (hv : validS wd hi P L = true) (hm : (m : Int) = wd * hi) (hx0 : 0 ≤ x0 ∧ x0 < wd) (hy0 : 0 ≤ y0 ∧ y0 < hi) (hn : 0 ≤ n) (h0 : 0 ≤ i) (h1 : i < wd * hi)
    (h : reachP wd hi wr x0 y0 n (i % wd) (i / wd) = false) :
    feq .f32 (el (rnT wd hi wr P L (put (List.replicate m 0) (x0 + wd * y0) V, List.replicate m 0, List.replicate m 0) n.toNat).1 i) 0 = true ∧
    feq .f32 (el (rnT wd hi wr P L (put (List.replicate m 0) (x0 + wd * y0) V, List.replicate m 0, List.replicate m 0) n.toNat).2.1 i) 0 = true ∧
    feq .f32 (el (rnT wd hi wr P L (put (List.replicate m 0) (x0 + wd * y0) V, List.replicate m 0, List.replicate m 0) n.toNat).2.2 i) 0 = true := by
  have hb := validS_b hv
  have hc := cone (wr := wr) hv hx0 hy0 (put_ZF (wr := wr) (V := V) hm hx0 hy0) n.toNat
  have hr := row_of h0 h1 (show 0 < wd by omega)
  have := hc _ _ hr.1.1 hr.1.2 hr.2.1.1 hr.2.1.2 (by
    have h' := of_decide_eq_false h
    unfold dst; omega)
  rw [hr.2.2] at this
  exact this
theorem reach_self {n : Int} (hx0 : 0 ≤ x0 ∧ x0 < wd) (hy0 : 0 ≤ y0 ∧ y0 < hi) (hn : 0 ≤ n) : gl (gtab (wd * hi) fun i => reachP wd hi wr x0 y0 n (i % wd) (i / wd)) (x0 + wd * y0) = true := by
  have hr := row_lt (wd := wd) (hi := hi) (a := x0) (b := y0) hx0.1 hx0.2 hy0.1 hy0.2
  have hd := divmod_row (wd := wd) (x := x0) (y := y0) hx0.1 hx0.2
  rw [gl_gtab hr.1 hr.2, hd.1, hd.2]
  unfold reachP
  rw [way_self (by omega), way_self (by omega)]
  exact decide_eq_true (by omega)
/-- Walls keep what they have. -/
theorem wall_step {F : Fld} {x y : Int} (a : 0 ≤ x) (b : x < wd) (c : 0 ≤ y) (d : y < hi) (h : bordB wd hi wr x y = true) : el (stpT wd hi wr P L F).1 (x + wd * y) = el F.1 (x + wd * y) := by
  show el (nwL wd hi wr P L F.1 _ _) (x + wd * y) = _
  rw [el_nwL a b c d]; unfold nwF; rw [if_pos h, atI_in a b c d]
theorem wall {F : Fld} {x y : Int} (a : 0 ≤ x) (b : x < wd) (c : 0 ≤ y) (d : y < hi) (h : bordB wd hi wr x y = true) : ∀ n : Nat, el (rnT wd hi wr P L F n).1 (x + wd * y) = el F.1 (x + wd * y)
  | 0 => rfl
  | n + 1 => (wall_step a b c d h).trans (wall a b c d h n)
theorem wall_i {n : Nat} {i : Int} (hw : 0 < wd) (h0 : 0 ≤ i) (h1 : i < wd * hi) (h : i % wd = 0 ∨ i % wd = wd - 1 ∨ i / wd = 0 ∨ i / wd = hi - 1) : el (rnT wd hi false P L (E, X, Y) n).1 i = el E i := by
  have hr := row_of h0 h1 hw
  have := wall (wr := false) (P := P) (L := L) (F := (E, X, Y)) hr.1.1 hr.1.2 hr.2.1.1 hr.2.1.2 (bord_iff.2 h) n
  rwa [hr.2.2] at this
/-- A step of a field is a field. -/
theorem step_field (hv : validS wd hi P L = true) {F : Fld} (h : fieldB wd hi wr P L F.1 F.2.1 F.2.2 = true) : fieldB wd hi wr P L (stpT wd hi wr P L F).1 (stpT wd hi wr P L F).2.1 (stpT wd hi wr P L F).2.2 = true := by
  have hb := fieldB_b h
  refine field_xy hv ((congrArg Int.ofNat (nwL_len ..)).trans (by simp only [Int.ofNat_eq_natCast]; omega)) ((congrArg Int.ofNat (hxL_len ..)).trans (by simp only [Int.ofNat_eq_natCast]; omega)) ((congrArg Int.ofNat (hyL_len ..)).trans (by simp only [Int.ofNat_eq_natCast]; omega)) fun hw x y a b c d => ?_
  subst hw
  have he := edge_iff.1 (edge_xy h a b c d)
  refine edge_iff.2 ⟨fun hc => ?_, fun hc => ?_, fun hc => ?_⟩
  · rw [wall_step a b c d hc]; exact he.1 hc
  · show feq .f32 (el (hxL wd hi false F.1 F.2.1) (x + wd * y)) 0 = true
    rw [el_hxL a b c d]; unfold hxF
    rw [if_neg (by simp; omega), atI_in a b c d]; exact he.2.1 hc
  · show feq .f32 (el (hyL wd hi false F.1 F.2.2) (x + wd * y)) 0 = true
    rw [el_hyL a b c d]; unfold hyF
    rw [if_neg (by simp; omega), atI_in a b c d]; exact he.2.2 hc
theorem rnT_field (h : fieldB wd hi wr P L E X Y = true) : ∀ n : Nat, fieldB wd hi wr P L (rnT wd hi wr P L (E, X, Y) n).1 (rnT wd hi wr P L (E, X, Y) n).2.1 (rnT wd hi wr P L (E, X, Y) n).2.2 = true
  | 0 => h
  | n + 1 => step_field (fieldB_iff.1 h).1 (rnT_field h n)
theorem run_field {m : Int} {n : Nat} (h : runB wd hi wr P L E X Y m = true) : fieldB wd hi wr P L (rnT wd hi wr P L (E, X, Y) n).1 (rnT wd hi wr P L (E, X, Y) n).2.1 (rnT wd hi wr P L (E, X, Y) n).2.2 = true := by
  simp only [runB, Bool.and_eq_true] at h
  exact rnT_field h.1 n
end
end Go.Wv
