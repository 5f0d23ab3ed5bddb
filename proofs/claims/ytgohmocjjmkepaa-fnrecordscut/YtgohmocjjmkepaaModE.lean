/- Texts that the walks rest on, joined. -/
import Derived.Test.YtgohmocjjmkepaaModD
set_option linter.unusedSimpArgs false
set_option linter.unusedVariables false
/- Records that are cut: drawn sources and probes, runs in two parts. -/
namespace Go.Wv
open Ieee
def r8S (wd hi : Int) (s : Src) : Prop := ((1 ≤ s.x ∧ s.x ≤ wd - 2) ∧ (1 ≤ s.y ∧ s.y ≤ hi - 2)) ∧ ((0 ≤ s.kd ∧ s.kd ≤ 4) ∧ (0 ≤ s.tt ∧ s.tt ≤ 5)) ∧ s.ln = 3 ∧ s.tn = 1040187392 ∧ s.sd = 7
def r8P (wd hi : Int) (p : Int × Int) : Prop := (0 ≤ p.1 ∧ p.1 < wd) ∧ (0 ≤ p.2 ∧ p.2 < hi)
theorem snoc_all {α : Type} [Inhabited α] {P : α → Prop} {X : List α} {n : Nat} {x : α} (hl : X.length = n) (h : ∀ i : Int, 0 ≤ i → i < (n : Int) → P (gl X i)) (hx : P x) : ∀ i : Int, 0 ≤ i → i < ((n + 1 : Nat) : Int) → P (gl (X ++ [x]) i) := by
  intro i h0 h1
  by_cases hi : i < (n : Int)
  · have : gl (X ++ [x]) i = gl X i := by
      unfold gl; simp only [List.getD_eq_getElem?_getD]; rw [List.getElem?_append_left (by omega)]
    rw [this]; exact h i h0 hi
  · have : gl (X ++ [x]) i = x := by
      unfold gl; rw [show i.toNat = X.length by omega]; simp
    rw [this]; exact hx
theorem el_app_l {A B : List Nat} {i : Int} (h0 : 0 ≤ i) (h : i < (A.length : Int)) : el (A ++ B) i = el A i := by
  unfold el; simp only [List.getD_eq_getElem?_getD]; rw [List.getElem?_append_left (by omega)]
theorem el_app_r {A B : List Nat} {i : Int} (h0 : 0 ≤ i) (h : (A.length : Int) ≤ i) : el (A ++ B) i = el B (i - (A.length : Int)) := by
  unfold el; simp only [List.getD_eq_getElem?_getD]; rw [List.getElem?_append_right (by omega), show i.toNat - A.length = (i - (A.length : Int)).toNat by omega]
theorem tw6 : twT 6 = 1040187392 := by decide +kernel
section
variable {wd hi fr : Int} {wr : Bool} {P L : List Nat} {ss : List Src} {ps : List (Int × Int)} {F : Fld}
theorem r8S_wav {s : Src} {st : Int} (h : r8S wd hi s) (h1 : st ≤ 26) : wavOK s.kd s.tt s.ln s.tn st := by
  rw [h.2.2.2.1, ← tw6]; exact wav_ok (by omega) (by have := h.2.2.1; omega) (by have := h.2.1.2.1; omega)
theorem r8S_src {s : Src} (h : r8S wd hi s) : srcB wd hi wr s = true := by
  obtain ⟨⟨hx, hy⟩, ⟨hk, ht⟩, hl, htn, hs⟩ := h
  have hb : bordB wd hi wr s.x s.y = false := by
    cases wr
    · have : ¬ bordB wd hi false s.x s.y = true := fun h => by have := bord_iff.1 h; omega
      simpa using this
    · simp [bordB]
  have hv : validW s.kd s.tt s.ln s.tn s.sd = true := by
    rw [htn, ← tw6]; exact va_ok hk (by omega) (by omega) (by omega) (by omega)
  simp only [srcB, hb, hv, cellB, within, Bool.not_false, Bool.and_true, Bool.and_eq_true, decide_eq_true_eq]; omega
theorem fed_field {E X Y : List Nat} {st : Int} (hs : ∀ i : Int, 0 ≤ i → i < (ss.length : Int) → r8S wd hi (gl ss i)) (h : fieldB wd hi wr P L E X Y = true) : ∀ n : Nat, n ≤ ss.length → fieldB wd hi wr P L (fedT wd hi E ss st n) X Y = true
  | 0, _ => h
  | n + 1, hn => by
    have h1 := hs n (by omega) (by omega)
    have h2 := fed_field (st := st) hs h n (by omega)
    have h3 := fun V => put_run (put_ok (V := V) h2 h1.1.1 h1.1.2) (n := 0) (by omega)
    have h4 : atI wd hi (gl ss (n : Int)).x (gl ss (n : Int)).y = (gl ss (n : Int)).x + wd * (gl ss (n : Int)).y := atI_in (by have := h1.1.1; omega) (by have := h1.1.1; omega) (by have := h1.1.2; omega) (by have := h1.1.2; omega)
    unfold fedT
    rw [h4]
    have h5 := fun V => (h3 V)
    simp only [runB, Bool.and_eq_true] at h5
    exact (h5 _).1
theorem rs_field (hv : validS wd hi P L = true) (hs : ∀ i : Int, 0 ≤ i → i < (ss.length : Int) → r8S wd hi (gl ss i)) (h : fieldB wd hi wr P L F.1 F.2.1 F.2.2 = true) : ∀ n : Nat, fieldB wd hi wr P L (rsT wd hi wr P L ss fr F n).1 (rsT wd hi wr P L ss fr F n).2.1 (rsT wd hi wr P L ss fr F n).2.2 = true
  | 0 => h
  | n + 1 => by
    have h1 := step_field hv (rs_field hv hs h n)
    exact fed_field hs h1 ss.length (Nat.le_refl _)
theorem rs_split {a : Nat} : ∀ b : Nat, rsT wd hi wr P L ss fr F (a + b) = rsT wd hi wr P L ss (fr + a) (rsT wd hi wr P L ss fr F a) b
  | 0 => rfl
  | b + 1 => by
    show rstT wd hi wr P L ss (fr + ((a + b : Nat) : Int)) (rsT wd hi wr P L ss fr F (a + b)) = rstT wd hi wr P L ss (fr + a + b) _
    rw [rs_split b, show fr + ((a + b : Nat) : Int) = fr + a + b by omega]
theorem rs_cut {n a : Int} (h0 : 0 ≤ a) (h1 : a ≤ n) : rsT wd hi wr P L ss (fr + a) (rsT wd hi wr P L ss fr F a.toNat) (n - a).toNat = rsT wd hi wr P L ss fr F n.toNat := by
  have := rs_split (wd := wd) (hi := hi) (wr := wr) (P := P) (L := L) (ss := ss) (fr := fr) (F := F) (a := a.toNat) (n - a).toNat
  rw [Int.toNat_of_nonneg h0] at this
  rw [← this, show a.toNat + (n - a).toNat = n.toNat by omega]
theorem rec_cut {n a : Int} {p : Int × Int} (h0 : 0 ≤ a) (h1 : a ≤ n) : sameL ((([] : List Nat) ++ rcT wd hi wr P L ss fr F p a) ++ rcT wd hi wr P L ss (fr + a) (rsT wd hi wr P L ss fr F a.toNat) p (n - a)) (rcT wd hi wr P L ss fr F p n) = true := by
  have e : (([] : List Nat) ++ rcT wd hi wr P L ss fr F p a) ++ rcT wd hi wr P L ss (fr + a) (rsT wd hi wr P L ss fr F a.toNat) p (n - a) = rcT wd hi wr P L ss fr F p n := by
    rw [List.nil_append]
    have hl1 : (rcT wd hi wr P L ss fr F p a).length = a.toNat := rcT_len
    refine ext_el ?_ fun i i0 i1 => ?_
    · rw [List.length_append, rcT_len, rcT_len, rcT_len]; omega
    · rw [rcT_len] at i1
      by_cases hia : i < a
      · rw [el_app_l i0 (by omega)]
        unfold rcT; rw [el_tab i0 hia, el_tab i0 (by omega)]
      · rw [el_app_r i0 (by omega), hl1]
        unfold rcT
        rw [el_tab (by omega) (by omega), el_tab i0 (by omega)]
        have := rs_cut (wd := wd) (hi := hi) (wr := wr) (P := P) (L := L) (ss := ss) (fr := fr) (F := F) (n := i + 1) (a := a) h0 (by omega)
        rw [← this, show i - ((a.toNat : Nat) : Int) + 1 = i + 1 - a by omega]
  rw [e]; exact sameL_refl _
theorem rec_cut' {n a : Int} {p : Int × Int} (h0 : 0 ≤ a) (h1 : a ≤ n) : sameL ((([] : List Nat) ++ rcT wd hi wr P L ss fr F p a) ++ rcT wd hi wr P L ss (fr + a) ((rsT wd hi wr P L ss fr F a.toNat).1, (rsT wd hi wr P L ss fr F a.toNat).2.1, (rsT wd hi wr P L ss fr F a.toNat).2.2) p (n - a)) (rcT wd hi wr P L ss fr F p n) = true := rec_cut h0 h1
theorem rs_same {n a : Int} (h0 : 0 ≤ a) (h1 : a ≤ n) : (sameL (rsT wd hi wr P L ss fr F n.toNat).1 (rsT wd hi wr P L ss (fr + a) ((rsT wd hi wr P L ss fr F a.toNat).1, (rsT wd hi wr P L ss fr F a.toNat).2.1, (rsT wd hi wr P L ss fr F a.toNat).2.2) (n - a).toNat).1 && sameL (rsT wd hi wr P L ss fr F n.toNat).2.1 (rsT wd hi wr P L ss (fr + a) ((rsT wd hi wr P L ss fr F a.toNat).1, (rsT wd hi wr P L ss fr F a.toNat).2.1, (rsT wd hi wr P L ss fr F a.toNat).2.2) (n - a).toNat).2.1 && sameL (rsT wd hi wr P L ss fr F n.toNat).2.2 (rsT wd hi wr P L ss (fr + a) ((rsT wd hi wr P L ss fr F a.toNat).1, (rsT wd hi wr P L ss fr F a.toNat).2.1, (rsT wd hi wr P L ss fr F a.toNat).2.2) (n - a).toNat).2.2) = true := by
  have e : rsT wd hi wr P L ss (fr + a) ((rsT wd hi wr P L ss fr F a.toNat).1, (rsT wd hi wr P L ss fr F a.toNat).2.1, (rsT wd hi wr P L ss fr F a.toNat).2.2) (n - a).toNat = rsT wd hi wr P L ss fr F n.toNat := rs_cut h0 h1
  rw [e, sameL_refl, sameL_refl, sameL_refl]; rfl
theorem r8S_are (hv : validS wd hi P L = true) (hn : ss.length ≤ 3) (hs : ∀ i : Int, 0 ≤ i → i < (ss.length : Int) → r8S wd hi (gl ss i)) : areSrcB wd hi wr P L ss = true := areSrc_yes hv (by omega) fun i a b => r8S_src (hs i a b)
theorem r8P_are (hv : validS wd hi P L = true) (hn2 : ps.length ≤ 4) (hp : ∀ i : Int, 0 ≤ i → i < (ps.length : Int) → r8P wd hi (gl ps i)) : areProbesB wd hi P L ps = true := probesB_yes hv (by omega) fun i a b => by
  have := hp i a b
  unfold r8P at this
  simp only [cellB, within, Bool.and_eq_true, decide_eq_true_eq]; omega
theorem r8_read {E X Y : List Nat} (hf : fieldB wd hi wr P L E X Y = true) (ha : areProbesB wd hi P L ps = true) : readB wd hi wr P L E X Y ps = true := by rw [readB_i, hf, ha]; rfl
theorem rec_end {n k : Int} (h0 : 0 < n) (hk : 0 ≤ k) (hp : r8P wd hi (gl ps k)) {m : Int} (hm : k < m) : sameN (el (readL wd (rsT wd hi wr P L ss fr F n.toNat).1 ps m) k) (el (rcT wd hi wr P L ss fr F (gl ps k) n) (n - 1)) = true := by
  have e : el (readL wd (rsT wd hi wr P L ss fr F n.toNat).1 ps m) k = el (rcT wd hi wr P L ss fr F (gl ps k) n) (n - 1) := by
    unfold readL rcT
    rw [el_tab hk hm, el_tab (by omega) (by omega), atI_in hp.1.1 hp.1.2 hp.2.1 hp.2.2, show n - 1 + 1 = n by omega]
  rw [e]; exact sameN_refl _
theorem rsB_yes {E X Y : List Nat} {ct : Int} (hf : fieldB wd hi wr P L E X Y = true) (hv : validS wd hi P L = true) (hn : ss.length ≤ 3) (hs : ∀ i : Int, 0 ≤ i → i < (ss.length : Int) → r8S wd hi (gl ss i)) (hn2 : ps.length ≤ 4) (hp : ∀ i : Int, 0 ≤ i → i < (ps.length : Int) → r8P wd hi (gl ps i)) (h0 : 0 ≤ fr ∧ fr ≤ 100) (h1 : 0 ≤ ct ∧ ct ≤ 64) : rsB wd hi wr P L E X Y ss ps fr ct = true := by
  have h2 : areSrcB wd hi wr P L ss = true := areSrc_yes hv (by omega) fun i a b => r8S_src (hs i a b)
  have h3 : areProbesB wd hi P L ps = true := probesB_yes hv (by omega) fun i a b => by
    have := hp i a b
    unfold r8P at this
    simp only [cellB, within, Bool.and_eq_true, decide_eq_true_eq]; omega
  have h4 : ticksB fr ct = true := by
    simp only [ticksB, isTick, within, Bool.and_eq_true, Bool.or_eq_true, decide_eq_true_eq]; omega
  simp only [rsB, hf, h2, h3, h4, Bool.and_self]
end
theorem Fam.rdy {α : Type} [Inhabited α] {w : World} {k : Kd α} {T : Nat} {Z : List (Option Addr × Nat × Nat)} {X : List (List α)} {i : Int} {a : Option Addr} {n c : Nat} {Y : List α} (h : Fam w k T allP Z X) (h0 : 0 ≤ i) (h1 : i < (Z.length : Int)) (hz : gl Z i = (a, n, c)) (hx : gl X i = Y) : Rd w k a n Y := hx ▸ (h.own h0 h1 hz).rd
/-- A new list lies beyond what was there; what becomes of it too. -/
theorem New.geA {α : Type} {k : Kd α} {w w' : World} {a : Option Addr} {n c T : Nat} {X : List α} (h : New w w' [.ow k a n c T X]) {q : Nat} (hq : inA a q) : w.heap.size ≤ q := h.2.2.2 (.ow k a n c T X) (List.mem_singleton.2 rfl) q hq
theorem Upd.inA {α : Type} {k : Kd α} {w w' : World} {a a2 : Option Addr} {n c T n2 c2 T2 : Nat} {X X2 : List α} (h : Upd w w' [.ow k a n c T X] [.ow k a2 n2 c2 T2 X2]) {q : Nat} (hq : inA a2 q) (hl : q < w.heap.size) : Go.Wv.inA a q := by
  obtain ⟨f, hf, _, hh⟩ := h.2.2.2 (.ow k a2 n2 c2 T2 X2) (List.mem_singleton.2 rfl) q hq hl
  rcases List.mem_cons.1 hf with rfl | hf
  · exact hh
  · cases hf
end Go.Wv

