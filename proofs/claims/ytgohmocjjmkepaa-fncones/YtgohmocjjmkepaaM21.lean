/- Bits of numbers; quiet fields. -/
import Derived.Test.YtgohmocjjmkepaaM20
set_option linter.unusedSimpArgs false
set_option linter.unusedVariables false
namespace Go.Wv
def f32bitsB (P : Program) (f : Nat) : Prop := ∃ fn, P.funcs[f]? = some fn ∧ (fn.name == "runtime.NumGoroutine") = false ∧ fn.body.isNone = true ∧ (Extern.findNext fn).isNone = true ∧ Extern.find fn = some Extern.MathFloatBits.float32bits
section
variable {P : Program} {ρ : Env} {w : World} {d : Option Tmp} {ty : TypeId} {pos : String} {aft : Array Edge} {g : Option (Nat × Bool)} {x : Operand} {K : Value → World → Prop}
theorem k_f32bits {f : Nat} {as : List Operand} {ts : Array TypeId} {b : Nat} (h : f32bitsB P f) (ha : as.map (ev ρ) = [.float .f32 b]) (k : K (.int .u32 (b : Int)) w) :
    opk P ⟨d, .call { callee := .value (.func f), args := as.toArray, argTypes := ts }, ty, pos, aft, g⟩ ρ w K := by
  obtain ⟨fn, hf, h1, h2, h3, h4⟩ := h
  have h3' : Extern.findNext fn = none := by simpa using h3
  have he : Extern.MathFloatBits.float32bits #[.float .f32 b] = pure (.int .u32 (b : Int)) := rfl
  have hr : (callFunc f #[.float .f32 b]).run P w = .ok (.value (.int .u32 (b : Int))) w := by
    have n1 : ¬ fn.name = "runtime.NumGoroutine" := by simpa using h1
    have n2 : fn.body = none := by simpa using h2
    simp [callFunc, hf, n1, n2, h3', h4, he]
  have hm : as.toArray.map (ev ρ) = #[.float .f32 b] := by rw [List.map_toArray, ha]
  unfold opk
  simp only [execOp, resolve, Sem.run_bind, Sem.run_pure, Deferred.ofValue, ev, Result.andThen_ok, invoke, Array.empty_append, Array.append_empty, hm, hr]
  exact k
end
theorem wid32 {r : Nat} (h : r < wid .f32) : r < 4294967296 := h
/-- The bits of a number, those of every not-a-number as one. -/
def bitN (X : Nat) : Int := if fne .f32 X X = true then 2143289344 else (X : Int)
theorem bitN_nan {X : Nat} (h : fne .f32 X X = true) : 2143289344 = bitN X := by unfold bitN; rw [if_pos h]
theorem bitN_num {r X : Nat} (hx : Cn .f32 r X) (h : ¬ fne .f32 X X = true) : ((r : Nat) : Int) = bitN X := by
  unfold bitN
  rw [if_neg h]
  have hn : nanb .f32 r = false := by
    have e := fne_self .f32 X
    rw [← nanb_can, hx.1, ← e]; simpa using h
  have := can_of_not hn hx.2
  rw [hx.1] at this
  rw [this]
/-- A number below 'n' that a byte of the input chooses, or its index behind the end. -/
def b10A (X : List Nat) (k n : Int) : Int := if n ≤ 1 then 0 else if k < (X.length : Int) then byt X k % n else (k * 37 + 11) % n
theorem b10A_b (X : List Nat) {k n : Int} (h : 1 ≤ n) (_hk : 0 ≤ k) : 0 ≤ b10A X k n ∧ b10A X k n < n := by
  unfold b10A
  split
  · omega
  · split <;> exact ⟨Int.emod_nonneg _ (by omega), Int.emod_lt_of_pos _ (by omega)⟩
theorem b10A_one {X : List Nat} {k n : Int} (h : n ≤ 1) : b10A X k n = 0 := by unfold b10A; rw [if_pos h]
theorem b10A_in {X : List Nat} {k n : Int} {m : Nat} (hl : X.length = m) (h : ¬ n ≤ 1) (h1 : k < (m : Int)) : b10A X k n = byt X k % n := by unfold b10A; rw [if_neg h, if_pos (by omega)]
theorem b10A_out {X : List Nat} {k n : Int} {m : Nat} (hl : X.length = m) (h : ¬ n ≤ 1) (h1 : ¬ k < (m : Int)) : b10A X k n = (k * 37 + 11) % n := by unfold b10A; rw [if_neg h, if_neg (by omega)]
section
variable {wd hi : Int} {wr : Bool} {P L E X Y : List Nat}
theorem qtI_first {F : Fld} {lv : Nat} : ∀ (n : Nat) (k : Int), 0 ≤ k → 0 ≤ qtI wd hi wr P L F lv n k →
    flt .f32 (pkS (rnT wd hi wr P L F (qtI wd hi wr P L F lv n k).toNat).1) lv = true ∧ ∀ j, k ≤ j → j < qtI wd hi wr P L F lv n k → ¬ flt .f32 (pkS (rnT wd hi wr P L F j.toNat).1) lv = true
  | 0, k, _, h => by simp [qtI] at h
  | n + 1, k, h0, h => by
    simp only [qtI] at h ⊢
    split
    · rename_i hc; exact ⟨hc, fun j h1 h2 => by omega⟩
    · rename_i hc
      rw [if_neg hc] at h
      obtain ⟨a, b⟩ := qtI_first n (k + 1) (by omega) h
      refine ⟨a, fun j h1 h2 => ?_⟩
      by_cases e : j = k
      · subst e; exact hc
      · exact b j (by omega) h2
theorem qt_b {lv : Nat} {m : Int} (h : qtB wd hi wr P L E X Y lv m = true) : 0 ≤ qtV wd hi wr P L (E, X, Y) lv m ∧ qtV wd hi wr P L (E, X, Y) lv m ≤ m ∧ m ≤ 64 := by
  simp only [qtB, Bool.and_eq_true, decide_eq_true_eq] at h
  have h1 := runB_b h.1
  have h2 := h.2
  unfold qtV at h2 ⊢
  rcases qtI_b (wd := wd) (hi := hi) (wr := wr) (P := P) (L := L) (F := (E, X, Y)) (lv := lv) (m + 1 - 0).toNat 0 (Int.le_refl _) with h3 | h3
  · omega
  · omega
theorem qt_run {lv : Nat} {m : Int} (h : qtB wd hi wr P L E X Y lv m = true) : runB wd hi wr P L E X Y (qtV wd hi wr P L (E, X, Y) lv m) = true := by
  have hb := qt_b h
  simp only [qtB, Bool.and_eq_true, runB] at h
  simp only [runB, h.1.1, Bool.true_and, within, Bool.and_eq_true, decide_eq_true_eq]
  omega
theorem el_trL {F : Fld} {FN : Fld → Nat} {n k : Int} (h0 : 0 ≤ k) (h1 : k < n) : el (trL wd hi wr P L F FN n) k = FN (rnT wd hi wr P L F (k + 1).toNat) := by
  unfold trL; rw [el_tab h0 h1]
theorem qt_before {lv : Nat} {m k : Int} (h : qtB wd hi wr P L E X Y lv m = true) (h0 : 0 ≤ k) (h1 : k + 1 < qtV wd hi wr P L (E, X, Y) lv m) :
    ¬ flt .f32 (el (trL wd hi wr P L (E, X, Y) (fun F => pkS F.1) (qtV wd hi wr P L (E, X, Y) lv m)) k) lv = true := by
  have hb := qt_b h
  rw [el_trL h0 (by omega)]
  have := (qtI_first (wd := wd) (hi := hi) (wr := wr) (P := P) (L := L) (F := (E, X, Y)) (lv := lv) (m + 1 - 0).toNat 0 (Int.le_refl _) hb.1).2 (k + 1) (by omega) h1
  exact this
theorem qt_at {lv : Nat} {m : Int} (h : qtB wd hi wr P L E X Y lv m = true) (h1 : ¬ qtV wd hi wr P L (E, X, Y) lv m = 0) :
    flt .f32 (el (trL wd hi wr P L (E, X, Y) (fun F => pkS F.1) (qtV wd hi wr P L (E, X, Y) lv m)) (qtV wd hi wr P L (E, X, Y) lv m - 1)) lv = true := by
  have hb := qt_b h
  rw [el_trL (by omega) (by omega)]
  have := (qtI_first (wd := wd) (hi := hi) (wr := wr) (P := P) (L := L) (F := (E, X, Y)) (lv := lv) (m + 1 - 0).toNat 0 (Int.le_refl _) hb.1).1
  rw [show qtV wd hi wr P L (E, X, Y) lv m - 1 + 1 = qtV wd hi wr P L (E, X, Y) lv m by omega]
  exact this
theorem rowB_yes {y : Int} (h : fieldB wd hi wr P L E X Y = true) (h0 : 0 ≤ y) (h1 : y < hi) : rowB wd hi wr P L E X Y y = true := by
  simp only [rowB, h, within, Bool.true_and, Bool.and_eq_true, decide_eq_true_eq]; omega
theorem colB_yes {x : Int} (h : fieldB wd hi wr P L E X Y = true) (h0 : 0 ≤ x) (h1 : x < wd) : colB wd hi wr P L E X Y x = true := by
  simp only [colB, h, within, Bool.true_and, Bool.and_eq_true, decide_eq_true_eq]; omega
theorem el_row {x y : Int} (h0 : 0 ≤ x) (h1 : x < wd) (h2 : 0 ≤ y) : el (rowS wd E y) x = el E (x + wd * y) := by
  have h3 : 0 ≤ wd * y := Int.mul_nonneg (by omega) h2
  unfold rowS el
  simp only [List.getD_eq_getElem?_getD, List.getElem?_take, List.getElem?_drop]
  rw [if_pos (by omega), show (wd * y).toNat + x.toNat = (x + wd * y).toNat by omega]
theorem row_col {x y : Int} (h0 : 0 ≤ x) (h1 : x < wd) (h2 : 0 ≤ y) (h3 : y < hi) : el (rowS wd E y) x = el (colS wd hi E x) y := by
  rw [el_row h0 h1 h2]
  unfold colS; rw [el_tab h2 h3]
end
end Go.Wv
