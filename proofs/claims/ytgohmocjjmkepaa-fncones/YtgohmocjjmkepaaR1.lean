/- From a contract to the given row: how arguments read, and what the row asks behind the call. -/
import Derived.Test.YtgohmocjjmkepaaL1
import Derived.ProofKit
import Derived.OpenShut
import Derived.Carry
import Derived.Deep.Slices
import Derived.Deep.Fields
set_option linter.unusedSimpArgs false
set_option linter.unusedVariables false
namespace Go.Wv
open Go.ChangeShapes Go.WideShapes Go.ChangeAt Go.RowKit

section
variable {H : Type} {enc : TypeId × Value → H} {P : Program} {W W' : World}

theorem trodAll_below (hl : laidOutB P = true) : ∀ (ts : List TypeId) (vs : List Value) (ds : List (DataW H)) (ps : List MemPlace), (ts.all fun t => P.readableRec t && decide (t < P.types.size)) = true →
    DataW.TrodAll enc P W 0 (fun _ => true) true ts vs ds ps → Below W.heap.size W W' → (∀ x ∈ ps, x.block < W.heap.size) → DataW.TrodAll enc P W' 0 (fun b => decide (b < W.heap.size)) true ts vs ds ps
  | [], vs, ds, ps, _, h, _, _ => by
    obtain ⟨rfl, rfl, rfl⟩ := trodAll_nil h
    exact trodAll_mk0
  | t :: ts, vs, ds, ps, hr, h, hb, hlt => by
    obtain ⟨v, vs', d, ds', p, q, rfl, rfl, rfl, h1, h2⟩ := trodAll_cons h
    simp only [List.all_cons, Bool.and_eq_true, decide_eq_true_eq] at hr
    exact ⟨p, q, Below.trod hl hr.1.1 hr.1.2 h1 hb (fun x hx => hlt x (by simp [hx])), trodAll_below hl ts vs' ds' q hr.2 h2 hb (fun x hx => hlt x (by simp [hx])), rfl⟩

theorem law_post {f : Func} {s : ChangeSpec} {T : TypeId} {args : Array Value} {ds gs : List (DataW H)} {before : List MemPlace} (hl : laidOutB P = true) (hrd : (f.params.toList.all fun t => P.readableRec t && decide (t < P.types.size)) = true)
    (hW : DataW.Whole enc P f.params.toList s.vars false W args.toList ds gs before) (hv : s.vars = []) (hr : f.resultTypes = #[T]) (hT : P.underlying T = some .bool)
    (hs : s.fn H ds = { results := [.lit (.bool true)], args := ds }) (hb : Below W.heap.size W W') : s.post enc P f false true false false W args (.bool true) W' := by
  have hW' := hW
  obtain ⟨p, q, h1, h2, rfl, hz, hn⟩ := hW
  rw [hv] at h2
  obtain ⟨rfl, rfl⟩ := trodVars_none h2
  refine ⟨ds, [], p ++ [], [], p, [], hW', ?_, ?_, ?_, ?_, fun h => by cases h⟩
  · rw [List.append_nil, hs, hr]
    exact trodAll_mk1 (shut_bool hT _)
  · rw [List.append_nil, hs]
    exact trodAll_below hl _ _ _ _ hrd h1 hb (fun x hx => by simpa using hW'.lt x (by simp [hx]))
  · rw [List.append_nil, hs, hv]; exact rfl
  · exact hb.frame _

/-! ### what an argument's cells are -/
section
variable {base : Nat} {spare : Nat → Bool} {held : Bool} {fuel : Nat} {t e : TypeId} {c : Value} {x : DataW H × List MemPlace}

theorem rd_int {k : IntKind} (ht : P.underlying t = some (.int k)) (h : DataW.trod enc P W base spare held fuel t [c] = some x) : ∃ n, c = .int k n ∧ (Lit.int k n).wf = true := by
  cases fuel with
  | zero => simp [DataW.trod] at h
  | succ m =>
    cases c <;> simp only [DataW.trod, ht] at h <;> first | (cases h; done) | skip
    split at h
    · rename_i hh; obtain ⟨rfl, hw⟩ := hh; exact ⟨_, rfl, hw⟩
    · cases h
theorem rd_bool (ht : P.underlying t = some .bool) (h : DataW.trod enc P W base spare held fuel t [c] = some x) : ∃ b, c = .bool b := by
  cases fuel with
  | zero => simp [DataW.trod] at h
  | succ m =>
    cases c <;> simp only [DataW.trod, ht] at h <;> first | (cases h; done) | exact ⟨_, rfl⟩
theorem rd_flt {k : FloatKind} (ht : P.underlying t = some (.float k)) (h : DataW.trod enc P W base spare held fuel t [c] = some x) : ∃ b, c = .float k b := by
  cases fuel with
  | zero => simp [DataW.trod] at h
  | succ m =>
    cases c <;> simp only [DataW.trod, ht] at h <;> first | (cases h; done) | skip
    split at h
    · rename_i hh; obtain ⟨rfl, hw⟩ := hh; exact ⟨_, rfl⟩
    · cases h

theorem addr_of_cell {w : World} {a : Addr} {v : Value} (h : w.cell? a = some v) : a = ⟨a.block, a.off, none⟩ := by
  obtain ⟨b, o, s⟩ := a
  cases s with
  | none => rfl
  | some s =>
    simp only [World.cell?] at h
    split at h <;> simp at h

/-- A slice whose elements are one cell, each of which reads as 'f' of something. -/
theorem rd_slice {α : Type} {f : α → Value} (ht : P.underlying t = some (.slice e)) (hc : P.cellsOf e = 1) (hf : ∀ (m : Nat) (c : Value) (y : DataW H × List MemPlace), DataW.trod enc P W base spare held m e [c] = some y → ∃ z, c = f z)
    (h : DataW.trod enc P W base spare held fuel t [c] = some x) : ∃ (a : Option Addr) (xs : List α) (cap : Nat), c = .slice a xs.length cap ∧ xs.length ≤ maxLen ∧ Sl W a (xs.map f) := by
  rcases Go.Deep.open_slice1 ht hc h with ⟨h0, _⟩ | ⟨a, len, cap, m, n, V, D, Pl, h0, _, hl, hm, hmm, _, hx⟩
  · simp only [List.cons.injEq, and_true] at h0
    exact ⟨none, [], 0, h0, Nat.zero_le _, Sl.nil _ _⟩
  · simp only [List.cons.injEq, and_true] at h0
    have hlm : len ≤ m := by rw [hmm]; split <;> omega
    have hall : ∀ k, k ≤ len → ∃ xs : List α, xs.length = k ∧ ∀ i (hi : i < k), ∃ z, xs[i]? = some z ∧ V i = f z := by
      intro k
      induction k with
      | zero => intro _; exact ⟨[], rfl, fun i hi => absurd hi (Nat.not_lt_zero _)⟩
      | succ k ih =>
        intro hk
        obtain ⟨xs, h1, h2⟩ := ih (by omega)
        obtain ⟨z, hz⟩ := hf _ _ _ (hx k (by omega)).2
        refine ⟨xs ++ [z], by simp [h1], fun i hi => ?_⟩
        by_cases hik : i < k
        · obtain ⟨u, hu, hv⟩ := h2 i hik
          exact ⟨u, by rw [List.getElem?_append_left (by omega)]; exact hu, hv⟩
        · obtain rfl : i = k := by omega
          exact ⟨z, by rw [List.getElem?_append_right (by omega), h1]; simp, hz⟩
    obtain ⟨xs, hxl, hxs⟩ := hall len (Nat.le_refl _)
    refine ⟨some a, xs, cap, by rw [h0, hxl], by omega, fun j u hj => ?_⟩
    have hjl : j < len := by
      have := (List.getElem?_eq_some_iff.1 hj).1
      simpa [hxl] using this
    obtain ⟨z, hz, hV⟩ := hxs j hjl
    have hcell := (hx j (by omega)).1
    have h00 := (hx 0 (by omega)).1
    have ha0 : a = ⟨a.block, a.off, none⟩ := by
      have : a.add 0 = a := by simp [Addr.add]
      rw [this] at h00
      exact addr_of_cell h00
    refine ⟨a.block, a.off, by rw [← ha0], ?_⟩
    rw [List.getElem?_map, hz] at hj
    simp only [Option.map_some, Option.some.injEq] at hj
    rw [ha0, add_lit, hV, hj] at hcell
    exact hcell

theorem rd_flts {k : FloatKind} (ht : P.underlying t = some (.slice e)) (hc : P.cellsOf e = 1) (he : P.underlying e = some (.float k)) (h : DataW.trod enc P W base spare held fuel t [c] = some x) :
    ∃ (a : Option Addr) (xs : List Nat) (cap : Nat), c = .slice a xs.length cap ∧ xs.length ≤ maxLen ∧ Sl W a (xs.map (Value.float k)) :=
  rd_slice ht hc (fun _ _ _ hy => rd_flt he hy) h

/-- A struct of one-cell fields. -/
theorem rd_struct {fs : Array Field} {cs : List Value} (ht : P.underlying t = some (.struct fs)) (hone : Go.Deep.oneCellFields P fs = true) (hC : P.cellsOf t = fs.size) (h : DataW.trod enc P W base spare held fuel t cs = some x) :
    cs.length = fs.size ∧ ∀ (j : Nat) (f : Field), fs[j]? = some f → ∃ m c y, cs[j]? = some c ∧ DataW.trod enc P W base spare held m f.type [c] = some y := by
  obtain ⟨xs, n, _, _, hlen, hxl, hf⟩ := DataW.trod_struct ht h
  have hcl : cs.length = fs.size := hlen.trans hC
  refine ⟨hcl, fun j f hj => ?_⟩
  obtain ⟨ho, hk⟩ := Go.Deep.hone_of hone j f hj
  have hjl : j < fs.size := (Array.getElem?_eq_some_iff.1 hj).1
  have h1 := hf j f hj
  rw [ho, hk, List.drop_eq_getElem_cons (by omega)] at h1
  simp only [List.take_succ_cons, List.take_zero] at h1
  exact ⟨n, cs[j]'(by omega), xs[j]'(by omega), List.getElem?_eq_getElem _, by rw [h1]; exact List.getElem?_eq_getElem _⟩

/-! ### arguments -/
theorem one_of_slice {r : Reach} {b0 : Nat} {v : Value} (ht : P.underlying t = some (.slice e)) (hv : Value.okWide P W r b0 t v) : v.cells.toList = [v] := by
  simp only [Value.okWide, ht, Cell.okWide] at hv
  cases v <;> first | rfl | (simp [Cell.ok, ht] at hv)
theorem arg_flts {r : Reach} {b0 : Nat} {v : Value} {d : DataW H} {ps : List MemPlace} (ht : P.underlying t = some (.slice e)) (hc : P.cellsOf e = 1) (he : P.underlying e = some (.float .f32)) (hv : Value.okWide P W r b0 t v)
    (h : DataW.Trod enc P W base spare held t v d ps) : ∃ (a : Option Addr) (xs : List Nat) (cap : Nat), v = .slice a xs.length cap ∧ xs.length ≤ maxLen ∧ Sl W a (flts xs) := by
  obtain ⟨fuel, hf⟩ := h
  rw [one_of_slice ht hv] at hf
  exact rd_flts ht hc he hf
theorem arg_struct {r : Reach} {b0 : Nat} {v : Value} {d : DataW H} {ps : List MemPlace} {fs : Array Field} (ht : P.underlying t = some (.struct fs)) (hone : Go.Deep.oneCellFields P fs = true) (hC : P.cellsOf t = fs.size) (hv : Value.okWide P W r b0 t v)
    (h : DataW.Trod enc P W base spare held t v d ps) : ∃ cs : List Value, v = .agg cs.toArray ∧ cs.length = fs.size ∧ ∀ (j : Nat) (f : Field), fs[j]? = some f → ∃ m c y, cs[j]? = some c ∧ DataW.trod enc P W base spare held m f.type [c] = some y := by
  obtain ⟨fuel, hf⟩ := h
  simp only [Value.okWide, ht] at hv
  obtain ⟨cs, rfl, _, _⟩ := hv
  exact ⟨cs.toList, rfl, rd_struct ht hone hC hf⟩
theorem list_of {cs l : List Value} (hl : cs.length = l.length) (h : ∀ (j : Nat) (c : Value), l[j]? = some c → cs[j]? = some c) : cs = l := by
  apply List.ext_getElem?
  intro j
  by_cases hj : j < l.length
  · rw [List.getElem?_eq_getElem hj]; exact h j _ (List.getElem?_eq_getElem hj)
  · rw [List.getElem?_eq_none (by omega), List.getElem?_eq_none (by omega)]
end
end
end Go.Wv
