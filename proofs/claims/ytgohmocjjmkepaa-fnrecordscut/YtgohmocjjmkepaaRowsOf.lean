/- Texts that the walks rest on, joined. -/
import Derived.Test.YtgohmocjjmkepaaBaseB
import Derived.ProofKit
import Derived.OpenShut
import Derived.Carry
import Derived.Deep.Slices
import Derived.Deep.Fields
import Derived.Test.YtgohmocjjmkepaaModA
import Derived.Test.YtgohmocjjmkepaaModB
set_option linter.unusedSimpArgs false
set_option linter.unusedVariables false
/- From a contract to the given row: how arguments read, and what the row asks behind the call. -/
namespace Go.Wv
open Go.ChangeShapes Go.WideShapes Go.ChangeAt Go.RowKit

section
variable {H : Type} {enc : TypeId × Value → H} {P : Program} {W W' : World}

theorem trodAll_below (hl : laidOutB P = true) : ∀ (ts : List TypeId) (vs : List Value) (ds : List (DataW H)) (ps : List MemPlace), (ts.all fun t => P.readableRec t && decide (t < P.types.size)) = true →
    DataW.TrodAll enc P W 0 (fun _ => true) true ts vs ds ps → Below W.heap.size W W' → (∀ x ∈ ps, x.block < W.heap.size) → DataW.TrodAll enc P W' 0 (fun b => decide (b < W.heap.size)) true ts vs ds ps
  | [], vs, ds, ps, _, h, _, _ => by
    obtain ⟨rfl, rfl, rfl⟩ := trodAll_nil h
    exact trodAll_mk0
  | t :: ts, vs, ds, ps, hr, h, hb, hlt => by
    obtain ⟨v, vs', d, ds', p, q, rfl, rfl, rfl, h1, h2⟩ := trodAll_cons h
    simp only [List.all_cons, Bool.and_eq_true, decide_eq_true_eq] at hr
    exact ⟨p, q, Below.trod hl hr.1.1 hr.1.2 h1 hb (fun x hx => hlt x (by simp [hx])), trodAll_below hl ts vs' ds' q hr.2 h2 hb (fun x hx => hlt x (by simp [hx])), rfl⟩

theorem law_post {f : Func} {s : ChangeSpec} {T : TypeId} {args : Array Value} {ds gs : List (DataW H)} {before : List MemPlace} (hl : laidOutB P = true) (hrd : (f.params.toList.all fun t => P.readableRec t && decide (t < P.types.size)) = true)
    (hW : DataW.Whole enc P f.params.toList s.vars false W args.toList ds gs before) (hv : s.vars = []) (hr : f.resultTypes = #[T]) (hT : P.underlying T = some .bool)
    (hs : s.fn H ds = { results := [.lit (.bool true)], args := ds }) (hb : Below W.heap.size W W') : s.post enc P f false true false false W args (.bool true) W' := by
  have hW' := hW
  obtain ⟨p, q, h1, h2, rfl, hz, hn⟩ := hW
  rw [hv] at h2
  obtain ⟨rfl, rfl⟩ := trodVars_none h2
  refine ⟨ds, [], p ++ [], [], p, [], hW', ?_, ?_, ?_, ?_, fun h => by cases h⟩
  · rw [List.append_nil, hs, hr]
    exact trodAll_mk1 (shut_bool hT _)
  · rw [List.append_nil, hs]
    exact trodAll_below hl _ _ _ _ hrd h1 hb (fun x hx => by simpa using hW'.lt x (by simp [hx]))
  · rw [List.append_nil, hs, hv]; exact rfl
  · exact hb.frame _

/-! ### what an argument's cells are -/
section
variable {base : Nat} {spare : Nat → Bool} {held : Bool} {fuel : Nat} {t e : TypeId} {c : Value} {x : DataW H × List MemPlace}

theorem rd_int {k : IntKind} (ht : P.underlying t = some (.int k)) (h : DataW.trod enc P W base spare held fuel t [c] = some x) : ∃ n, c = .int k n ∧ (Lit.int k n).wf = true := by
  cases fuel with
  | zero => simp [DataW.trod] at h
  | succ m =>
    cases c <;> simp only [DataW.trod, ht] at h <;> first | (cases h; done) | skip
    split at h
    · rename_i hh; obtain ⟨rfl, hw⟩ := hh; exact ⟨_, rfl, hw⟩
    · cases h
theorem rd_bool (ht : P.underlying t = some .bool) (h : DataW.trod enc P W base spare held fuel t [c] = some x) : ∃ b, c = .bool b := by
  cases fuel with
  | zero => simp [DataW.trod] at h
  | succ m =>
    cases c <;> simp only [DataW.trod, ht] at h <;> first | (cases h; done) | exact ⟨_, rfl⟩
theorem rd_flt {k : FloatKind} (ht : P.underlying t = some (.float k)) (h : DataW.trod enc P W base spare held fuel t [c] = some x) : ∃ b, c = .float k b := by
  cases fuel with
  | zero => simp [DataW.trod] at h
  | succ m =>
    cases c <;> simp only [DataW.trod, ht] at h <;> first | (cases h; done) | skip
    split at h
    · rename_i hh; obtain ⟨rfl, hw⟩ := hh; exact ⟨_, rfl⟩
    · cases h

theorem addr_of_cell {w : World} {a : Addr} {v : Value} (h : w.cell? a = some v) : a = ⟨a.block, a.off, none⟩ := by
  obtain ⟨b, o, s⟩ := a
  cases s with
  | none => rfl
  | some s =>
    simp only [World.cell?] at h
    split at h <;> simp at h

/-- A slice whose elements are one cell, each of which reads as 'f' of something. -/
theorem rd_slice {α : Type} {f : α → Value} (ht : P.underlying t = some (.slice e)) (hc : P.cellsOf e = 1) (hf : ∀ (m : Nat) (c : Value) (y : DataW H × List MemPlace), DataW.trod enc P W base spare held m e [c] = some y → ∃ z, c = f z)
    (h : DataW.trod enc P W base spare held fuel t [c] = some x) : ∃ (a : Option Addr) (xs : List α) (cap : Nat), c = .slice a xs.length cap ∧ xs.length ≤ maxLen ∧ Sl W a (xs.map f) := by
  rcases Go.Deep.open_slice1 ht hc h with ⟨h0, _⟩ | ⟨a, len, cap, m, n, V, D, Pl, h0, _, hl, hm, hmm, _, hx⟩
  · simp only [List.cons.injEq, and_true] at h0
    exact ⟨none, [], 0, h0, Nat.zero_le _, Sl.nil _ _⟩
  · simp only [List.cons.injEq, and_true] at h0
    have hlm : len ≤ m := by rw [hmm]; split <;> omega
    have hall : ∀ k, k ≤ len → ∃ xs : List α, xs.length = k ∧ ∀ i (hi : i < k), ∃ z, xs[i]? = some z ∧ V i = f z := by
      intro k
      induction k with
      | zero => intro _; exact ⟨[], rfl, fun i hi => absurd hi (Nat.not_lt_zero _)⟩
      | succ k ih =>
        intro hk
        obtain ⟨xs, h1, h2⟩ := ih (by omega)
        obtain ⟨z, hz⟩ := hf _ _ _ (hx k (by omega)).2
        refine ⟨xs ++ [z], by simp [h1], fun i hi => ?_⟩
        by_cases hik : i < k
        · obtain ⟨u, hu, hv⟩ := h2 i hik
          exact ⟨u, by rw [List.getElem?_append_left (by omega)]; exact hu, hv⟩
        · obtain rfl : i = k := by omega
          exact ⟨z, by rw [List.getElem?_append_right (by omega), h1]; simp, hz⟩
    obtain ⟨xs, hxl, hxs⟩ := hall len (Nat.le_refl _)
    refine ⟨some a, xs, cap, by rw [h0, hxl], by omega, fun j u hj => ?_⟩
    have hjl : j < len := by
      have := (List.getElem?_eq_some_iff.1 hj).1
      simpa [hxl] using this
    obtain ⟨z, hz, hV⟩ := hxs j hjl
    have hcell := (hx j (by omega)).1
    have h00 := (hx 0 (by omega)).1
    have ha0 : a = ⟨a.block, a.off, none⟩ := by
      have : a.add 0 = a := by simp [Addr.add]
      rw [this] at h00
      exact addr_of_cell h00
    refine ⟨a.block, a.off, by rw [← ha0], ?_⟩
    rw [List.getElem?_map, hz] at hj
    simp only [Option.map_some, Option.some.injEq] at hj
    rw [ha0, add_lit, hV, hj] at hcell
    exact hcell

theorem rd_flts {k : FloatKind} (ht : P.underlying t = some (.slice e)) (hc : P.cellsOf e = 1) (he : P.underlying e = some (.float k)) (h : DataW.trod enc P W base spare held fuel t [c] = some x) :
    ∃ (a : Option Addr) (xs : List Nat) (cap : Nat), c = .slice a xs.length cap ∧ xs.length ≤ maxLen ∧ Sl W a (xs.map (Value.float k)) :=
  rd_slice ht hc (fun _ _ _ hy => rd_flt he hy) h

/-- A struct of one-cell fields. -/
theorem rd_struct {fs : Array Field} {cs : List Value} (ht : P.underlying t = some (.struct fs)) (hone : Go.Deep.oneCellFields P fs = true) (hC : P.cellsOf t = fs.size) (h : DataW.trod enc P W base spare held fuel t cs = some x) :
    cs.length = fs.size ∧ ∀ (j : Nat) (f : Field), fs[j]? = some f → ∃ m c y, cs[j]? = some c ∧ DataW.trod enc P W base spare held m f.type [c] = some y := by
  obtain ⟨xs, n, _, _, hlen, hxl, hf⟩ := DataW.trod_struct ht h
  have hcl : cs.length = fs.size := hlen.trans hC
  refine ⟨hcl, fun j f hj => ?_⟩
  obtain ⟨ho, hk⟩ := Go.Deep.hone_of hone j f hj
  have hjl : j < fs.size := (Array.getElem?_eq_some_iff.1 hj).1
  have h1 := hf j f hj
  rw [ho, hk, List.drop_eq_getElem_cons (by omega)] at h1
  simp only [List.take_succ_cons, List.take_zero] at h1
  exact ⟨n, cs[j]'(by omega), xs[j]'(by omega), List.getElem?_eq_getElem _, by rw [h1]; exact List.getElem?_eq_getElem _⟩

/-! ### arguments -/
theorem one_of_slice {r : Reach} {b0 : Nat} {v : Value} (ht : P.underlying t = some (.slice e)) (hv : Value.okWide P W r b0 t v) : v.cells.toList = [v] := by
  simp only [Value.okWide, ht, Cell.okWide] at hv
  cases v <;> first | rfl | (simp [Cell.ok, ht] at hv)
theorem arg_flts {r : Reach} {b0 : Nat} {v : Value} {d : DataW H} {ps : List MemPlace} (ht : P.underlying t = some (.slice e)) (hc : P.cellsOf e = 1) (he : P.underlying e = some (.float .f32)) (hv : Value.okWide P W r b0 t v)
    (h : DataW.Trod enc P W base spare held t v d ps) : ∃ (a : Option Addr) (xs : List Nat) (cap : Nat), v = .slice a xs.length cap ∧ xs.length ≤ maxLen ∧ Sl W a (flts xs) := by
  obtain ⟨fuel, hf⟩ := h
  rw [one_of_slice ht hv] at hf
  exact rd_flts ht hc he hf
theorem arg_struct {r : Reach} {b0 : Nat} {v : Value} {d : DataW H} {ps : List MemPlace} {fs : Array Field} (ht : P.underlying t = some (.struct fs)) (hone : Go.Deep.oneCellFields P fs = true) (hC : P.cellsOf t = fs.size) (hv : Value.okWide P W r b0 t v)
    (h : DataW.Trod enc P W base spare held t v d ps) : ∃ cs : List Value, v = .agg cs.toArray ∧ cs.length = fs.size ∧ ∀ (j : Nat) (f : Field), fs[j]? = some f → ∃ m c y, cs[j]? = some c ∧ DataW.trod enc P W base spare held m f.type [c] = some y := by
  obtain ⟨fuel, hf⟩ := h
  simp only [Value.okWide, ht] at hv
  obtain ⟨cs, rfl, _, _⟩ := hv
  exact ⟨cs.toList, rfl, rd_struct ht hone hC hf⟩
theorem list_of {cs l : List Value} (hl : cs.length = l.length) (h : ∀ (j : Nat) (c : Value), l[j]? = some c → cs[j]? = some c) : cs = l := by
  apply List.ext_getElem?
  intro j
  by_cases hj : j < l.length
  · rw [List.getElem?_eq_getElem hj]; exact h j _ (List.getElem?_eq_getElem hj)
  · rw [List.getElem?_eq_none (by omega), List.getElem?_eq_none (by omega)]
end
end
end Go.Wv

/- Rows: arguments that are slices of structs. -/
namespace Go.Wv
section
variable {P : Program} {H : Type} {enc : TypeId × Value → H} {W W' : World}
variable {base : Nat} {spare : Nat → Bool} {held : Bool} {fuel : Nat} {t e : TypeId} {c : Value} {x : DataW H × List MemPlace}
theorem add_add (a : Addr) (m n : Nat) : (a.add m).add n = a.add (m + n) := by
  unfold Addr.add
  by_cases hm : m = 0
  · by_cases hn : n = 0 <;> simp [hm, hn]
  · by_cases hn : n = 0 <;> simp [hm, hn, Nat.add_assoc]
theorem rd_rows {α : Type} {f : α → List Value} {s : Nat} (hlen : ∀ z, (f z).length = s) (h0s : 0 < s) (ht : P.underlying t = some (.slice e)) (hc : P.cellsOf e = s)
    (hf : ∀ (m : Nat) (cs : List Value) (y : DataW H × List MemPlace), DataW.trod enc P W base spare held m e cs = some y → ∃ z, cs = f z)
    (h : DataW.trod enc P W base spare held fuel t [c] = some x) : ∃ (a : Option Addr) (xs : List α) (cap : Nat), c = .slice a xs.length cap ∧ xs.length ≤ maxLen ∧ Sl W a (flat f xs) := by
  rcases Go.Deep.open_slice ht h with ⟨h0, _⟩ | ⟨a, len, cap, m, n, D, Pl, h0, _, hl, hm, hmm, _, hx⟩
  · simp only [List.cons.injEq, and_true] at h0
    exact ⟨none, [], 0, h0, Nat.zero_le _, Sl.nil _ _⟩
  · simp only [List.cons.injEq, and_true] at h0
    have hlm : len ≤ m := by rw [hmm]; split <;> omega
    have hall : ∀ k, k ≤ len → ∃ xs : List α, xs.length = k ∧ ∀ j u, (flat f xs)[j]? = some u → W.cell? (a.add j) = some u := by
      intro k
      induction k with
      | zero => intro _; exact ⟨[], rfl, fun j u hu => by simp [flat] at hu⟩
      | succ k ih =>
        intro hk
        obtain ⟨xs, h1, h2⟩ := ih (by omega)
        obtain ⟨cs', hcs, hy⟩ := hx k (by omega)
        obtain ⟨z, rfl⟩ := hf _ _ _ hy
        obtain ⟨_, hln, hce⟩ := World.cells?_some hcs
        refine ⟨xs ++ [z], by simp [h1], fun j u hu => ?_⟩
        rw [← flat_snoc] at hu
        by_cases hj : j < (flat f xs).length
        · rw [List.getElem?_append_left hj] at hu; exact h2 j u hu
        · rw [List.getElem?_append_right (by omega)] at hu
          have hfl := flat_length hlen xs
          have hjs : j - (flat f xs).length < s := by rw [← hlen z]; exact (List.getElem?_eq_some_iff.1 hu).1
          have h5 := hce (j - (flat f xs).length) (by rw [hc]; exact hjs)
          rw [hu, hc] at h5
          have h6 : (a.add (k * s)).add (j - (flat f xs).length) = a.add j := by
            rw [add_add]
            congr 1
            rw [hfl, h1]; rw [hfl, h1] at hj; omega
          rw [h6] at h5
          exact h5
    obtain ⟨xs, hxl, hxs⟩ := hall len (Nat.le_refl _)
    refine ⟨some a, xs, cap, by rw [h0, hxl], by omega, fun j u hj => ?_⟩
    have hne : 0 < len := by
      have h1 := (List.getElem?_eq_some_iff.1 hj).1
      rw [flat_length hlen, hxl] at h1
      rcases Nat.eq_zero_or_pos len with e0 | e0
      · rw [e0, Nat.zero_mul] at h1; omega
      · exact e0
    have ha0 : a = ⟨a.block, a.off, none⟩ := by
      have h00 := hxs 0 _ (List.getElem?_eq_getElem (l := flat f xs) (by rw [flat_length hlen, hxl]; exact Nat.mul_pos hne h0s))
      have : a.add 0 = a := by simp [Addr.add]
      rw [this] at h00
      exact addr_of_cell h00
    refine ⟨a.block, a.off, by rw [← ha0], ?_⟩
    have := hxs j u hj
    rw [ha0, add_lit] at this
    exact this
theorem rd_probe {f0 f1 : Field} {k : Nat} {cs : List Value} {y : DataW H × List MemPlace} (he : P.underlying e = some (.struct #[f0, f1])) (hone : Go.Deep.oneCellFields P #[f0, f1] = true) (hC : P.cellsOf e = 2)
    (h0 : P.underlying f0.type = some (.int .i64)) (h1 : P.underlying f1.type = some (.int .i64)) (h : DataW.trod enc P W base spare held k e cs = some y) : ∃ z, cs = prC z := by
  obtain ⟨hl, hf⟩ := rd_struct he hone hC h
  obtain ⟨m, c, y, hc, ht⟩ := hf 0 f0 rfl
  obtain ⟨m', c', y', hc', ht'⟩ := hf 1 f1 rfl
  obtain ⟨a, rfl, _⟩ := rd_int h0 ht
  obtain ⟨b, rfl, _⟩ := rd_int h1 ht'
  refine ⟨(a, b), ?_⟩
  exact list_of hl fun j c hj => by
    rcases j with _ | _ | j
    · simp [prC] at hj; subst hj; exact hc
    · simp [prC] at hj; subst hj; exact hc'
    · simp [prC] at hj
theorem arg_probes {r : Reach} {b0 : Nat} {v : Value} {d : DataW H} {ps : List MemPlace} {f0 f1 : Field} (ht : P.underlying t = some (.slice e)) (he : P.underlying e = some (.struct #[f0, f1])) (hone : Go.Deep.oneCellFields P #[f0, f1] = true) (hC : P.cellsOf e = 2)
    (h0 : P.underlying f0.type = some (.int .i64)) (h1 : P.underlying f1.type = some (.int .i64)) (hv : Value.okWide P W r b0 t v)
    (h : DataW.Trod enc P W base spare held t v d ps) : ∃ (a : Option Addr) (xs : List (Int × Int)) (cap : Nat), v = .slice a xs.length cap ∧ xs.length ≤ maxLen ∧ Sl W a (flat prC xs) := by
  obtain ⟨fuel, hf⟩ := h
  rw [one_of_slice ht hv] at hf
  exact rd_rows prC_len (by decide) ht hC (fun _ _ _ hy => rd_probe he hone hC h0 h1 hy) hf
end
end Go.Wv

/- Rows: arguments that are slices of sources. -/
namespace Go.Wv
section
variable {P : Program} {H : Type} {enc : TypeId × Value → H} {W : World}
variable {base : Nat} {spare : Nat → Bool} {held : Bool} {fuel : Nat} {t e : TypeId} {c : Value} {x : DataW H × List MemPlace}
/-- The cells of a source, with the bits of its numbers. -/
def srC (s : Src) : List Value := [.int .i64 s.x, .int .i64 s.y, .bool s.hd, .int .i64 s.kd, .int .i64 s.tt, .int .i64 s.ln, .float .f32 s.tn, .float .f32 s.sz, .int .i64 s.sd]
theorem srC_len (s : Src) : (srC s).length = 9 := rfl
def canS (s : Src) : Src := { s with tn := can .f32 s.tn, sz := can .f32 s.sz }
theorem reps_srC : ∀ ss : List Src, (∀ s ∈ ss, s.tn < wid .f32 ∧ s.sz < wid .f32) → Reps kS (ss.map canS) (flat srC ss)
  | [], _ => rfl
  | s :: ss, h => ⟨srC s, flat srC ss, rfl, ⟨s.tn, s.sz, rfl, ⟨rfl, (h s (by simp)).1⟩, ⟨rfl, (h s (by simp)).2⟩⟩, reps_srC ss fun q hq => h q (by simp [hq])⟩
theorem Rd.ofS {a : Option Addr} {ss : List Src} (hx : ∀ s ∈ ss, s.tn < wid .f32 ∧ s.sz < wid .f32) (h : Sl W a (flat srC ss)) : Rd W kS a ss.length (ss.map canS) := ⟨flat srC ss, List.length_map .., reps_srC ss hx, h⟩
theorem rd_source {f0 f1 f2 f3 g0 g1 g2 g3 g4 g5 : Field} {k : Nat} {cs : List Value} {y : DataW H × List MemPlace} (he : P.underlying e = some (.struct #[f0, f1, f2, f3])) (hC : P.cellsOf e = 9)
    (ho : (f0.offset, f1.offset, f2.offset, f3.offset) = (0, 1, 2, 3)) (hk : (P.cellsOf f0.type, P.cellsOf f1.type, P.cellsOf f2.type, P.cellsOf f3.type) = (1, 1, 1, 6))
    (t0 : P.underlying f0.type = some (.int .i64)) (t1 : P.underlying f1.type = some (.int .i64)) (t2 : P.underlying f2.type = some .bool)
    (hw : P.underlying f3.type = some (.struct #[g0, g1, g2, g3, g4, g5])) (hone : Go.Deep.oneCellFields P #[g0, g1, g2, g3, g4, g5] = true)
    (u0 : P.underlying g0.type = some (.int .i64)) (u1 : P.underlying g1.type = some (.int .i64)) (u2 : P.underlying g2.type = some (.int .i64)) (u3 : P.underlying g3.type = some (.float .f32)) (u4 : P.underlying g4.type = some (.float .f32)) (u5 : P.underlying g5.type = some (.int .i64))
    (h : DataW.trod enc P W base spare held k e cs = some y) : ∃ z, cs = srC z := by
  obtain ⟨xs, n, _, _, hlen, hxl, hf⟩ := DataW.trod_struct he h
  simp only [Prod.mk.injEq] at ho hk
  rw [hC] at hlen
  match cs, hlen, xs, hxl with
  | [c0, c1, c2, c3, c4, c5, c6, c7, c8], _, [y0, y1, y2, y3], _ =>
    have a0 := hf 0 f0 rfl
    have a1 := hf 1 f1 rfl
    have a2 := hf 2 f2 rfl
    have a3 := hf 3 f3 rfl
    rw [ho.1, hk.1] at a0
    rw [ho.2.1, hk.2.1] at a1
    rw [ho.2.2.1, hk.2.2.1] at a2
    rw [ho.2.2.2, hk.2.2.2] at a3
    obtain ⟨i0, rfl, _⟩ := rd_int t0 a0
    obtain ⟨i1, rfl, _⟩ := rd_int t1 a1
    obtain ⟨b2, rfl⟩ := rd_bool t2 a2
    obtain ⟨_, hg⟩ := rd_struct hw hone hk.2.2.2 a3
    obtain ⟨_, d0, _, e0, v0⟩ := hg 0 g0 rfl
    obtain ⟨_, d1, _, e1, v1⟩ := hg 1 g1 rfl
    obtain ⟨_, d2, _, e2, v2⟩ := hg 2 g2 rfl
    obtain ⟨_, d3, _, e3, v3⟩ := hg 3 g3 rfl
    obtain ⟨_, d4, _, e4, v4⟩ := hg 4 g4 rfl
    obtain ⟨_, d5, _, e5, v5⟩ := hg 5 g5 rfl
    cases e0; cases e1; cases e2; cases e3; cases e4; cases e5
    obtain ⟨j0, rfl, _⟩ := rd_int u0 v0
    obtain ⟨j1, rfl, _⟩ := rd_int u1 v1
    obtain ⟨j2, rfl, _⟩ := rd_int u2 v2
    obtain ⟨j3, rfl⟩ := rd_flt u3 v3
    obtain ⟨j4, rfl⟩ := rd_flt u4 v4
    obtain ⟨j5, rfl, _⟩ := rd_int u5 v5
    exact ⟨⟨i0, i1, b2, j0, j1, j2, j3, j4, j5⟩, rfl⟩
theorem arg_sources {r : Reach} {b0 : Nat} {v : Value} {d : DataW H} {ps : List MemPlace} {f0 f1 f2 f3 g0 g1 g2 g3 g4 g5 : Field} (ht : P.underlying t = some (.slice e)) (he : P.underlying e = some (.struct #[f0, f1, f2, f3])) (hC : P.cellsOf e = 9)
    (ho : (f0.offset, f1.offset, f2.offset, f3.offset) = (0, 1, 2, 3)) (hk : (P.cellsOf f0.type, P.cellsOf f1.type, P.cellsOf f2.type, P.cellsOf f3.type) = (1, 1, 1, 6))
    (t0 : P.underlying f0.type = some (.int .i64)) (t1 : P.underlying f1.type = some (.int .i64)) (t2 : P.underlying f2.type = some .bool)
    (hw : P.underlying f3.type = some (.struct #[g0, g1, g2, g3, g4, g5])) (hone : Go.Deep.oneCellFields P #[g0, g1, g2, g3, g4, g5] = true)
    (u0 : P.underlying g0.type = some (.int .i64)) (u1 : P.underlying g1.type = some (.int .i64)) (u2 : P.underlying g2.type = some (.int .i64)) (u3 : P.underlying g3.type = some (.float .f32)) (u4 : P.underlying g4.type = some (.float .f32)) (u5 : P.underlying g5.type = some (.int .i64))
    (hv : Value.okWide P W r b0 t v) (h : DataW.Trod enc P W base spare held t v d ps) : ∃ (a : Option Addr) (xs : List Src) (cap : Nat), v = .slice a xs.length cap ∧ xs.length ≤ maxLen ∧ Sl W a (flat srC xs) := by
  obtain ⟨fuel, hf⟩ := h
  rw [one_of_slice ht hv] at hf
  exact rd_rows srC_len (by decide) ht hC (fun _ _ _ hy => rd_source he hC ho hk t0 t1 t2 hw hone u0 u1 u2 u3 u4 u5 hy) hf
end
end Go.Wv

/- Rows: arguments that are slices of bytes. -/
namespace Go.Wv
section
variable {P : Program} {H : Type} {enc : TypeId × Value → H} {W W' : World}
variable {base : Nat} {spare : Nat → Bool} {held : Bool} {fuel : Nat} {t e : TypeId} {c : Value} {x : DataW H × List MemPlace}
theorem reps_bytes : ∀ xs : List {z : Nat // z < 256}, Reps kY (xs.map Subtype.val) (xs.map fun z => Value.int .u8 ((z.1 : Nat) : Int))
  | [] => (rfl : Reps kY [] [])
  | z :: xs => reps_cons (c := [.int .u8 ((z.1 : Nat) : Int)]) ⟨rfl, z.2⟩ (reps_bytes xs)
theorem arg_bytes {r : Reach} {b0 : Nat} {v : Value} {d : DataW H} {ps : List MemPlace} (ht : P.underlying t = some (.slice e)) (hc : P.cellsOf e = 1) (he : P.underlying e = some (.int .u8)) (hv : Value.okWide P W r b0 t v)
    (h : DataW.Trod enc P W base spare held t v d ps) : ∃ (a : Option Addr) (xs : List Nat) (cap : Nat), v = .slice a xs.length cap ∧ xs.length ≤ maxLen ∧ Rd W kY a xs.length xs := by
  obtain ⟨fuel, hf⟩ := h
  rw [one_of_slice ht hv] at hf
  obtain ⟨a, xs, cap, h1, h2, h3⟩ := rd_slice (α := {z : Nat // z < 256}) (f := fun z => .int .u8 ((z.1 : Nat) : Int)) ht hc (fun m c y hy => by
    obtain ⟨n, rfl, hw⟩ := rd_int he hy
    have hn : 0 ≤ n ∧ n ≤ 255 := by
      simp [Lit.wf, IntKind.min, IntKind.max, IntKind.signed, IntKind.bits] at hw
      omega
    exact ⟨⟨n.toNat, by omega⟩, by show Value.int .u8 n = .int .u8 ((n.toNat : Nat) : Int); rw [show ((n.toNat : Nat) : Int) = n by omega]⟩) hf
  have hl : (xs.map Subtype.val).length = xs.length := List.length_map _
  refine ⟨a, xs.map Subtype.val, cap, by rw [hl]; exact h1, by rw [hl]; exact h2, _, rfl, reps_bytes xs, h3⟩
end
end Go.Wv

