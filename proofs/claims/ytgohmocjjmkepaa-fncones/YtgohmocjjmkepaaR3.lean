/- Rows: arguments that are slices of sources. -/
import Derived.Test.YtgohmocjjmkepaaR2
import Derived.Test.YtgohmocjjmkepaaM9
set_option linter.unusedSimpArgs false
set_option linter.unusedVariables false
namespace Go.Wv
section
variable {P : Program} {H : Type} {enc : TypeId × Value → H} {W : World}
variable {base : Nat} {spare : Nat → Bool} {held : Bool} {fuel : Nat} {t e : TypeId} {c : Value} {x : DataW H × List MemPlace}
/-- The cells of a source, with the bits of its numbers. -/
def srC (s : Src) : List Value := [.int .i64 s.x, .int .i64 s.y, .bool s.hd, .int .i64 s.kd, .int .i64 s.tt, .int .i64 s.ln, .float .f32 s.tn, .float .f32 s.sz, .int .i64 s.sd]
theorem srC_len (s : Src) : (srC s).length = 9 := rfl
def canS (s : Src) : Src := { s with tn := can .f32 s.tn, sz := can .f32 s.sz }
theorem reps_srC : ∀ ss : List Src, (∀ s ∈ ss, s.tn < wid .f32 ∧ s.sz < wid .f32) → Reps kS (ss.map canS) (flat srC ss)
  | [], _ => rfl
  | s :: ss, h => ⟨srC s, flat srC ss, rfl, ⟨s.tn, s.sz, rfl, ⟨rfl, (h s (by simp)).1⟩, ⟨rfl, (h s (by simp)).2⟩⟩, reps_srC ss fun q hq => h q (by simp [hq])⟩
theorem Rd.ofS {a : Option Addr} {ss : List Src} (hx : ∀ s ∈ ss, s.tn < wid .f32 ∧ s.sz < wid .f32) (h : Sl W a (flat srC ss)) : Rd W kS a ss.length (ss.map canS) := ⟨flat srC ss, List.length_map .., reps_srC ss hx, h⟩
theorem rd_source {f0 f1 f2 f3 g0 g1 g2 g3 g4 g5 : Field} {k : Nat} {cs : List Value} {y : DataW H × List MemPlace} (he : P.underlying e = some (.struct #[f0, f1, f2, f3])) (hC : P.cellsOf e = 9)
    (ho : (f0.offset, f1.offset, f2.offset, f3.offset) = (0, 1, 2, 3)) (hk : (P.cellsOf f0.type, P.cellsOf f1.type, P.cellsOf f2.type, P.cellsOf f3.type) = (1, 1, 1, 6))
    (t0 : P.underlying f0.type = some (.int .i64)) (t1 : P.underlying f1.type = some (.int .i64)) (t2 : P.underlying f2.type = some .bool)
    (hw : P.underlying f3.type = some (.struct #[g0, g1, g2, g3, g4, g5])) (hone : Go.Deep.oneCellFields P #[g0, g1, g2, g3, g4, g5] = true)
    (u0 : P.underlying g0.type = some (.int .i64)) (u1 : P.underlying g1.type = some (.int .i64)) (u2 : P.underlying g2.type = some (.int .i64)) (u3 : P.underlying g3.type = some (.float .f32)) (u4 : P.underlying g4.type = some (.float .f32)) (u5 : P.underlying g5.type = some (.int .i64))
    (h : DataW.trod enc P W base spare held k e cs = some y) : ∃ z, cs = srC z := by
  obtain ⟨xs, n, _, _, hlen, hxl, hf⟩ := DataW.trod_struct he h
  simp only [Prod.mk.injEq] at ho hk
  rw [hC] at hlen
  match cs, hlen, xs, hxl with
  | [c0, c1, c2, c3, c4, c5, c6, c7, c8], _, [y0, y1, y2, y3], _ =>
    have a0 := hf 0 f0 rfl
    have a1 := hf 1 f1 rfl
    have a2 := hf 2 f2 rfl
    have a3 := hf 3 f3 rfl
    rw [ho.1, hk.1] at a0
    rw [ho.2.1, hk.2.1] at a1
    rw [ho.2.2.1, hk.2.2.1] at a2
    rw [ho.2.2.2, hk.2.2.2] at a3
    obtain ⟨i0, rfl, _⟩ := rd_int t0 a0
    obtain ⟨i1, rfl, _⟩ := rd_int t1 a1
    obtain ⟨b2, rfl⟩ := rd_bool t2 a2
    obtain ⟨_, hg⟩ := rd_struct hw hone hk.2.2.2 a3
    obtain ⟨_, d0, _, e0, v0⟩ := hg 0 g0 rfl
    obtain ⟨_, d1, _, e1, v1⟩ := hg 1 g1 rfl
    obtain ⟨_, d2, _, e2, v2⟩ := hg 2 g2 rfl
    obtain ⟨_, d3, _, e3, v3⟩ := hg 3 g3 rfl
    obtain ⟨_, d4, _, e4, v4⟩ := hg 4 g4 rfl
    obtain ⟨_, d5, _, e5, v5⟩ := hg 5 g5 rfl
    cases e0; cases e1; cases e2; cases e3; cases e4; cases e5
    obtain ⟨j0, rfl, _⟩ := rd_int u0 v0
    obtain ⟨j1, rfl, _⟩ := rd_int u1 v1
    obtain ⟨j2, rfl, _⟩ := rd_int u2 v2
    obtain ⟨j3, rfl⟩ := rd_flt u3 v3
    obtain ⟨j4, rfl⟩ := rd_flt u4 v4
    obtain ⟨j5, rfl, _⟩ := rd_int u5 v5
    exact ⟨⟨i0, i1, b2, j0, j1, j2, j3, j4, j5⟩, rfl⟩
theorem arg_sources {r : Reach} {b0 : Nat} {v : Value} {d : DataW H} {ps : List MemPlace} {f0 f1 f2 f3 g0 g1 g2 g3 g4 g5 : Field} (ht : P.underlying t = some (.slice e)) (he : P.underlying e = some (.struct #[f0, f1, f2, f3])) (hC : P.cellsOf e = 9)
    (ho : (f0.offset, f1.offset, f2.offset, f3.offset) = (0, 1, 2, 3)) (hk : (P.cellsOf f0.type, P.cellsOf f1.type, P.cellsOf f2.type, P.cellsOf f3.type) = (1, 1, 1, 6))
    (t0 : P.underlying f0.type = some (.int .i64)) (t1 : P.underlying f1.type = some (.int .i64)) (t2 : P.underlying f2.type = some .bool)
    (hw : P.underlying f3.type = some (.struct #[g0, g1, g2, g3, g4, g5])) (hone : Go.Deep.oneCellFields P #[g0, g1, g2, g3, g4, g5] = true)
    (u0 : P.underlying g0.type = some (.int .i64)) (u1 : P.underlying g1.type = some (.int .i64)) (u2 : P.underlying g2.type = some (.int .i64)) (u3 : P.underlying g3.type = some (.float .f32)) (u4 : P.underlying g4.type = some (.float .f32)) (u5 : P.underlying g5.type = some (.int .i64))
    (hv : Value.okWide P W r b0 t v) (h : DataW.Trod enc P W base spare held t v d ps) : ∃ (a : Option Addr) (xs : List Src) (cap : Nat), v = .slice a xs.length cap ∧ xs.length ≤ maxLen ∧ Sl W a (flat srC xs) := by
  obtain ⟨fuel, hf⟩ := h
  rw [one_of_slice ht hv] at hf
  exact rd_rows srC_len (by decide) ht hC (fun _ _ _ hy => rd_source he hC ho hk t0 t1 t2 hw hone u0 u1 u2 u3 u4 u5 hy) hf
end
end Go.Wv
