/- Marks, equal kinds of floats, and what the rows give. -/
import Derived.Test.YtgohmocjjmkepaaN2
set_option linter.unusedSimpArgs false
set_option linter.unusedVariables false
namespace Go.Wv
theorem not_fne_el_marks {n : Nat} {k i : Int} (h0 : 0 ≤ i) (h1 : i < (n : Int)) : ¬ fne .f32 (el (marks k n) i) (FloatKind.nearest .f32 (k + i)) = true := by
  rw [el_marks h0 h1, fne_marks]; simp
theorem pmark_put {n : Nat} {zs : List (Int × Int)} {k j : Int} {u : Int} (hl : zs.length = n) (h0 : 0 ≤ j) (h1 : j < (n : Int)) (h : ∀ i, 0 ≤ i → i < j → gl zs i = (k + 2 * i, k + 2 * i + 1)) :
    ∀ i, 0 ≤ i → i < j + 1 → gl (pl (pl zs j (k + 2 * j, u)) j ((gl (pl zs j (k + 2 * j, u)) j).1, k + 2 * j + 1)) i = (k + 2 * i, k + 2 * i + 1) := fun i h2 h3 => by
  rw [gl_pl h0 (by rw [pl_length]; omega) _ _ h2]
  by_cases e : i = j
  · subst e; rw [if_pos rfl, gl_pl h0 (by omega) _ _ h0, if_pos rfl]
  · rw [if_neg e, gl_pl h0 (by omega) _ _ h2, if_neg e]; exact h i h2 (by omega)
theorem Pw.nils {L : List Fact} (h : ∀ f ∈ L, ∀ k, ¬ f.has k) : Pw L :=
  List.pairwise_iff_getElem.2 fun _ _ hi _ _ => .inr fun k hk _ => h _ (List.getElem_mem hi) k hk
theorem no_none {α : Type} {kd : Kd α} {n c T : Nat} {X : List α} (k : Nat) : ¬ (Fact.ow kd none n c T X).has k := by simp [Fact.has, inA]
theorem Upd.nils {w w' : World} {L L' : List Fact} (h : Upd w w' L L') (hn : ∀ f ∈ L, ∀ k, ¬ f.has k) : Ext0 w w' := h.1.mono fun k ⟨f, hf, _, hh⟩ => absurd hh (hn f hf k)
section
variable {P : Program} {ρ : Env} {w : World} {d : Option Tmp} {ty : TypeId} {pos : String} {aft : Array Edge} {g : Option (Nat × Bool)} {x : Operand}
theorem y_same {S T : Nat} {k : FloatKind} {b : Nat} (hS : P.underlying S = some (.float k)) (hT : P.underlying T = some (.float k)) (hx : ev ρ x = .float k b) : Yv P ρ ⟨d, .convert S T x, ty, pos, aft, g⟩ (.float k b) w := by
  simp [Yv, execOp, convert, hx, run_underlying hS, run_underlying hT, Conv.floatToFloat]
end
section
variable {P : Program} {ρ : Env} {w : World} {d : Option Tmp} {ty : TypeId} {pos : String} {aft : Array Edge} {g : Option (Nat × Bool)} {x : Operand}
theorem y_sliceO {T e s n c : Nat} {lo hi : Int} {a : Option Addr} {k k' : IntKind} {l h : Operand} (hB : slB P T e s = true) (hx : ev ρ x = .slice a n c) (hl : ev ρ l = .int k lo) (hh : ev ρ h = .int k' hi) (ha : ∃ b off, a = some ⟨b, off, none⟩)
    (h0 : 0 ≤ lo) (h1 : lo ≤ hi) (h2 : hi ≤ c) (h3 : lo < c) :
    Yv P ρ ⟨d, .slice T x (some l) (some h) none, ty, pos, aft, g⟩ (.slice (soff a (lo.toNat * s)) (hi.toNat - lo.toNat) (c - lo.toNat)) w := by
  obtain ⟨b, off, rfl⟩ := ha
  exact y_slice hB hx hl hh h0 h1 h2 h3
end
theorem Ow.cap {α : Type} {w : World} {k : Kd α} {a : Option Addr} {n c T : Nat} {X : List α} (h : Ow w k a n c T X) : n ≤ c := by
  obtain ⟨cs, _, _, h3⟩ := h
  rcases h3.2 with ⟨hv, _⟩ | ⟨g, cap, cur, hv, _, _, hnc, _⟩
  · simp only [Value.slice.injEq] at hv; obtain ⟨_, rfl, rfl⟩ := hv; exact Nat.le_refl _
  · simp only [Value.slice.injEq] at hv; obtain ⟨_, _, rfl⟩ := hv; exact hnc
theorem reps_flts : ∀ x : List Nat, (∀ r ∈ x, r < wid .f32) → Reps kF (cn x) (flts x)
  | [], _ => rfl
  | r :: x, h => ⟨[.float .f32 r], flts x, rfl, ⟨r, rfl, rfl, h r (by simp)⟩, reps_flts x fun q hq => h q (by simp [hq])⟩
theorem Rd.ofF {w : World} {a : Option Addr} {x : List Nat} (hx : ∀ r ∈ x, r < wid .f32) (h : Sl w a (flts x)) : Rd w kF a x.length (cn x) := ⟨flts x, cn_length x, reps_flts x hx, h⟩
theorem reps_prC : ∀ x : List (Int × Int), Reps kP x (flat prC x)
  | [] => rfl
  | p :: x => ⟨prC p, flat prC x, rfl, rfl, reps_prC x⟩
theorem Rd.ofP {w : World} {a : Option Addr} {x : List (Int × Int)} (h : Sl w a (flat prC x)) : Rd w kP a x.length x := ⟨flat prC x, rfl, reps_prC x, h⟩
end Go.Wv
