/- Rows: arguments that are slices of structs. -/
import Derived.Test.YtgohmocjjmkepaaR1
import Derived.Test.YtgohmocjjmkepaaL3
set_option linter.unusedSimpArgs false
set_option linter.unusedVariables false
namespace Go.Wv
section
variable {P : Program} {H : Type} {enc : TypeId × Value → H} {W W' : World}
variable {base : Nat} {spare : Nat → Bool} {held : Bool} {fuel : Nat} {t e : TypeId} {c : Value} {x : DataW H × List MemPlace}
theorem add_add (a : Addr) (m n : Nat) : (a.add m).add n = a.add (m + n) := by
  unfold Addr.add
  by_cases hm : m = 0
  · by_cases hn : n = 0 <;> simp [hm, hn]
  · by_cases hn : n = 0 <;> simp [hm, hn, Nat.add_assoc]
theorem rd_rows {α : Type} {f : α → List Value} {s : Nat} (hlen : ∀ z, (f z).length = s) (h0s : 0 < s) (ht : P.underlying t = some (.slice e)) (hc : P.cellsOf e = s)
    (hf : ∀ (m : Nat) (cs : List Value) (y : DataW H × List MemPlace), DataW.trod enc P W base spare held m e cs = some y → ∃ z, cs = f z)
    (h : DataW.trod enc P W base spare held fuel t [c] = some x) : ∃ (a : Option Addr) (xs : List α) (cap : Nat), c = .slice a xs.length cap ∧ xs.length ≤ maxLen ∧ Sl W a (flat f xs) := by
  rcases Go.Deep.open_slice ht h with ⟨h0, _⟩ | ⟨a, len, cap, m, n, D, Pl, h0, _, hl, hm, hmm, _, hx⟩
  · simp only [List.cons.injEq, and_true] at h0
    exact ⟨none, [], 0, h0, Nat.zero_le _, Sl.nil _ _⟩
  · simp only [List.cons.injEq, and_true] at h0
    have hlm : len ≤ m := by rw [hmm]; split <;> omega
    have hall : ∀ k, k ≤ len → ∃ xs : List α, xs.length = k ∧ ∀ j u, (flat f xs)[j]? = some u → W.cell? (a.add j) = some u := by
      intro k
      induction k with
      | zero => intro _; exact ⟨[], rfl, fun j u hu => by simp [flat] at hu⟩
      | succ k ih =>
        intro hk
        obtain ⟨xs, h1, h2⟩ := ih (by omega)
        obtain ⟨cs', hcs, hy⟩ := hx k (by omega)
        obtain ⟨z, rfl⟩ := hf _ _ _ hy
        obtain ⟨_, hln, hce⟩ := World.cells?_some hcs
        refine ⟨xs ++ [z], by simp [h1], fun j u hu => ?_⟩
        rw [← flat_snoc] at hu
        by_cases hj : j < (flat f xs).length
        · rw [List.getElem?_append_left hj] at hu; exact h2 j u hu
        · rw [List.getElem?_append_right (by omega)] at hu
          have hfl := flat_length hlen xs
          have hjs : j - (flat f xs).length < s := by rw [← hlen z]; exact (List.getElem?_eq_some_iff.1 hu).1
          have h5 := hce (j - (flat f xs).length) (by rw [hc]; exact hjs)
          rw [hu, hc] at h5
          have h6 : (a.add (k * s)).add (j - (flat f xs).length) = a.add j := by
            rw [add_add]
            congr 1
            rw [hfl, h1]; rw [hfl, h1] at hj; omega
          rw [h6] at h5
          exact h5
    obtain ⟨xs, hxl, hxs⟩ := hall len (Nat.le_refl _)
    refine ⟨some a, xs, cap, by rw [h0, hxl], by omega, fun j u hj => ?_⟩
    have hne : 0 < len := by
      have h1 := (List.getElem?_eq_some_iff.1 hj).1
      rw [flat_length hlen, hxl] at h1
      rcases Nat.eq_zero_or_pos len with e0 | e0
      · rw [e0, Nat.zero_mul] at h1; omega
      · exact e0
    have ha0 : a = ⟨a.block, a.off, none⟩ := by
      have h00 := hxs 0 _ (List.getElem?_eq_getElem (l := flat f xs) (by rw [flat_length hlen, hxl]; exact Nat.mul_pos hne h0s))
      have : a.add 0 = a := by simp [Addr.add]
      rw [this] at h00
      exact addr_of_cell h00
    refine ⟨a.block, a.off, by rw [← ha0], ?_⟩
    have := hxs j u hj
    rw [ha0, add_lit] at this
    exact this
theorem rd_probe {f0 f1 : Field} {k : Nat} {cs : List Value} {y : DataW H × List MemPlace} (he : P.underlying e = some (.struct #[f0, f1])) (hone : Go.Deep.oneCellFields P #[f0, f1] = true) (hC : P.cellsOf e = 2)
    (h0 : P.underlying f0.type = some (.int .i64)) (h1 : P.underlying f1.type = some (.int .i64)) (h : DataW.trod enc P W base spare held k e cs = some y) : ∃ z, cs = prC z := by
  obtain ⟨hl, hf⟩ := rd_struct he hone hC h
  obtain ⟨m, c, y, hc, ht⟩ := hf 0 f0 rfl
  obtain ⟨m', c', y', hc', ht'⟩ := hf 1 f1 rfl
  obtain ⟨a, rfl, _⟩ := rd_int h0 ht
  obtain ⟨b, rfl, _⟩ := rd_int h1 ht'
  refine ⟨(a, b), ?_⟩
  exact list_of hl fun j c hj => by
    rcases j with _ | _ | j
    · simp [prC] at hj; subst hj; exact hc
    · simp [prC] at hj; subst hj; exact hc'
    · simp [prC] at hj
theorem arg_probes {r : Reach} {b0 : Nat} {v : Value} {d : DataW H} {ps : List MemPlace} {f0 f1 : Field} (ht : P.underlying t = some (.slice e)) (he : P.underlying e = some (.struct #[f0, f1])) (hone : Go.Deep.oneCellFields P #[f0, f1] = true) (hC : P.cellsOf e = 2)
    (h0 : P.underlying f0.type = some (.int .i64)) (h1 : P.underlying f1.type = some (.int .i64)) (hv : Value.okWide P W r b0 t v)
    (h : DataW.Trod enc P W base spare held t v d ps) : ∃ (a : Option Addr) (xs : List (Int × Int)) (cap : Nat), v = .slice a xs.length cap ∧ xs.length ≤ maxLen ∧ Sl W a (flat prC xs) := by
  obtain ⟨fuel, hf⟩ := h
  rw [one_of_slice ht hv] at hf
  exact rd_rows prC_len (by decide) ht hC (fun _ _ _ hy => rd_probe he hone hC h0 h1 hy) hf
end
end Go.Wv
