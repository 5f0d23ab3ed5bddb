/- Slices whose elements are rows of cells; stores into them. -/
import Derived.Test.YtgohmocjjmkepaaF3
set_option linter.unusedSimpArgs false
set_option linter.unusedVariables false
namespace Go.Wv
theorem take_mid {L cs new : List Value} {j m : Nat} (hL : L.take cs.length = cs) (hj : j + m ≤ cs.length) (hn : new.length = m) : (L.take j ++ new ++ L.drop (j + m)).take cs.length = cs.take j ++ new ++ cs.drop (j + m) := by
  obtain ⟨r, hr⟩ : ∃ r, L = cs ++ r := ⟨L.drop cs.length, by rw [← List.take_append_drop cs.length L, hL]; simp⟩
  subst hr
  rw [List.take_append_of_le_length (l₁ := cs) (by omega), List.drop_append_of_le_length (l₁ := cs) (by omega), ← List.append_assoc]
  exact List.take_left' (by simp; omega)
section
variable {P : Program} {ρ : Env} {w : World} {d : Option Tmp} {ty : TypeId} {pos : String} {aft : Array Edge} {g : Option (Nat × Bool)} {x y : Operand} {v : Value} {K : Value → World → Prop}
/-- A store of some cells into a slice that the call made. -/
theorem k_storeElN {T T' B n c s j m : Nat} {a : Option Addr} {cs cs' : List Value} (hB : szB P T m = true) (hx : ev ρ x = .pointer (some (sat a j))) (hy : ev ρ y = v) (hv : v.cells.size = m) (h1 : ∀ u ∈ v.cells.toList, u.oneCell' = true) (h0 : 0 < m)
    (ho : Own w B a n c T' s cs) (hj : j + m ≤ cs.length) (hc : cs.take j ++ v.cells.toList ++ cs.drop (j + m) = cs')
    (h : ∀ w', Ext (inA a) w w' → w'.heap.size = w.heap.size → Own w' B a n c T' s cs' → K undef w') : opk P ⟨d, .store T x y, ty, pos, aft, g⟩ ρ w K := by
  have hlen : cs'.length = cs.length := by
    rw [← hc]; simp [hv]; omega
  rcases ho.2 with ⟨_, hn⟩ | ⟨gg, cap, cur, hv', hb, hg, hnc, hcm, hcs, htake⟩
  · have := ho.1; rw [hn, Nat.zero_mul] at this; omega
  simp only [Value.slice.injEq] at hv'
  obtain ⟨rfl, _, rfl⟩ := hv'
  have hle : cs.length ≤ cur.size := by rw [← htake]; simp; omega
  have hst := run_storeCells_at P gg j T' v.cells.toList 0 cur w hg (by simpa [hv] using Nat.le_trans hj hle) h1
  have hadd : sat (some ⟨gg, 0, none⟩) j = ⟨gg, j, none⟩ := by simp [sat]
  unfold opk
  simp only [execOp, Instr.storeAt, Instr.sureAddr, storeVar, hx, hy, hv, hadd, Sem.run_bind, Sem.run_pure, Result.andThen_ok, szB_spec hB, hst, ne_eq, not_true_eq_false, if_false]
  refine h _ ⟨rfl, rfl, rfl, by simp, fun k _ hk => setRow_other w gg k _ fun e => hk (by simp [inA, e])⟩ (by simp) ⟨by rw [hlen]; exact ho.1, .inr ⟨gg, c, _, rfl, hb, setRow_heap w gg cur _ T' (0, 0) hg, hnc, hcm, ?_, ?_⟩⟩
  · simp [hv]; omega
  · rw [← hc]
    simp only [Nat.add_zero, Array.length_toList, hv]
    rw [← ho.1]
    exact take_mid (by rw [ho.1]; exact htake) hj (by simpa using hv)
theorem y_fldEl {T f o j : Nat} {a : Option Addr} (hB : fldB P T f o = true) (hx : ev ρ x = .pointer (some (sat a j))) (ha : ∃ b off, a = some ⟨b, off, none⟩) : Yv P ρ ⟨d, .fieldAddr T x f, ty, pos, aft, g⟩ (.pointer (some (sat a (j + o)))) w := by
  obtain ⟨b, off, rfl⟩ := ha
  have := y_fld (P := P) (ρ := ρ) (w := w) (d := d) (ty := ty) (pos := pos) (aft := aft) (g := g) (b := b) (o := off + j) hB hx
  simpa [sat, Nat.add_assoc] using this
end
section
variable {α : Type} (f : α → List Value) (s : Nat)
/-- The cells of rows. -/
def flat (xs : List α) : List Value := xs.flatMap f
variable {f s}
theorem flat_length (hf : ∀ x, (f x).length = s) (xs : List α) : (flat f xs).length = xs.length * s := by
  induction xs with
  | nil => simp [flat]
  | cons x xs ih => simp only [flat, List.flatMap_cons, List.length_append, hf, List.length_cons] at *; rw [ih, Nat.add_mul, Nat.one_mul, Nat.add_comm]
theorem flat_drop (hf : ∀ x, (f x).length = s) : ∀ (xs : List α) (k : Nat), (flat f xs).drop (k * s) = flat f (xs.drop k)
  | [], k => by simp [flat]
  | x :: xs, 0 => by simp
  | x :: xs, k + 1 => by
    have ih := flat_drop hf xs k
    simp only [flat, List.flatMap_cons, List.drop_succ_cons] at *
    rw [Nat.add_mul, Nat.one_mul, Nat.add_comm, ← List.drop_drop, List.drop_left' (hf x), ih]
theorem flat_take (hf : ∀ x, (f x).length = s) : ∀ (xs : List α) (k : Nat), (flat f xs).take (k * s) = flat f (xs.take k)
  | [], k => by simp [flat]
  | x :: xs, 0 => by simp [flat]
  | x :: xs, k + 1 => by
    have ih := flat_take hf xs k
    simp only [flat, List.flatMap_cons, List.take_succ_cons] at *
    rw [Nat.add_mul, Nat.one_mul, Nat.add_comm, List.take_add, List.take_append_of_le_length (by rw [hf]; exact Nat.le_refl _), List.take_of_length_le (by rw [hf]; exact Nat.le_refl _), List.drop_append_of_le_length (by rw [hf]; exact Nat.le_refl _), List.drop_of_length_le (by rw [hf]; exact Nat.le_refl _), List.nil_append, ih]
variable [Inhabited α]
/-- The row at an index. -/
def gl (xs : List α) (i : Int) : α := xs.getD i.toNat default
def pl (xs : List α) (i : Int) (v : α) : List α := xs.set i.toNat v
omit [Inhabited α] in
theorem pl_length (xs : List α) (i : Int) (v : α) : (pl xs i v).length = xs.length := List.length_set ..
theorem drop_gl {xs : List α} {i : Int} (h0 : 0 ≤ i) (h1 : i < (xs.length : Int)) : xs.drop i.toNat = gl xs i :: xs.drop (i.toNat + 1) := by
  have h : i.toNat < xs.length := by omega
  rw [List.drop_eq_getElem_cons h]; simp [gl, h]
theorem flat_row (hf : ∀ x, (f x).length = s) {xs : List α} {i : Int} (h0 : 0 ≤ i) (h1 : i < (xs.length : Int)) : ((flat f xs).drop (i.toNat * s)).take s = f (gl xs i) := by
  rw [flat_drop hf, drop_gl h0 h1]
  simp only [flat, List.flatMap_cons]
  rw [List.take_append_of_le_length (by rw [hf]; exact Nat.le_refl _), List.take_of_length_le (by rw [hf]; exact Nat.le_refl _)]
theorem flat_cell (hf : ∀ x, (f x).length = s) {xs : List α} {i : Int} (h0 : 0 ≤ i) (h1 : i < (xs.length : Int)) {j : Nat} {u : Value} (hu : (f (gl xs i))[j]? = some u) : (flat f xs)[i.toNat * s + j]? = some u := by
  have hj : j < s := by rw [← hf (gl xs i)]; exact (List.getElem?_eq_some_iff.1 hu).1
  rw [← List.getElem?_drop, ← hu, ← flat_row hf h0 h1, List.getElem?_take, if_pos hj]
omit [Inhabited α] in
theorem set_eq {xs : List α} {i : Int} (h0 : 0 ≤ i) (h1 : i < (xs.length : Int)) (v : α) : pl xs i v = xs.take i.toNat ++ v :: xs.drop (i.toNat + 1) := by
  have h : i.toNat < xs.length := by omega
  rw [pl, List.set_eq_take_append_cons_drop, if_pos h]
omit [Inhabited α] in
theorem flat_put (hf : ∀ x, (f x).length = s) {xs : List α} {i : Int} (h0 : 0 ≤ i) (h1 : i < (xs.length : Int)) (v : α) : (flat f xs).take (i.toNat * s) ++ f v ++ (flat f xs).drop (i.toNat * s + s) = flat f (pl xs i v) := by
  rw [set_eq h0 h1, flat_take hf, show i.toNat * s + s = (i.toNat + 1) * s by rw [Nat.add_mul, Nat.one_mul], flat_drop hf]
  simp [flat]
theorem flat_set (hf : ∀ x, (f x).length = s) {xs : List α} {i : Int} (h0 : 0 ≤ i) (h1 : i < (xs.length : Int)) {j : Nat} {u : Value} {v : α} (hj : j < s) (hv : (f (gl xs i)).set j u = f v) : (flat f xs).set (i.toNat * s + j) u = flat f (pl xs i v) := by
  have h : i.toNat < xs.length := by omega
  have e : flat f xs = flat f (xs.take i.toNat) ++ (f (gl xs i) ++ flat f (xs.drop (i.toNat + 1))) := by
    conv => lhs; rw [← List.take_append_drop i.toNat xs, drop_gl h0 h1]
    simp [flat]
  have hl : (flat f (xs.take i.toNat)).length = i.toNat * s := by rw [flat_length hf, List.length_take, Nat.min_eq_left (by omega)]
  rw [e, List.set_append_right _ _ (by rw [hl]; omega), hl, Nat.add_sub_cancel_left, List.set_append_left _ _ (by rw [hf]; exact hj), hv, set_eq h0 h1]
  simp [flat]
theorem gl_pl {xs : List α} {i : Int} (h0 : 0 ≤ i) (h1 : i < (xs.length : Int)) (v : α) (j : Int) (hj : 0 ≤ j) : gl (pl xs i v) j = if j = i then v else gl xs j := by
  have h : i.toNat < xs.length := by omega
  by_cases e : j = i
  · subst e; rw [if_pos rfl]; simp [gl, pl, h]
  · rw [if_neg e]
    have e' : i.toNat ≠ j.toNat := by omega
    simp [gl, pl, e']
theorem ext_gl {xs ys : List α} (hl : xs.length = ys.length) (h : ∀ i, 0 ≤ i → i < (ys.length : Int) → gl xs i = gl ys i) : xs = ys := by
  apply List.ext_getElem hl
  intro n h1 h2
  have := h n (by omega) (by omega)
  simpa [gl, h1, h2] using this
omit [Inhabited α] in
theorem flat_snoc (xs : List α) (v : α) : flat f xs ++ f v = flat f (xs ++ [v]) := by simp [flat]
end

theorem made_flat {α : Type} [Inhabited α] {f : α → List Value} {s : Nat} (hf : ∀ x, (f x).length = s) (hs : 0 < s) {z : Value} (z0 : α) (hz : z.cells.toList = f z0) (n : Nat) : (madeCells z.cells (n * s)).toList = flat f (List.replicate n z0) := by
  have hzs : z.cells.size = s := by rw [← hf z0, ← hz]; simp
  apply List.ext_getElem?
  intro j
  by_cases hj : j < n * s
  · have h1 : j / s < n := (Nat.div_lt_iff_lt_mul hs).2 hj
    have h2 : j % s < s := Nat.mod_lt _ hs
    have h4 : j / s * s + j % s = j := Nat.div_add_mod' j s
    generalize j / s = q at h1 h4
    have h7 : gl (List.replicate n z0) (q : Int) = z0 := by simp [gl, h1]
    have h3 := flat_cell (f := f) hf (xs := List.replicate n z0) (i := (q : Int)) (by omega) (by simp; omega) (j := j % s) (u := (f z0)[j % s]'(by rw [hf]; exact h2)) (by
      rw [h7]; simp [hf, h2])
    rw [Int.toNat_natCast, h4] at h3
    rw [h3]
    have h5 : j % s < z.cells.size := by rw [hzs]; exact h2
    have h6 : (f z0)[j % s]'(by rw [hf]; exact h2) = z.cells[j % s] := by
      have : (f z0)[j % s]? = z.cells.toList[j % s]? := by rw [hz]
      simpa [hf, h2, h5] using this
    rw [h6]
    simp [madeCells, hj, hzs, h2]
  · rw [List.getElem?_eq_none (by simp [size_madeCells]; omega), List.getElem?_eq_none (by rw [flat_length hf, List.length_replicate]; omega)]
theorem flat_nil {α : Type} (f : α → List Value) : flat f [] = [] := rfl
/-- Probes; whole numbers. -/
def prC (p : Int × Int) : List Value := [.int .i64 p.1, .int .i64 p.2]
theorem prC_len (p : Int × Int) : (prC p).length = 2 := rfl
def inC (n : Int) : List Value := [.int .i64 n]
theorem inC_len (n : Int) : (inC n).length = 1 := rfl
def boC (b : Bool) : List Value := [.bool b]
theorem boC_len (b : Bool) : (boC b).length = 1 := rfl
theorem gl_same {α : Type} [Inhabited α] {xs zs : List α} {k : Int} (hl : zs.length = xs.length) (h0 : 0 ≤ k) (h1 : k < (xs.length : Int)) (h : ∀ i, 0 ≤ i → i < k → gl zs i = gl xs i) : ∀ i, 0 ≤ i → i < k + 1 → gl (pl zs k (gl xs k)) i = gl xs i := fun i h2 h3 => by
  rw [gl_pl h0 (by omega) _ _ h2]
  by_cases e : i = k
  · subst e; rw [if_pos rfl]
  · rw [if_neg e]; exact h i h2 (by omega)
theorem gl_put {α : Type} [Inhabited α] {n : Nat} {zs : List α} {j : Int} {v : α} {g : Int → α} (hl : zs.length = n) (h0 : 0 ≤ j) (h1 : j < (n : Int)) (hv : v = g j) (h : ∀ i, 0 ≤ i → i < j → gl zs i = g i) : ∀ i, 0 ≤ i → i < j + 1 → gl (pl zs j v) i = g i := fun i h2 h3 => by
  rw [gl_pl h0 (by omega) _ _ h2]
  by_cases e : i = j
  · subst e; rw [if_pos rfl]; exact hv
  · rw [if_neg e]; exact h i h2 (by omega)
/-- A table of rows. -/
def gtab {α : Type} (n : Int) (g : Int → α) : List α := (List.range n.toNat).map fun (i : Nat) => g (i : Int)
theorem gtab_length {α : Type} (n : Int) (g : Int → α) : (gtab n g).length = n.toNat := by simp [gtab]
theorem gl_gtab {α : Type} [Inhabited α] {n : Int} {g : Int → α} {i : Int} (h0 : 0 ≤ i) (h1 : i < n) : gl (gtab n g) i = g i := by
  have : i.toNat < n.toNat := by omega
  simp [gl, gtab, this, Int.toNat_of_nonneg h0]
theorem gtab_of {α : Type} [Inhabited α] {xs : List α} {n : Int} {g : Int → α} (hl : (xs.length : Int) = n) (h : ∀ i, 0 ≤ i → i < n → gl xs i = g i) : xs = gtab n g := by
  apply ext_gl
  · rw [gtab_length]; omega
  · intro i h0 h1
    rw [gtab_length] at h1
    rw [gl_gtab h0 (by omega), h i h0 (by omega)]
def pmarks (k : Int) (n : Nat) : List (Int × Int) := gtab n fun i => (k + 2 * i, k + 2 * i + 1)
theorem pmarks_length (k : Int) (n : Nat) : (pmarks k n).length = n := by simp [pmarks, gtab_length]
def imarks (k : Int) (n : Nat) : List Int := gtab n fun i => k + i
theorem imarks_length (k : Int) (n : Nat) : (imarks k n).length = n := by simp [imarks, gtab_length]
end Go.Wv
