/- Slices, conversions, minima: more operations. -/
import Derived.Test.YtgohmocjjmkepaaBase5
import Derived.Laws.AppendOwn
set_option linter.unusedSimpArgs false
set_option linter.unusedVariables false
namespace Go.Wv
section
variable {P : Program} {ρ : Env} {w : World} {d : Option Tmp} {ty : TypeId} {pos : String} {aft : Array Edge} {g : Option (Nat × Bool)} {x y z : Operand} {v u : Value} {K : Value → World → Prop}

theorem y_idx {T e s n c : Nat} {a : Option Addr} {i : Int} {k : IntKind} (hB : slB P T e s = true) (hx : ev ρ x = .slice a n c) (hy : ev ρ y = .int k i) (ha : ∃ b off, a = some ⟨b, off, none⟩) (h0 : 0 ≤ i) (h1 : i < n) :
    Yv P ρ ⟨d, .indexAddr T x y, ty, pos, aft, g⟩ (.pointer (some (sat a (i.toNat * s)))) w := by
  obtain ⟨it, hu, hi, hs⟩ := slB_spec hB
  obtain ⟨b, off, rfl⟩ := ha
  simp [Yv, execOp, Instr.indexAt, hx, hy, asIntOf, run_underlying hu, h0, h1, sizeOf, typeInfo, hi, hs, sat, add_lit]

theorem y_len {T e s n c : Nat} {a : Option Addr} {ts : Array TypeId} (hB : slB P T e s = true) (hx : ev ρ x = .slice a n c) (ht : ts = #[T]) :
    Yv P ρ ⟨d, .call { callee := .builtin .len, args := #[x], argTypes := ts }, ty, pos, aft, g⟩ (.int .i64 n) w := by
  obtain ⟨it, hu, hi, hs⟩ := slB_spec hB
  subst ht
  simp [Yv, execOp, resolve, invoke, builtin, Builtin.len_, hx, run_underlying hu, goInt]

theorem y_beql {T U : Nat} {a b t : Bool} (hB : P.underlying T = some .bool) (hx : ev ρ x = .bool a) (hy : ev ρ y = .bool b) (ht : (a == b) = t) : Yv P ρ ⟨d, .binOp .eql T x y U, ty, pos, aft, g⟩ (.bool t) w := by
  subst ht
  simp [Yv, execOp, eqGuard, hx, hy, run_eql_bool w T a b hB]
theorem y_bneq {T U : Nat} {a b t : Bool} (hB : P.underlying T = some .bool) (hx : ev ρ x = .bool a) (hy : ev ρ y = .bool b) (ht : (!(a == b)) = t) : Yv P ρ ⟨d, .binOp .neq T x y U, ty, pos, aft, g⟩ (.bool t) w := by
  subst ht
  simp [Yv, execOp, eqGuard, hx, hy, run_neq_bool w T a b hB]

theorem y_ii {S T : Nat} {k k' : IntKind} {a c : Int} (hS : (P.underlying S).isSome = true) (hT : P.underlying T = some (.int k)) (hx : ev ρ x = .int k' a) (hc : k.wrap a = c) : Yv P ρ ⟨d, .convert S T x, ty, pos, aft, g⟩ (.int k c) w := by
  obtain ⟨u, hu⟩ := Option.isSome_iff_exists.1 hS
  subst hc
  cases u <;> simp [Yv, execOp, convert, hx, run_underlying hu, run_underlying hT, Conv.intToInt]
theorem y_if {S T : Nat} {k : FloatKind} {k' : IntKind} {a : Int} (hS : (P.underlying S).isSome = true) (hT : P.underlying T = some (.float k)) (hx : ev ρ x = .int k' a) : Yv P ρ ⟨d, .convert S T x, ty, pos, aft, g⟩ (.float k (k.nearest a)) w := by
  obtain ⟨u, hu⟩ := Option.isSome_iff_exists.1 hS
  cases u <;> simp [Yv, execOp, convert, hx, run_underlying hu, run_underlying hT, Conv.intToFloat]

theorem y_max2 {a b c : Int} {k : IntKind} {ts : Array TypeId} (hx : ev ρ x = .int k a) (hy : ev ρ y = .int k b) (hc : max a b = c) : Yv P ρ ⟨d, .call { callee := .builtin .max, args := #[x, y], argTypes := ts }, ty, pos, aft, g⟩ (.int k c) w := by
  have : (if b > a then b else a) = c := by rw [← hc]; omega
  simp [Yv, execOp, resolve, invoke, builtin, Builtin.max_, hx, hy, Builtin.max2, this]
theorem y_max4 {a b c e f : Int} {k : IntKind} {ts : Array TypeId} {y2 y3 : Operand} (hx : ev ρ x = .int k a) (hy : ev ρ y = .int k b) (h2 : ev ρ y2 = .int k c) (h3 : ev ρ y3 = .int k e) (hc : max (max (max a b) c) e = f) :
    Yv P ρ ⟨d, .call { callee := .builtin .max, args := #[x, y, y2, y3], argTypes := ts }, ty, pos, aft, g⟩ (.int k f) w := by
  have h1 : (if b > a then b else a) = max a b := by omega
  have h2' : (if c > max a b then c else max a b) = max (max a b) c := by omega
  subst hc
  simp [Yv, execOp, resolve, invoke, builtin, Builtin.max_, hx, hy, h2, h3, Builtin.max2, h1, h2']
  omega
theorem y_min2 {a b c : Int} {k : IntKind} {ts : Array TypeId} (hx : ev ρ x = .int k a) (hy : ev ρ y = .int k b) (hc : min a b = c) : Yv P ρ ⟨d, .call { callee := .builtin .min, args := #[x, y], argTypes := ts }, ty, pos, aft, g⟩ (.int k c) w := by
  have : (if b < a then b else a) = c := by rw [← hc]; omega
  simp [Yv, execOp, resolve, invoke, builtin, Builtin.min_, hx, hy, Builtin.min2, this]

theorem y_min4 {a b c e f : Int} {k : IntKind} {ts : Array TypeId} {y2 y3 : Operand} (hx : ev ρ x = .int k a) (hy : ev ρ y = .int k b) (h2 : ev ρ y2 = .int k c) (h3 : ev ρ y3 = .int k e) (hc : min (min (min a b) c) e = f) :
    Yv P ρ ⟨d, .call { callee := .builtin .min, args := #[x, y, y2, y3], argTypes := ts }, ty, pos, aft, g⟩ (.int k f) w := by
  have h1 : (if b < a then b else a) = min a b := by omega
  have h2' : (if c < min a b then c else min a b) = min (min a b) c := by omega
  subst hc
  simp [Yv, execOp, resolve, invoke, builtin, Builtin.min_, hx, hy, h2, h3, Builtin.min2, h1, h2']
  omega

/-- 'x[lo:hi]' of a slice. -/
theorem y_slice {T e s n c : Nat} {lo hi : Int} {b off : Nat} {k k' : IntKind} {l h : Operand} (hB : slB P T e s = true) (hx : ev ρ x = .slice (some ⟨b, off, none⟩) n c) (hl : ev ρ l = .int k lo) (hh : ev ρ h = .int k' hi)
    (h0 : 0 ≤ lo) (h1 : lo ≤ hi) (h2 : hi ≤ c) (h3 : lo < c) :
    Yv P ρ ⟨d, .slice T x (some l) (some h) none, ty, pos, aft, g⟩ (.slice (some ⟨b, off + lo.toNat * s, none⟩) (hi.toNat - lo.toNat) (c - lo.toNat)) w := by
  obtain ⟨it, hu, hi', hs⟩ := slB_spec hB
  have h4 : 0 ≤ hi := by omega
  have h6 : ¬ c = lo.toNat := by omega
  simp [Yv, execOp, Instr.sliceAt, Instr.slice, Instr.sliceBounds, Instr.sliceBound, run_underlying hu, hx, hl, hh, asIntOf, h0, h4, h2, sizeOf, typeInfo, hi', hs, h6, add_lit]
  intro hlt
  omega

/-! ### making -/
theorem k_make {T e s bytes : Nat} {i : TypeInfo} {z : Value} {m : Int} (hu : P.underlying T = some (.slice e)) (hi : P.info? e = some i) (hz : i.zero = some z) (hs : i.size = s) (hby : i.bytes = bytes)
    (hx : ev ρ x = .int .i64 m) (hy : ev ρ y = .int .i64 m) (h0 : 0 ≤ m) (h1 : (bytes : Int) * m ≤ 140737488355328) (h2 : m ≤ 9223372036854775807)
    (h : ∀ b w', b = w.heap.size → Ext0 w w' → Own w' w.heap.size (some ⟨b, 0, none⟩) m.toNat m.toNat e s (madeCells z.cells (m.toNat * s)).toList → K (.slice (some ⟨b, 0, none⟩) m.toNat m.toNat) w') :
    opk P ⟨d, .makeSlice T x y, ty, pos, aft, g⟩ ρ w K := by
  have hr := run_make (P := P) w T e i z hu hi hz .i64 .i64 m m h0 (Int.le_refl _) (by rw [hby]; omega) h2
  rw [hs] at hr
  unfold opk
  simp only [execOp, Sem.run_bind, hx, hy, hr, Result.andThen_ok, Sem.run_pure]
  refine h _ _ rfl (Ext0.alloc _ _) ⟨by simp [size_madeCells], .inr ⟨w.heap.size, m.toNat, madeCells z.cells (m.toNat * s), rfl, Nat.le_refl _, ?_, Nat.le_refl _, ?_, size_madeCells z.cells _, ?_⟩⟩
  · exact Blk.new _ _ _
  · simp only [maxLen]; omega
  · rw [List.take_of_length_le]; simp [size_madeCells]


/-- The facts on a slice type: its element, the cells and bytes of one, the zero. -/
def SlT (P : Program) (T e s bytes : Nat) (z : Value) : Prop := P.underlying T = some (.slice e) ∧ (P.info? e).map (fun i => (i.zero, i.size, i.bytes)) = some (some z, s, bytes) ∧ z.cells.size = s ∧ 0 < s
theorem SlT.get {T e s bytes : Nat} {z : Value} (h : SlT P T e s bytes z) : ∃ i, P.underlying T = some (.slice e) ∧ P.info? e = some i ∧ i.zero = some z ∧ i.size = s ∧ i.bytes = bytes := by
  obtain ⟨h1, h2, _⟩ := h
  cases hi : P.info? e with
  | none => simp [hi] at h2
  | some i =>
    simp only [hi, Option.map_some, Option.some.injEq, Prod.mk.injEq] at h2
    exact ⟨i, h1, rfl, h2.1, h2.2.1, h2.2.2⟩

theorem k_mk {T e s bytes : Nat} {z : Value} {m : Int} (hT : SlT P T e s bytes z) (hx : ev ρ x = .int .i64 m) (hy : ev ρ y = .int .i64 m) (h0 : 0 ≤ m) (h1 : (bytes : Int) * m ≤ 140737488355328) (h2 : m ≤ 9223372036854775807)
    (h : ∀ b w', b = w.heap.size → Ext0 w w' → Own w' w.heap.size (some ⟨b, 0, none⟩) m.toNat m.toNat e s (madeCells z.cells (m.toNat * s)).toList → K (.slice (some ⟨b, 0, none⟩) m.toNat m.toNat) w') :
    opk P ⟨d, .makeSlice T x y, ty, pos, aft, g⟩ ρ w K := by
  obtain ⟨i, a1, a2, a3, a4, a5⟩ := hT.get
  exact k_make a1 a2 a3 a4 a5 hx hy h0 h1 h2 h

theorem made_one (z : Value) (hz : z.cells = #[z]) (n : Nat) : (madeCells z.cells n).toList = List.replicate n z := by
  apply List.ext_getElem
  · simp [size_madeCells]
  · intro i h1 h2
    simp [madeCells, hz, Nat.mod_one]

theorem run_append_x {T e s bytes : Nat} {z : Value} (hT : SlT P T e s bytes z) {B n c m cm : Nat} {a ad : Option Addr} {cs news : List Value} (ho : Own w B a n c e s cs) (hs : Sl w ad news) (hl : news.length = m * s)
    (h1 : ∀ u ∈ news, u.oneCell' = true) (hb : (n + m) * bytes ≤ 140737488355328) (hm : n + m ≤ maxLen) (hB : B ≤ w.heap.size) :
    ∃ a' c' w', (Builtin.append_ #[T, T] ty #[.slice a n c, .slice ad m cm]).run P w = .ok (.slice a' (n + m) c') w' ∧ Own w' B a' (n + m) c' e s (cs ++ news) ∧ Ext (inA a) w w' ∧ ∀ k, inA a' k → inA a k ∨ w.heap.size ≤ k := by
  obtain ⟨i, hu, hi, hz, hsz, hby⟩ := hT.get
  obtain ⟨_, _, hzs, hs0⟩ := hT
  subst hsz
  subst hby
  have hnc : n ≤ c ∧ (a = none → n = 0 ∧ c = 0) := by
    rcases ho.2 with ⟨hv, hn⟩ | ⟨g, cap, cur, hv, _, _, hnc, _⟩
    · simp only [Value.slice.injEq] at hv
      obtain ⟨rfl, rfl, rfl⟩ := hv; exact ⟨Nat.le_refl _, fun _ => ⟨rfl, rfl⟩⟩
    · simp only [Value.slice.injEq] at hv
      obtain ⟨rfl, _, rfl⟩ := hv; exact ⟨hnc, fun h => by cases h⟩
  have stay : ∀ c0 : Unit, m = 0 → news = [] → (Builtin.append_ #[T, T] ty #[.slice a n c, .slice ad m cm]).run P w = .ok (.slice a (n + m) c) w →
      ∃ a' c' w', (Builtin.append_ #[T, T] ty #[.slice a n c, .slice ad m cm]).run P w = .ok (.slice a' (n + m) c') w' ∧ Own w' B a' (n + m) c' e i.size (cs ++ news) ∧ Ext (inA a) w w' ∧ ∀ k, inA a' k → inA a k ∨ w.heap.size ≤ k := fun _ hm0 hn0 hr => by
    subst hm0; subst hn0
    exact ⟨a, c, w, hr, by simpa using ho, Ext.refl _ _, fun k hk => .inl hk⟩
  by_cases hm0 : m = 0
  · have hn0 : news = [] := List.eq_nil_of_length_eq_zero (by rw [hl, hm0, Nat.zero_mul])
    refine stay () hm0 hn0 ?_
    subst hm0
    cases ad <;> cases a <;> simp [Builtin.append_, run_underlying hu, sizeOf, typeInfo, hi, Builtin.lenOf, hnc.1, Builtin.firstCells, loadCells, loadCellsFrom, storeCells]
  · have hne : 0 < news.length := by rw [hl]; exact Nat.mul_pos (by omega) hs0
    obtain ⟨b, off, rfl⟩ := hs.addr hne
    have hnews : ∀ j u, news[j]? = some u → w.cell? ((⟨b, off, none⟩ : Addr).add j) = some u := fun j u hj => by
      rw [add_lit]; exact hs.cell hj
    have hlen : (cs ++ news).length = (n + m) * i.size := by rw [List.length_append, ho.len, hl, Nat.add_mul]
    have fresh : ∀ old, old < n + m → Own (w.drew.alloc (.cells (cs.toArray ++ news.toArray ++ Builtin.zeroCells z.cells (grownCap w (n + m) old e - (n + m))) e)) B (some ⟨w.heap.size, 0, none⟩) (n + m) (grownCap w (n + m) old e) e i.size (cs ++ news) := fun old _ => by
      have hge := grownCap_ge w (n + m) old e
      refine ⟨hlen, .inr ⟨w.heap.size, _, _, rfl, hB, heap_alloc_new w.drew _, hge, grownCap_le_maxLen w (n + m) old e hm, ?_, ?_⟩⟩
      · simp only [Array.size_append, List.size_toArray, size_zeroCells, hzs, ho.len, hl, ← Nat.add_mul]
        congr 1
        omega
      · simp only [Array.toList_append, List.append_assoc]
        rw [← List.append_assoc, ← hlen]
        exact List.take_left
    have ext : ∀ o, Ext (inA a) w (w.drew.alloc o) := fun o => Ext0.any (a := w) ⟨rfl, rfl, rfl, by simp, fun k hk _ => heap_alloc_old w.drew o hk⟩
    have hi63 : (((n + m : Nat)) : Int) ≤ 9223372036854775807 := by simp only [maxLen] at hm; omega
    have hB' := ho.2
    rcases hB' with ⟨hv, hn⟩ | ⟨gg, cap, cur, hv, hbg, hg, hncp, hcm, hcs, htake⟩
    · simp only [Value.slice.injEq] at hv
      obtain ⟨rfl, rfl, rfl⟩ := hv
      have hx : cs = [] := List.eq_nil_of_length_eq_zero (by rw [ho.len, Nat.zero_mul])
      subst hx
      have hr := run_append_nil (P := P) w T ty e i z hu hi hz ⟨b, off, none⟩ m cm news hl hnews (by omega) (by omega) (by simp only [Nat.zero_add] at hb; omega)
      have hf := fresh 0 (by omega)
      simp only [Nat.zero_add, List.nil_append, Array.empty_append] at hf ⊢
      refine ⟨_, _, _, hr, ?_, ext _, fun k hk => .inr (by simp only [inA, Option.map_some, Option.some.injEq] at hk; omega)⟩
      simpa using hf
    · simp only [Value.slice.injEq] at hv
      obtain ⟨rfl, _, rfl⟩ := hv
      by_cases hroom : n + m ≤ c
      · have hfit : n * i.size + news.length ≤ cur.size := by rw [hl, hcs, ← Nat.add_mul]; exact Nat.mul_le_mul_right _ hroom
        have hr := run_append_room (P := P) w T ty e i hu hi gg n c cur hg ⟨b, off, none⟩ m cm news hl hnews h1 hroom hfit
        refine ⟨_, _, _, hr, ⟨hlen, .inr ⟨gg, c, _, rfl, hbg, setRow_heap w gg cur _ e _ hg, hroom, hcm, ?_, ?_⟩⟩, ⟨rfl, rfl, rfl, by simp, fun k _ hk => setRow_other w gg k _ (fun ee => hk (by simp [inA, ee]))⟩, fun k hk => .inl hk⟩
        · simp only [List.size_toArray, List.length_append, List.length_take, List.length_drop, Array.length_toList]
          omega
        · rw [htake, ← hlen]
          exact List.take_left
      · have holds : ∀ j u, cs[j]? = some u → w.cell? ((⟨gg, 0, none⟩ : Addr).add j) = some u := fun j u hj => World.ownsRow.cells ho (g := gg) rfl j u hj
        have hr := run_append_grow (P := P) w T ty e i z hu hi hz ⟨gg, 0, none⟩ n c cs ho.len holds ⟨b, off, none⟩ m cm news hl hnews (by omega) (by omega) (growslice_fits (by omega) hb)
        exact ⟨_, _, _, hr, fresh c (by omega), ext _, fun k hk => .inr (by simp only [inA, Option.map_some, Option.some.injEq] at hk; omega)⟩

theorem k_append {T e s bytes : Nat} {z : Value} {ts : Array TypeId} (hT : SlT P T e s bytes z) (hts : ts = #[T, T]) {B n c m cm : Nat} {a ad : Option Addr} {cs news : List Value} (hx : ev ρ x = .slice a n c) (hy : ev ρ y = .slice ad m cm)
    (ho : Own w B a n c e s cs) (hs : Sl w ad news) (hl : news.length = m * s)
    (h1 : ∀ u ∈ news, u.oneCell' = true) (hb : (n + m) * bytes ≤ 140737488355328) (hm : n + m ≤ maxLen) (hB : B ≤ w.heap.size)
    (h : ∀ a' c' w', Ext (inA a) w w' → Own w' B a' (n + m) c' e s (cs ++ news) → (∀ k, inA a' k → inA a k ∨ w.heap.size ≤ k) → K (.slice a' (n + m) c') w') :
    opk P ⟨d, .call { callee := .builtin .append, args := #[x, y], argTypes := ts }, ty, pos, aft, g⟩ ρ w K := by
  obtain ⟨a', c', w', hr, h2, h3, h4⟩ := run_append_x (ty := ty) (cm := cm) hT ho hs hl h1 hb hm hB
  subst hts
  unfold opk
  simp only [execOp, resolve, invoke, builtin, Sem.run_bind, Sem.run_pure, Result.andThen_ok, List.map_toArray, List.map_cons, List.map_nil, hx, hy, hr]
  exact h a' c' w' h3 h2 h4

/-- '[]T{..}' -/
theorem k_bslice {T e s bytes n : Nat} {z : Value} {parts : Array (Nat × Operand)} {cells : Array Value} (hT : SlT P T e s bytes z) (hn : n * s ≤ 16777216)
    (hf : Instr.fill (fun i => some (i * s, s)) (madeCells z.cells (n * s)) (parts.map fun (i, x) => (i, ev ρ x)).toList = some cells) (hcs : cells.size = n * s)
    (h : ∀ b w', b = w.heap.size → Ext0 w w' → Own w' w.heap.size (some ⟨b, 0, none⟩) n n e s cells.toList → K (.slice (some ⟨b, 0, none⟩) n n) w') :
    opk P ⟨d, .buildSlice T n parts, ty, pos, aft, g⟩ ρ w K := by
  obtain ⟨i, hu, hi, hz, hsz, hby⟩ := hT.get
  subst hsz
  have hn' : ¬ (2 ^ 24 < n * i.size) := by omega
  have own : Own (w.alloc (.cells cells e)) w.heap.size (some ⟨w.heap.size, 0, none⟩) n n e i.size cells.toList :=
    ⟨by simpa using hcs, .inr ⟨w.heap.size, n, cells, rfl, Nat.le_refl _, Blk.new _ _ _, Nat.le_refl _, by have := hT.2.2.2; simp only [maxLen]; have : n * 1 ≤ n * i.size := Nat.mul_le_mul_left _ this; omega, hcs, by rw [List.take_of_length_le]; simp [hcs]⟩⟩
  have hk := h _ _ rfl (Ext0.alloc w _) own
  unfold opk
  have hf' := hf
  unfold madeCells at hf'
  rw [Array.toList_map] at hf'
  by_cases h0 : n * i.size = 0
  · have e0 : ∀ f : Nat → Value, (Array.range 0).map f = #[] := fun f => by simp [Array.range_zero']
    rw [h0, e0] at hf'
    simp [execOp, Instr.buildSlice, run_underlying hu, sizeOf, typeInfo, hi, h0, newRow, newObj, e0]
    rw [hf']
    exact hk
  · simp [execOp, Instr.buildSlice, run_underlying hu, sizeOf, typeInfo, hi, h0, hn', zeroValue, hz, newRow, newObj]
    rw [hf']
    exact hk
end
end Go.Wv
