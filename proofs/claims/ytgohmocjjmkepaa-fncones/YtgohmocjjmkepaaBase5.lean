/- Memory: what stays, what is known of blocks and slices, and the operations that act. -/
import Derived.Test.YtgohmocjjmkepaaBase4
set_option linter.unusedSimpArgs false
set_option linter.unusedVariables false
namespace Go.Wv

structure Ext (S : Nat → Prop) (w w' : World) : Prop where
  os : w'.os = w.os
  tape : w'.tape = w.tape
  output : w'.output = w.output
  size : w.heap.size ≤ w'.heap.size
  blk : ∀ k, k < w.heap.size → ¬ S k → w'.heap[k]? = w.heap[k]?

def no : Nat → Prop := fun _ => False
def at1 (b : Nat) : Nat → Prop := fun k => k = b
def inA (a : Option Addr) : Nat → Prop := fun k => a.map (·.block) = some k
abbrev Ext0 := Ext no

/-- Two blocks are two; a number is not below. -/
def NeB (a b : Nat) : Prop := a = b → False
def NotLt (a b : Nat) : Prop := a < b → False
theorem Ext.refl (S : Nat → Prop) (w : World) : Ext S w w := ⟨rfl, rfl, rfl, Nat.le_refl _, fun _ _ _ => rfl⟩
theorem Ext.trans {S : Nat → Prop} {a b c : World} (h : Ext S a b) (k : Ext S b c) : Ext S a c :=
  ⟨k.os.trans h.os, k.tape.trans h.tape, k.output.trans h.output, Nat.le_trans h.size k.size, fun i hi hs => (k.blk i (Nat.lt_of_lt_of_le hi h.size) hs).trans (h.blk i hi hs)⟩
theorem Ext.mono {S T : Nat → Prop} {a b : World} (h : Ext S a b) (hs : ∀ k, S k → T k) : Ext T a b := ⟨h.os, h.tape, h.output, h.size, fun i hi ht => h.blk i hi fun x => ht (hs _ x)⟩
/-- What is written from block 'B' on was not there. -/
theorem Ext.fresh {S T : Nat → Prop} {a b c : World} (h : Ext S a b) (k : Ext T b c) (ht : ∀ i, T i → i < a.heap.size → S i) : Ext S a c :=
  ⟨k.os.trans h.os, k.tape.trans h.tape, k.output.trans h.output, Nat.le_trans h.size k.size, fun i hi hs => (k.blk i (Nat.lt_of_lt_of_le hi h.size) fun x => hs (ht i x hi)).trans (h.blk i hi hs)⟩
theorem Ext.drewN {S : Nat → Prop} {a b : World} (h : Ext S a b) (n : Nat) : Ext S a (b.drewN n) := ⟨h.os, h.tape, h.output, h.size, h.blk⟩
theorem Ext0.any {S : Nat → Prop} {a b : World} (h : Ext0 a b) : Ext S a b := h.mono fun _ x => x.elim
theorem Ext0.of_draw (w : World) (n : Nat) : Ext0 w (w.drewN n) := (Ext.refl _ _).drewN n

theorem Ext.below {S : Nat → Prop} {B : Nat} {a b : World} (h : Ext S a b) (hB : B ≤ a.heap.size) (hs : ∀ k, S k → B ≤ k) : Go.RowKit.Below B a b :=
  ⟨h.os, h.tape, h.output, h.size, fun k hk => h.blk k (by omega) fun x => by have := hs k x; omega⟩

/-- A slice that is read: its cells. -/
def Sl (w : World) (a : Option Addr) (cs : List Value) : Prop := ∀ j u, cs[j]? = some u → ∃ b off, a = some ⟨b, off, none⟩ ∧ w.cell? ⟨b, off + j, none⟩ = some u
def sat (a : Option Addr) (j : Nat) : Addr := match a with
  | some a => ⟨a.block, a.off + j, none⟩
  | none => default

/-- A block of the call's own: its cells, its type. -/
def Blk (w : World) (b : Nat) (cs : List Value) (T : Nat) : Prop := w.heap[b]? = some (.cells cs.toArray T (0, 0))

theorem Blk.lt {w : World} {b : Nat} {cs : List Value} {T : Nat} (h : Blk w b cs T) : b < w.heap.size := (Array.getElem?_eq_some_iff.1 h).1
theorem Blk.ext {S : Nat → Prop} {w w' : World} {b : Nat} {cs : List Value} {T : Nat} (h : Blk w b cs T) (e : Ext S w w') (hn : ¬ S b) : Blk w' b cs T := (e.blk b h.lt hn).trans h
theorem Blk.ext0 {w w' : World} {b : Nat} {cs : List Value} {T : Nat} (h : Blk w b cs T) (e : Ext0 w w') : Blk w' b cs T := h.ext e id
theorem Blk.cell {w : World} {b : Nat} {cs : List Value} {T j : Nat} {u : Value} (h : Blk w b cs T) (hu : cs[j]? = some u) : w.cell? ⟨b, j, none⟩ = some u := by
  simp only [World.cell?, show w.heap[b]? = _ from h]
  simpa using hu
theorem Blk.sl {w : World} {b : Nat} {cs : List Value} {T : Nat} (h : Blk w b cs T) : Sl w (some ⟨b, 0, none⟩) cs := fun j u hj => ⟨b, 0, rfl, by rw [Nat.zero_add]; exact h.cell hj⟩
theorem Blk.cells {w : World} {b o : Nat} {cs vs : List Value} {T : Nat} (h : Blk w b cs T) (hv : (cs.drop o).take vs.length = vs) : ∀ j u, vs[j]? = some u → w.cell? ⟨b, o + j, none⟩ = some u := by
  intro j u hj
  refine h.cell ?_
  rw [← hv, List.getElem?_take] at hj
  split at hj
  · simpa using hj
  · cases hj

theorem Sl.cell {w : World} {a : Option Addr} {cs : List Value} {j : Nat} {u : Value} (h : Sl w a cs) (hj : cs[j]? = some u) : w.cell? (sat a j) = some u := by
  obtain ⟨b, off, rfl, hc⟩ := h j u hj
  exact hc
theorem cell_ext {S : Nat → Prop} {w w' : World} {p : Addr} {u : Value} (hc : w.cell? p = some u) (e : Ext S w w') (hn : ¬ S p.block) : w'.cell? p = some u :=
  (World.cell?_of_block (e.blk p.block (World.block_lt_of_cell? w p hc) hn)).trans hc
theorem Sl.ext {S : Nat → Prop} {w w' : World} {a : Option Addr} {cs : List Value} (h : Sl w a cs) (e : Ext S w w') (hn : ∀ k, inA a k → ¬ S k) : Sl w' a cs := fun j u hj => by
  obtain ⟨b, off, rfl, hc⟩ := h j u hj
  exact ⟨b, off, rfl, cell_ext hc e (hn b rfl)⟩
theorem Sl.ext0 {w w' : World} {a : Option Addr} {cs : List Value} (h : Sl w a cs) (e : Ext0 w w') : Sl w' a cs := h.ext e fun _ _ => id
theorem Sl.lt {w : World} {a : Option Addr} {cs : List Value} (h : Sl w a cs) (hne : cs ≠ []) : ∀ k, inA a k → k < w.heap.size := fun k hk => by
  cases cs with
  | nil => exact absurd rfl hne
  | cons c cs =>
    obtain ⟨b, off, rfl, hc⟩ := h 0 c rfl
    have : b = k := by simpa [inA] using hk
    subst this
    exact World.block_lt_of_cell? w _ hc
theorem Sl.addr {w : World} {a : Option Addr} {cs : List Value} (h : Sl w a cs) (hne : 0 < cs.length) : ∃ b off, a = some ⟨b, off, none⟩ := by
  obtain ⟨b, off, ha, _⟩ := h 0 _ (List.getElem?_eq_getElem hne)
  exact ⟨b, off, ha⟩
theorem Sl.ext' {S : Nat → Prop} {w w' : World} {a : Option Addr} {cs : List Value} (h : Sl w a cs) (e : Ext S w w') (hn : ∀ k, k < w.heap.size → inA a k → ¬ S k) : Sl w' a cs := fun j u hj => by
  obtain ⟨b, off, rfl, hc⟩ := h j u hj
  exact ⟨b, off, rfl, cell_ext hc e (hn b (World.block_lt_of_cell? w _ hc) rfl)⟩
theorem Sl.nil (w : World) (a : Option Addr) : Sl w a [] := fun j u h => by simp at h
theorem Sl.sub {w : World} {b o n : Nat} {cs : List Value} (m : Nat) (h : Sl w (some ⟨b, o, none⟩) cs) : Sl w (some ⟨b, o + n, none⟩) ((cs.drop n).take m) := fun j u hj => by
  rw [List.getElem?_take] at hj
  split at hj
  · rw [List.getElem?_drop] at hj
    obtain ⟨b', off, he, hc⟩ := h _ _ hj
    cases he
    exact ⟨b, o + n, rfl, by rw [Nat.add_assoc]; exact hc⟩
  · cases hj

/-- A slice that the call made: it owns its cells. 'B': its block is not below. -/
def Own (w : World) (B : Nat) (a : Option Addr) (n c T s : Nat) (cs : List Value) : Prop := w.ownsRow B T s (.slice a n c) n cs

section own
variable {w w' : World} {B n c T s : Nat} {a : Option Addr} {cs : List Value}
theorem Own.len (h : Own w B a n c T s cs) : cs.length = n * s := h.1
theorem Own.blk (h : Own w B a n c T s cs) : ∀ k, inA a k → B ≤ k ∧ k < w.heap.size := fun k hk => by
  refine World.ownsRow.lt h k ?_
  cases a with
  | none => simp [inA] at hk
  | some a => simpa [inA, Value.ownBlock] using hk
theorem Own.sl (h : Own w B a n c T s cs) : Sl w a cs := fun j u hj => by
  rcases h.2 with ⟨hv, hn⟩ | ⟨g, cap, cur, hv, _⟩
  · have : cs = [] := List.eq_nil_of_length_eq_zero (by rw [h.1, hn, Nat.zero_mul])
    rw [this] at hj; simp at hj
  · simp only [Value.slice.injEq] at hv
    obtain ⟨rfl, _, rfl⟩ := hv
    refine ⟨g, 0, rfl, ?_⟩
    have := World.ownsRow.cells h (g := g) rfl j u hj
    rwa [add_lit] at this
theorem Own.ext {S : Nat → Prop} (h : Own w B a n c T s cs) (e : Ext S w w') (hn : ∀ k, inA a k → ¬ S k) : Own w' B a n c T s cs := by
  refine ⟨h.1, ?_⟩
  rcases h.2 with hv | ⟨g, cap, cur, hv, hb, hg, rest⟩
  · exact .inl hv
  · refine .inr ⟨g, cap, cur, hv, hb, ?_, rest⟩
    rw [e.blk g (Array.getElem?_eq_some_iff.1 hg).1 (hn g (by simp only [Value.slice.injEq] at hv; rw [hv.1]; rfl))]
    exact hg
theorem Own.ext0 (h : Own w B a n c T s cs) (e : Ext0 w w') : Own w' B a n c T s cs := h.ext e fun _ _ => id
theorem Own.base {B' : Nat} (h : Own w B a n c T s cs) (hb : B' ≤ B) : Own w B' a n c T s cs := by
  refine ⟨h.1, ?_⟩
  rcases h.2 with hv | ⟨g, cap, cur, hv, hb', rest⟩
  · exact .inl hv
  · exact .inr ⟨g, cap, cur, hv, Nat.le_trans hb hb', rest⟩
theorem Own.rebase {B' : Nat} (h : Own w B a n c T s cs) (hb : ∀ k, inA a k → B' ≤ k) : Own w B' a n c T s cs := by
  refine ⟨h.1, ?_⟩
  rcases h.2 with hv | ⟨g, cap, cur, hv, _, rest⟩
  · exact .inl hv
  · refine .inr ⟨g, cap, cur, hv, hb g ?_, rest⟩
    simp only [Value.slice.injEq] at hv; rw [hv.1]; rfl
theorem Own.nil (w : World) (B T s : Nat) : Own w B none 0 0 T s [] := World.ownsRow_nil w B T s
end own

theorem Ext.of_grown {w w' : World} {a : Option Addr} {n c : Nat} (h : w.grownBy w' (Value.slice a n c).ownBlock) : Ext (inA a) w w' :=
  ⟨h.os, h.tape, h.output, h.size, fun k hk hs => h.block k hk fun e => hs (by
    cases a with
    | none => simp [Value.ownBlock] at e
    | some a => simpa [inA, Value.ownBlock] using e.symm)⟩

theorem Ext0.alloc (w : World) (o : Obj) : Ext0 w (w.alloc o) :=
  ⟨rfl, rfl, rfl, by simp, fun k hk _ => by show (w.heap.push o)[k]? = _; rw [Array.getElem?_push, if_neg (by omega)]⟩

theorem Blk.new (w : World) (cs : Array Value) (T : Nat) : Blk (w.alloc (.cells cs T)) w.heap.size cs.toList T := by
  show (w.heap.push _)[w.heap.size]? = _
  rw [Array.getElem?_push, if_pos rfl]

/-! ### Operations that act -/
section
variable {P : Program} {ρ : Env} {w : World} {d : Option Tmp} {ty : TypeId} {pos : String} {aft : Array Edge} {g : Option (Nat × Bool)} {x y z : Operand} {v u : Value} {K : Value → World → Prop}

theorem run_callFunc {f : Nat} (h : fnB P f = true) (args : Array Value) (w : World) : (callFunc f args).run P w = .ok (.enter f args) w := by
  unfold fnB at h
  split at h
  · rename_i fn hf
    simp only [Bool.and_eq_true, Bool.not_eq_true'] at h
    have h1 : ¬ fn.name = "runtime.NumGoroutine" := by simpa using h.1
    have h2 : ¬ fn.body = none := by intro e; simp [e] at h
    simp [callFunc, hf, h1, h2]
  · cases h

/-- What a contract says: the function returns, and ... -/
def Rt (Φ : Value → World → Prop) : Ending → World → Prop := fun e w => ∃ v, e = .returned v ∧ Φ v w
theorem Rt.retK {Φ K : Value → World → Prop} {F : Nat} {vs : Array Value} (h : Calls P F vs w (Rt Φ)) (k : ∀ v w', Φ v w' → K v w') : Calls P F vs w (retK K) :=
  h.mono fun e w' ⟨v, he, hv⟩ => by subst he; exact k v w' hv

theorem k_call {f : Nat} {as : List Operand} {ts : Array TypeId} {vs : List Value} {Φ : Value → World → Prop} (hB : fnB P f = true) (h : Calls P f vs.toArray w (Rt Φ)) (ha : as.map (ev ρ) = vs) (k : ∀ v w', Φ v w' → K v w') :
    opk P ⟨d, .call { callee := .value (.func f), args := as.toArray, argTypes := ts }, ty, pos, aft, g⟩ ρ w K := by
  subst ha
  unfold opk
  simp only [execOp, resolve, Sem.run_bind, Sem.run_pure, Deferred.ofValue, ev, Result.andThen_ok, invoke, Array.empty_append, Array.append_empty, run_callFunc hB, List.map_toArray]
  exact Rt.retK h k

theorem k_callv {f t : Nat} {as : List Operand} {ts : Array TypeId} {vs us xs : List Value} {Φ : Value → World → Prop} (hB : fnB P f = true) (ht : ρ t = .func (.func f) us.toArray xs.toArray) (h : Calls P f (us ++ vs ++ xs).toArray w (Rt Φ)) (ha : as.map (ev ρ) = vs) (k : ∀ v w', Φ v w' → K v w') :
    opk P ⟨d, .call { callee := .value (.tmp t), args := as.toArray, argTypes := ts }, ty, pos, aft, g⟩ ρ w K := by
  subst ha
  unfold opk
  simp only [execOp, resolve, Sem.run_bind, Sem.run_pure, Deferred.ofValue, ev, ht, Result.andThen_ok, invoke, run_callFunc hB, List.map_toArray, List.append_toArray]
  exact Rt.retK h k

theorem k_box {T : Nat} {cs : List Value} (hx : ev ρ x = v) (hc : v.cells.toList = cs) (h : ∀ b w', b = w.heap.size → Ext0 w w' → Blk w' b cs T → K (.pointer (some ⟨b, 0, none⟩)) w') :
    opk P ⟨d, .box T x, ty, pos, aft, g⟩ ρ w K := by
  subst hc
  unfold opk
  simp only [execOp, Instr.box, newVar, newRow, newObj, hx, Sem.run_bind, Sem.run_pure, Sem.run, Result.andThen_ok]
  exact h _ (w.alloc (.cells v.cells T)) rfl (Ext0.alloc _ _) (Blk.new _ _ _)

def zeroB (P : Program) (T : Nat) (z : Value) : Prop := (P.info? T).bind (·.zero) = some z
theorem k_alloc {T : Nat} {z : Value} {cs : List Value} (hz : zeroB P T z) (hc : z.cells.toList = cs) (h : ∀ b w', b = w.heap.size → Ext0 w w' → Blk w' b cs T → K (.pointer (some ⟨b, 0, none⟩)) w') :
    opk P ⟨d, .alloc T, ty, pos, aft, g⟩ ρ w K := by
  subst hc
  unfold zeroB at hz
  cases hi : P.info? T with
  | none => simp [hi] at hz
  | some i =>
    have hz' : i.zero = some z := by simpa [hi] using hz
    unfold opk
    simp only [execOp, Instr.alloc, zeroValue, typeInfo, program, newVar, newRow, newObj, hi, hz', Sem.run_bind, Sem.run_pure, Sem.run, Result.andThen_ok]
    exact h _ (w.alloc (.cells z.cells T)) rfl (Ext0.alloc _ _) (Blk.new _ _ _)

def szB (P : Program) (T n : Nat) : Bool := match P.info? T with
  | some i => i.size == n
  | none => false
theorem szB_spec {T n : Nat} (h : szB P T n = true) (w : World) : (sizeOf T).run P w = .ok n w := by
  unfold szB at h
  cases hi : P.info? T with
  | none => simp [hi] at h
  | some i => simp [sizeOf, typeInfo, hi]; simpa [hi] using h

theorem y_loadO {T n k b o : Nat} {cs vs : List Value} (hB : aggB P T n = true) (h : ev ρ x = .pointer (some ⟨b, o + k, none⟩)) (hn : vs.length = n) (hS : Sl w (some ⟨b, o, none⟩) cs) (hv : (cs.drop k).take n = vs) :
    Yv P ρ ⟨d, .load T x, ty, pos, aft, g⟩ (.agg vs.toArray) w := y_loadn hB h hn fun j u hj => by
  subst hv
  rw [List.getElem?_take] at hj
  split at hj
  · rw [List.getElem?_drop] at hj
    have := hS.cell hj
    rw [Nat.add_assoc]; exact this
  · cases hj
theorem y_loadEl {T n j : Nat} {a : Option Addr} {cs vs : List Value} (hB : aggB P T n = true) (h : ev ρ x = .pointer (some (sat a j))) (hn : vs.length = n) (h0 : 0 < n) (hS : Sl w a cs) (hv : (cs.drop j).take n = vs) :
    Yv P ρ ⟨d, .load T x, ty, pos, aft, g⟩ (.agg vs.toArray) w := by
  have hne : 0 < cs.length := by
    rcases Nat.eq_zero_or_pos cs.length with e | e
    · rw [List.eq_nil_of_length_eq_zero e] at hv; rw [← hv] at hn; simp at hn; omega
    · exact e
  obtain ⟨b, off, rfl⟩ := hS.addr hne
  exact y_loadO (o := off) hB h hn hS hv

/-- A store into a block of the call's own. -/
theorem k_store {T T' b o n : Nat} {cs cs' : List Value} (hB : szB P T n = true) (hx : ev ρ x = .pointer (some ⟨b, o, none⟩)) (hy : ev ρ y = v) (hv : v.cells.size = n) (hb : Blk w b cs T')
    (h1 : ∀ u ∈ v.cells.toList, u.oneCell' = true) (hl : o + n ≤ cs.length) (hc : cs.take o ++ v.cells.toList ++ cs.drop (o + n) = cs')
    (h : ∀ w', Ext (at1 b) w w' → w'.heap.size = w.heap.size → Blk w' b cs' T' → K undef w') : opk P ⟨d, .store T x y, ty, pos, aft, g⟩ ρ w K := by
  have hst := run_storeCells_at P b o T' v.cells.toList 0 cs.toArray w hb (by simpa [hv] using hl) h1
  unfold opk
  simp only [execOp, Instr.storeAt, Instr.sureAddr, storeVar, hx, hy, hv, Sem.run_bind, Sem.run_pure, Result.andThen_ok, szB_spec hB, hst, ne_eq, not_true_eq_false, if_false]
  refine h _ ⟨rfl, rfl, rfl, by simp, fun k _ hk => setRow_other w b k _ hk⟩ (by simp) ?_
  have := setRow_heap w b cs.toArray cs'.toArray T' (0, 0) hb
  simp only [Nat.add_zero, Array.length_toList, hv]
  rw [hc]
  exact this

/-- A store into an element (of one cell) of a slice that the call made. -/
theorem k_storeEl {T T' B n c s j : Nat} {a : Option Addr} {cs : List Value} (hB : szB P T 1 = true) (hx : ev ρ x = .pointer (some (sat a j))) (hy : ev ρ y = v) (hv : v.cells = #[v]) (h1 : v.oneCell' = true)
    (ho : Own w B a n c T' s cs) (hj : j < cs.length) (h : ∀ w', Ext (inA a) w w' → w'.heap.size = w.heap.size → Own w' B a n c T' s (cs.set j v) → K undef w') : opk P ⟨d, .store T x y, ty, pos, aft, g⟩ ρ w K := by
  obtain ⟨b, off, rfl, hc⟩ := ho.sl j _ (List.getElem?_eq_getElem hj)
  have ho' := ho
  rcases ho.2 with ⟨hv', _⟩ | ⟨gg, cap, cur, hv', hb, hg, _⟩
  · simp at hv'
  simp only [Value.slice.injEq, Option.some.injEq, Addr.mk.injEq, and_true, true_and] at hv'
  obtain ⟨⟨rfl, rfl⟩, rfl⟩ := hv'
  have hst := World.ownsRow.stored ho j v
  have hfro : w.frozen? ⟨b, j, none⟩ = false := by simp [World.frozen?, hg]
  simp only [Nat.zero_add] at hc
  unfold opk
  simp only [execOp, Instr.storeAt, Instr.sureAddr, storeVar, hx, hy, hv, Sem.run_bind, Sem.run_pure, Result.andThen_ok, szB_spec hB, sat, Nat.zero_add, storeCells, Addr.add,
    List.size_toArray, List.length_cons, List.length_nil, ne_eq, not_true_eq_false, if_false, if_true, run_store P w ⟨b, j, none⟩ v _ h1, hc, hfro, Bool.false_eq_true]
  exact h _ (Ext.of_grown (n := n) (c := c) (a := some ⟨b, 0, none⟩) hst.2) (by simp) hst.1

end
end Go.Wv
