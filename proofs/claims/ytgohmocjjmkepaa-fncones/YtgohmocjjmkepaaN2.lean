/- Kinds of elements, and the operations on lists. -/
import Derived.Test.YtgohmocjjmkepaaN1
set_option linter.unusedSimpArgs false
set_option linter.unusedVariables false
namespace Go.Wv
def kF : Kd Nat := ⟨1, fun x cs => ∃ r, cs = [.float .f32 r] ∧ Cn .f32 r x, by decide, fun ⟨_, h, _⟩ => by subst h; rfl, fun ⟨_, h, _⟩ => by subst h; simp [Value.oneCell']⟩
def kI : Kd Int := ⟨1, fun x cs => cs = [.int .i64 x], by decide, fun h => by subst h; rfl, fun h => by subst h; simp [Value.oneCell']⟩
def kB : Kd Bool := ⟨1, fun x cs => cs = [.bool x], by decide, fun h => by subst h; rfl, fun h => by subst h; simp [Value.oneCell']⟩
def kP : Kd (Int × Int) := ⟨2, fun x cs => cs = [.int .i64 x.1, .int .i64 x.2], by decide, fun h => by subst h; rfl, fun h => by subst h; simp [Value.oneCell']⟩
/-- A source: place, hard, wave. -/
structure Src where
  (x y : Int) (hd : Bool) (kd tt ln : Int) (tn sz : Nat) (sd : Int)
deriving Inhabited
def kS : Kd Src := ⟨9, fun s cs => ∃ r1 r2, cs = [.int .i64 s.x, .int .i64 s.y, .bool s.hd, .int .i64 s.kd, .int .i64 s.tt, .int .i64 s.ln, .float .f32 r1, .float .f32 r2, .int .i64 s.sd] ∧ Cn .f32 r1 s.tn ∧ Cn .f32 r2 s.sz,
  by decide, fun ⟨_, _, h, _⟩ => by subst h; rfl, fun ⟨_, _, h, _⟩ => by subst h; simp [Value.oneCell']⟩
/-- Cells in a row, from 'j' on. -/
def Row (w : World) (a : Option Addr) (j : Nat) (cs : List Value) : Prop := ∀ i u, cs[i]? = some u → ∃ b off, a = some ⟨b, off, none⟩ ∧ w.cell? ⟨b, off + j + i, none⟩ = some u
section
variable {w w' : World} {a : Option Addr} {j : Nat} {cs : List Value} {S : Nat → Prop}
theorem Row.cell (h : Row w a j cs) {i : Nat} {u : Value} (hu : cs[i]? = some u) : w.cell? (sat a (j + i)) = some u := by
  obtain ⟨b, off, rfl, hc⟩ := h i u hu
  simp only [sat]; rw [← Nat.add_assoc]; exact hc
theorem Row.ext (h : Row w a j cs) (e : Ext S w w') (hn : ∀ k, inA a k → S k → False) : Row w' a j cs := fun i u hu => by
  obtain ⟨b, off, rfl, hc⟩ := h i u hu
  exact ⟨b, off, rfl, cell_ext hc e (fun hs => hn b rfl hs)⟩
theorem Row.ext0 (h : Row w a j cs) (e : Ext0 w w') : Row w' a j cs := h.ext e fun _ _ h => h.elim
theorem Row.addr (h : Row w a j cs) (hne : 0 < cs.length) : ∃ b off, a = some ⟨b, off, none⟩ := by
  obtain ⟨b, off, ha, _⟩ := h 0 _ (List.getElem?_eq_getElem hne)
  exact ⟨b, off, ha⟩
end
section
variable {α : Type} {k : Kd α} {w w' : World} {a : Option Addr} {n c T : Nat} {X : List α}
theorem Rd.len (h : Rd w k a n X) : X.length = n := let ⟨_, h, _⟩ := h; h
theorem Ow.len (h : Ow w k a n c T X) : X.length = n := let ⟨_, h, _⟩ := h; h
theorem Ow.rd (h : Ow w k a n c T X) : Rd w k a n X := let ⟨cs, h1, h2, h3⟩ := h; ⟨cs, h1, h2, h3.sl⟩
theorem Rd.ext0 (h : Rd w k a n X) (e : Ext0 w w') : Rd w' k a n X := Fact.keep0 (f := .rd k a n X) h e
theorem Ow.ext0 (h : Ow w k a n c T X) (e : Ext0 w w') : Ow w' k a n c T X := Fact.keep0 (f := .ow k a n c T X) h e
theorem Rd.nil (w : World) (k : Kd α) (a : Option Addr) : Rd w k a 0 [] := ⟨[], rfl, rfl, Sl.nil _ _⟩
theorem Ow.nil (w : World) (k : Kd α) (T : Nat) : Ow w k none 0 0 T [] := ⟨[], rfl, rfl, Own.nil w 0 T k.sz⟩
theorem Rd.cast (h : Rd w k a n X) {n' : Nat} {X' : List α} (hn : n = n') (hX : X = X') : Rd w k a n' X' := by subst hn; subst hX; exact h
theorem New.nilO (w : World) (k : Kd α) (T : Nat) : New w w [.ow k none 0 0 T ([] : List α)] := New.one (Ext.refl _ _) (Ow.nil w k T) fun _ h => by simp [Fact.has, inA] at h
theorem Rd.addr (h : Rd w k a n X) (h0 : 0 < n) : ∃ b off, a = some ⟨b, off, none⟩ := by
  obtain ⟨cs, h1, h2, h3⟩ := h
  refine h3.addr ?_
  rw [reps_len h2, h1]
  exact Nat.mul_pos h0 k.pos
theorem Rd.at [Inhabited α] (h : Rd w k a n X) (i : Int) (h0 : 0 ≤ i) (h1 : i < (n : Int)) : ∃ c, k.rep (gl X i) c ∧ Row w a (i.toNat * k.sz) c := by
  obtain ⟨cs, h2, h3, h4⟩ := h
  obtain ⟨c, hc, hx⟩ := reps_at h3 h0 (by omega)
  refine ⟨c, hc, fun j u hj => ?_⟩
  obtain ⟨b, off, ha, hcell⟩ := h4 _ u (hx j u hj)
  exact ⟨b, off, ha, by rw [Nat.add_assoc]; exact hcell⟩
theorem Rd.atF {X : List Nat} (h : Rd w kF a n X) (i : Int) (h0 : 0 ≤ i) (h1 : i < (n : Int)) : ∃ r, Cn .f32 r (el X i) ∧ Row w a (i.toNat * 1) [.float .f32 r] := by
  obtain ⟨_, ⟨r, rfl, hr⟩, hR⟩ := h.at i h0 h1
  exact ⟨r, hr, hR⟩
theorem Rd.atI {X : List Int} (h : Rd w kI a n X) (i : Int) (h0 : 0 ≤ i) (h1 : i < (n : Int)) : Row w a (i.toNat * 1) [.int .i64 (gl X i)] := by
  obtain ⟨_, rfl, hR⟩ := h.at i h0 h1
  exact hR
theorem Rd.atB {X : List Bool} (h : Rd w kB a n X) (i : Int) (h0 : 0 ≤ i) (h1 : i < (n : Int)) : Row w a (i.toNat * 1) [.bool (gl X i)] := by
  obtain ⟨_, rfl, hR⟩ := h.at i h0 h1
  exact hR
theorem Rd.atP {X : List (Int × Int)} (h : Rd w kP a n X) (i : Int) (h0 : 0 ≤ i) (h1 : i < (n : Int)) : Row w a (i.toNat * 2) [.int .i64 (gl X i).1, .int .i64 (gl X i).2] := by
  obtain ⟨_, rfl, hR⟩ := h.at i h0 h1
  exact hR
theorem Rd.atS {X : List Src} (h : Rd w kS a n X) (i : Int) (h0 : 0 ≤ i) (h1 : i < (n : Int)) : ∃ r1 r2, Cn .f32 r1 (gl X i).tn ∧ Cn .f32 r2 (gl X i).sz ∧
    Row w a (i.toNat * 9) [.int .i64 (gl X i).x, .int .i64 (gl X i).y, .bool (gl X i).hd, .int .i64 (gl X i).kd, .int .i64 (gl X i).tt, .int .i64 (gl X i).ln, .float .f32 r1, .float .f32 r2, .int .i64 (gl X i).sd] := by
  obtain ⟨_, ⟨r1, r2, rfl, h1, h2⟩, hR⟩ := h.at i h0 h1
  exact ⟨r1, r2, h1, h2, hR⟩
/-- A part of a list. -/
def soff (a : Option Addr) (j : Nat) : Option Addr := a.map fun a => ⟨a.block, a.off + j, none⟩
theorem Rd.sub (h : Rd w k a n X) (lo hi : Nat) (h0 : lo ≤ hi) (h1 : hi ≤ n) : Rd w k (soff a (lo * k.sz)) (hi - lo) ((X.drop lo).take (hi - lo)) := by
  obtain ⟨cs, h2, h3, h4⟩ := h
  have e : X = X.take lo ++ ((X.drop lo).take (hi - lo) ++ (X.drop lo).drop (hi - lo)) := by rw [List.take_append_drop, List.take_append_drop]
  have hl : (X.take lo).length = lo := by rw [List.length_take]; omega
  rw [e] at h3
  obtain ⟨_, h5⟩ := reps_split h3
  obtain ⟨h6, _⟩ := reps_split h5
  have hm : ((X.drop lo).take (hi - lo)).length = hi - lo := by rw [List.length_take, List.length_drop]; omega
  refine ⟨_, hm, h6, fun j u hj => ?_⟩
  rw [List.getElem?_take] at hj
  split at hj
  · rw [List.getElem?_drop, hl] at hj
    obtain ⟨b, off, rfl, hc⟩ := h4 _ _ hj
    exact ⟨b, off + lo * k.sz, rfl, by rw [Nat.add_assoc]; exact hc⟩
  · cases hj
end
section
variable {P : Program} {ρ : Env} {w : World} {d : Option Tmp} {ty : TypeId} {pos : String} {aft : Array Edge} {g : Option (Nat × Bool)} {x y z : Operand} {v u : Value} {K : Value → World → Prop}
theorem y_loadR {T n j : Nat} {a : Option Addr} {vs : List Value} (hB : aggB P T n = true) (h : ev ρ x = .pointer (some (sat a j))) (hn : vs.length = n) (h0 : 0 < n) (hR : Row w a j vs) :
    Yv P ρ ⟨d, .load T x, ty, pos, aft, g⟩ (.agg vs.toArray) w := by
  obtain ⟨b, off, rfl⟩ := hR.addr (by omega)
  refine y_loadn (o := off + j) hB h hn fun i u hu => ?_
  obtain ⟨b', off', he, hc⟩ := hR i u hu
  cases he
  exact hc
/-- Part of a row's cells, as a struct. -/
theorem Row.part {a : Option Addr} {j o m : Nat} {cs vs : List Value} (h : Row w a j cs) (hv : (cs.drop o).take m = vs) : Row w a (j + o) vs := fun i u hu => by
  subst hv
  rw [List.getElem?_take] at hu
  split at hu
  · rw [List.getElem?_drop] at hu
    obtain ⟨b, off, ha, hc⟩ := h _ _ hu
    exact ⟨b, off, ha, by rw [← hc]; congr 2; omega⟩
  · cases hu
theorem k_boxN {T : Nat} {cs : List Value} (hx : ev ρ x = v) (hc : v.cells.toList = cs) (h : ∀ b w', New w w' [.blk b cs T] → K (.pointer (some ⟨b, 0, none⟩)) w') :
    opk P ⟨d, .box T x, ty, pos, aft, g⟩ ρ w K :=
  k_box hx hc fun b w' hb e hB => h b w' (New.one e hB fun k hk => by cases hk; exact Nat.le_of_eq hb.symm)
theorem k_allocN {T : Nat} {z : Value} {cs : List Value} (hz : zeroB P T z) (hc : z.cells.toList = cs) (h : ∀ b w', New w w' [.blk b cs T] → K (.pointer (some ⟨b, 0, none⟩)) w') :
    opk P ⟨d, .alloc T, ty, pos, aft, g⟩ ρ w K :=
  k_alloc hz hc fun b w' hb e hB => h b w' (New.one e hB fun k hk => by cases hk; exact Nat.le_of_eq hb.symm)
theorem New.ge {w w' : World} {b : Nat} {cs : List Value} {T : Nat} (h : New w w' [.blk b cs T]) : w.heap.size ≤ b := h.2.2.2 (.blk b cs T) (List.mem_singleton.2 rfl) b rfl
section
variable {α : Type} {k : Kd α}
theorem new_own {w w' : World} {b n c e : Nat} {X : List α} {cs : List Value} (hb : b = w.heap.size) (e0 : Ext0 w w') (hl : X.length = n) (hX : Reps k X cs) (ho : Own w' w.heap.size (some ⟨b, 0, none⟩) n c e k.sz cs) : New w w' [.ow k (some ⟨b, 0, none⟩) n c e X] :=
  New.one e0 ⟨cs, hl, hX, ho.base (Nat.zero_le _)⟩ fun q hq => by
    have : b = q := by simpa [Fact.has, inA] using hq
    omega
theorem flatten_madeCells (z : Value) (s n : Nat) (hs : z.cells.size = s) (h0 : 0 < s) : (madeCells z.cells (n * s)).toList = (List.replicate n z.cells.toList).flatten := by
  have h1 := made_flat (f := fun (_ : Unit) => z.cells.toList) (s := s) (fun _ => by simpa using hs) h0 (z := z) () rfl n
  rw [h1]
  unfold flat
  induction n with
  | zero => rfl
  | succ n ih =>
    rw [List.replicate_succ, List.replicate_succ, List.flatMap_cons, List.flatten_cons]
    congr 1
    have h2 := made_flat (f := fun (_ : Unit) => z.cells.toList) (s := s) (fun _ => by simpa using hs) h0 (z := z) () rfl n
    exact ih h2
theorem k_mkO {T e bytes : Nat} {z : Value} {z0 : α} {m : Int} (hT : SlT P T e k.sz bytes z) (hz : k.rep z0 z.cells.toList) (hx : ev ρ x = .int .i64 m) (hy : ev ρ y = .int .i64 m) (h0 : 0 ≤ m) (h1 : (bytes : Int) * m ≤ 140737488355328) (h2 : m ≤ 9223372036854775807)
    (h : ∀ b w', New w w' [.ow k (some ⟨b, 0, none⟩) m.toNat m.toNat e (List.replicate m.toNat z0)] → K (.slice (some ⟨b, 0, none⟩) m.toNat m.toNat) w') :
    opk P ⟨d, .makeSlice T x y, ty, pos, aft, g⟩ ρ w K :=
  k_mk hT hx hy h0 h1 h2 fun b w' hb e0 ho => h b w' (new_own hb e0 (by simp) (by
    rw [flatten_madeCells z k.sz m.toNat hT.2.2.1 k.pos]; exact reps_rep hz _) ho)
theorem k_bsliceO {T e bytes n : Nat} {z : Value} {parts : Array (Nat × Operand)} {cells : Array Value} {X : List α} (hT : SlT P T e k.sz bytes z) (hn : n * k.sz ≤ 16777216)
    (hf : Instr.fill (fun i => some (i * k.sz, k.sz)) (madeCells z.cells (n * k.sz)) (parts.map fun (i, x) => (i, ev ρ x)).toList = some cells) (hX : Reps k X cells.toList) (hl : X.length = n)
    (h : ∀ b w', New w w' [.ow k (some ⟨b, 0, none⟩) n n e X] → K (.slice (some ⟨b, 0, none⟩) n n) w') :
    opk P ⟨d, .buildSlice T n parts, ty, pos, aft, g⟩ ρ w K :=
  k_bslice hT hn hf (by have := reps_len hX; rw [hl] at this; simpa using this) fun b w' hb e0 ho => h b w' (new_own hb e0 hl hX ho)
/-- An append to a list of the call's own. -/
theorem k_appO {T e bytes : Nat} {z : Value} {ts : Array TypeId} (hT : SlT P T e k.sz bytes z) (hts : ts = #[T, T]) {n c m cm : Nat} {a ad : Option Addr} {X Y : List α} (hx : ev ρ x = .slice a n c) (hy : ev ρ y = .slice ad m cm)
    (ho : Ow w k a n c e X) (hs : Rd w k ad m Y) (hb : (n + m) * bytes ≤ 140737488355328) (hm : n + m ≤ maxLen)
    (h : ∀ a' c' w', Upd w w' [.ow k a n c e X] [.ow k a' (n + m) c' e (X ++ Y)] → K (.slice a' (n + m) c') w') :
    opk P ⟨d, .call { callee := .builtin .append, args := #[x, y], argTypes := ts }, ty, pos, aft, g⟩ ρ w K := by
  obtain ⟨cs, h1, h2, h3⟩ := ho
  obtain ⟨ds, h4, h5, h6⟩ := hs
  refine k_append hT hts hx hy h3 h6 (by rw [reps_len h5, h4]) (reps_cell h5) hb hm (Nat.zero_le _) fun a' c' w' e0 ho' hk => h a' c' w' ?_
  refine ⟨e0.mono fun q hq => ⟨_, List.mem_singleton.2 rfl, rfl, hq⟩, All.cons ⟨cs ++ ds, by rw [List.length_append, h1, h4], reps_app h2 h5, ho'⟩ All.nil, Pw.one _, fun f hf q hq hl => ?_⟩
  rcases List.mem_cons.1 hf with rfl | hf
  · rcases hk q hq with h | h
    · exact ⟨_, List.mem_singleton.2 rfl, rfl, h⟩
    · exact absurd hl (Nat.not_lt.2 h)
  · cases hf
/-- A store into an element of a list of the call's own. -/
theorem k_stO [Inhabited α] {T T' n c i' : Nat} {m : Nat} {a : Option Addr} {X : List α} {i : Int} {j : Nat} {x' : α} {new : List Value} (hB : szB P T m = true) (hx : ev ρ x = .pointer (some (sat a i'))) (hi' : i' = i.toNat * k.sz + j) (hy : ev ρ y = v) (hv : v.cells.toList = new) (hm : new.length = m) (h1 : ∀ u ∈ new, u.oneCell' = true) (hm0 : 0 < m)
    (ho : Ow w k a n c T' X) (h0 : 0 ≤ i) (hl : i < (n : Int)) (hj : j + m ≤ k.sz) (hr : ∀ q, k.rep (gl X i) q → k.rep x' (q.take j ++ new ++ q.drop (j + m)))
    (h : ∀ w', Upd w w' [.ow k a n c T' X] [.ow k a n c T' (pl X i x')] → K undef w') : opk P ⟨d, .store T x y, ty, pos, aft, g⟩ ρ w K := by
  subst hi'
  subst hm
  obtain ⟨cs, h2, h3, h4⟩ := ho
  have hcl := reps_len h3
  have hle : i.toNat * k.sz + j + new.length ≤ cs.length := by
    have : (i.toNat + 1) * k.sz ≤ n * k.sz := Nat.mul_le_mul_right _ (by omega)
    rw [Nat.add_mul, Nat.one_mul] at this
    rw [hcl, h2]; omega
  have hvs : v.cells.size = new.length := by rw [← hv]; simp
  refine k_storeElN (m := new.length) hB hx hy hvs (by rw [hv]; exact h1) hm0 h4 hle rfl fun w' e0 _ ho' => h w' ?_
  refine ⟨e0.mono fun q hq => ⟨_, List.mem_singleton.2 rfl, rfl, hq⟩, All.cons ⟨_, by rw [pl_length, h2], reps_set h3 h0 (by omega) hj hr, by rw [← hv]; rw [← hv] at ho'; exact ho'⟩ All.nil, Pw.one _, fun f hf q hq _ => ?_⟩
  rcases List.mem_cons.1 hf with rfl | hf
  · exact ⟨_, List.mem_singleton.2 rfl, rfl, hq⟩
  · cases hf
end
/-- A store into a block of the call's own. -/
theorem k_stB {T T' b o n : Nat} {cs cs' : List Value} (hB : szB P T n = true) (hx : ev ρ x = .pointer (some ⟨b, o, none⟩)) (hy : ev ρ y = v) (hv : v.cells.size = n) (hb : Blk w b cs T')
    (h1 : ∀ u ∈ v.cells.toList, u.oneCell' = true) (hl : o + n ≤ cs.length) (hc : cs.take o ++ v.cells.toList ++ cs.drop (o + n) = cs')
    (h : ∀ w', Upd w w' [.blk b cs T'] [.blk b cs' T'] → K undef w') : opk P ⟨d, .store T x y, ty, pos, aft, g⟩ ρ w K :=
  k_store hB hx hy hv hb h1 hl hc fun w' e0 _ hb' => h w' ⟨e0.mono fun q hq => ⟨_, List.mem_singleton.2 rfl, rfl, hq⟩, All.cons hb' All.nil, Pw.one _, fun f hf q hq _ => by
    rcases List.mem_cons.1 hf with rfl | hf
    · exact ⟨_, List.mem_singleton.2 rfl, rfl, hq⟩
    · cases hf⟩
theorem Upd.ext {w w' : World} {L L' : List Fact} (h : Upd w w' L L') : Ext (hasW L) w w' := h.1
/-- What is written from a world on that was not there before stays apart from what was. -/
theorem Upd.at1 {w w' : World} {b : Nat} {cs cs' : List Value} {T : Nat} (h : Upd w w' [.blk b cs T] [.blk b cs' T]) : Ext (at1 b) w w' := h.1.mono fun k hk => by
  obtain ⟨f, hf, _, hh⟩ := hk
  rcases List.mem_cons.1 hf with rfl | hf
  · exact hh
  · cases hf
end
section
variable {w0 w w' : World} {S : Nat → Prop} {L : List Fact}
theorem Bu.new1 (B : Bu w0 S w L) {f : Fact} (N : New w w' [f]) : Bu w0 S w' (f :: L) := B.new N
theorem Bu.new2 (B : Bu w0 S w L) {f g : Fact} (N : New w w' [f, g]) : Bu w0 S w' (f :: g :: L) := B.new N
theorem Bu.new3 (B : Bu w0 S w L) {f g h : Fact} (N : New w w' [f, g, h]) : Bu w0 S w' (f :: g :: h :: L) := B.new N
theorem Bu.new4 (B : Bu w0 S w L) {f g h i : Fact} (N : New w w' [f, g, h, i]) : Bu w0 S w' (f :: g :: h :: i :: L) := B.new N
/-- In a region that writes what fact 'j' speaks of. -/
theorem Bu.bx (B : Bu w0 S w L) (i j : Nat) {b T : Nat} {cs : List Value} {g : Fact} {U : Nat → Prop} (hi : L[i]? = some (.blk b cs T)) (hj : L[j]? = some g) (hij : (i != j) = true) (hg : g.ro = false) (e : Ext U w w') (hU : ∀ k, U k → g.has k) : Blk w' b cs T :=
  B.keep i j hi hj hij hg e hU
theorem Bu.sx (B : Bu w0 S w L) (i j : Nat) {a : Option Addr} {cs : List Value} {g : Fact} {U : Nat → Prop} (hi : L[i]? = some (.sl a cs)) (hj : L[j]? = some g) (hij : (i != j) = true) (hg : g.ro = false) (e : Ext U w w') (hU : ∀ k, U k → g.has k) : Sl w' a cs :=
  B.keep i j hi hj hij hg e hU
theorem Bu.rowr {α : Type} {k : Kd α} (B : Bu w0 S w L) (i j : Nat) {a : Option Addr} {n q : Nat} {X : List α} {cs : List Value} {g : Fact} {U : Nat → Prop} (hi : L[i]? = some (.rd k a n X)) (hj : L[j]? = some g) (hij : (i != j) = true) (hg : g.ro = false) (hn : 0 < n) (hR : Row w a q cs) (e : Ext U w w') (hU : ∀ k, U k → g.has k) : Row w' a q cs :=
  hR.ext e fun kx h1 h2 => B.ap i j hi hj hij hg kx ⟨by omega, h1⟩ (hU kx h2)
theorem Bu.rowo {α : Type} {k : Kd α} (B : Bu w0 S w L) (i j : Nat) {a : Option Addr} {n c T q : Nat} {X : List α} {cs : List Value} {g : Fact} {U : Nat → Prop} (hi : L[i]? = some (.ow k a n c T X)) (hj : L[j]? = some g) (hij : (i != j) = true) (hg : g.ro = false) (hR : Row w a q cs) (e : Ext U w w') (hU : ∀ k, U k → g.has k) : Row w' a q cs :=
  hR.ext e fun kx h1 h2 => B.ap i j hi hj hij hg kx h1 (hU kx h2)
theorem Upd.atA {α : Type} {k : Kd α} {a : Option Addr} {n c T : Nat} {X : List α} {L' : List Fact} (h : Upd w w' [.ow k a n c T X] L') : Ext (inA a) w w' := h.1.mono fun q hq => by
  obtain ⟨f, hf, _, hh⟩ := hq
  rcases List.mem_cons.1 hf with rfl | hf
  · exact hh
  · cases hf
end
end Go.Wv
