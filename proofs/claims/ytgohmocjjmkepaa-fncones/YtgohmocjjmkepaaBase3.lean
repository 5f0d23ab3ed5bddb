/- Operations over environments: what each yields. -/
import Derived.Test.YtgohmocjjmkepaaBase2
import Derived.Laws.FloatArith
set_option linter.unusedSimpArgs false
set_option linter.unusedVariables false
namespace Go.Wv

/-! ### The tables of types, asked by Bools -/
def fldB (P : Program) (T f off : Nat) : Bool :=
  match P.underlying T with
  | some (.struct fs) => match fs[f]? with
    | some fd => fd.offset == off && P.cellsOf fd.type != 0
    | none => false
  | _ => false
def slB (P : Program) (T e s : Nat) : Bool :=
  match P.underlying T, P.info? e with
  | some (.slice e'), some i => e' == e && i.size == s
  | _, _ => false
def aggB (P : Program) (T n : Nat) : Bool :=
  match P.underlying T, P.info? T with
  | some (.struct _), some i => i.size == n
  | _, _ => false
def oneB (P : Program) (T : Nat) : Bool :=
  match P.underlying T, P.info? T with
  | some (.struct _), _ => false
  | some (.array ..), _ => false
  | some _, some i => i.size == 1
  | _, _ => false
def fnB (P : Program) (f : Nat) : Bool :=
  match P.funcs[f]? with
  | some fn => !(fn.name == "runtime.NumGoroutine") && !fn.body.isNone
  | none => false

section
variable {P : Program}

theorem fldB_spec {T f off : Nat} (h : fldB P T f off = true) : ∃ fs fd i, P.underlying T = some (.struct fs) ∧ fs[f]? = some fd ∧ fd.offset = off ∧ P.info? fd.type = some i ∧ i.size ≠ 0 := by
  unfold fldB at h
  split at h
  · rename_i fs hu
    split at h
    · rename_i fd hf
      simp only [Bool.and_eq_true, beq_iff_eq, bne_iff_ne, ne_eq] at h
      cases hi : P.info? fd.type with
      | none => simp [Program.cellsOf, hi] at h
      | some i => exact ⟨fs, fd, i, hu, hf, h.1, hi, by simpa [Program.cellsOf, hi] using h.2⟩
    · cases h
  · cases h

theorem slB_spec {T e s : Nat} (h : slB P T e s = true) : ∃ i, P.underlying T = some (.slice e) ∧ P.info? e = some i ∧ i.size = s := by
  unfold slB at h
  split at h
  · rename_i e' i hu hi
    simp only [Bool.and_eq_true, beq_iff_eq] at h
    exact ⟨i, by rw [hu, h.1], hi, h.2⟩
  · cases h

theorem aggB_spec {T n : Nat} (h : aggB P T n = true) : ∃ fs i, P.underlying T = some (.struct fs) ∧ P.info? T = some i ∧ i.size = n := by
  unfold aggB at h
  split at h
  · rename_i fs i hu hi; exact ⟨fs, i, hu, hi, by simpa using h⟩
  · cases h

theorem oneB_spec {T : Nat} (h : oneB P T = true) : ∃ d i, P.underlying T = some d ∧ P.info? T = some i ∧ i.size = 1 ∧ (∀ w, (isAgg T).run P w = .ok false w) := by
  unfold oneB at h
  split at h
  · cases h
  · cases h
  · rename_i d i h1 h2 hu hi
    refine ⟨d, i, hu, hi, by simpa using h, fun w => ?_⟩
    unfold isAgg
    simp only [Sem.run_bind, run_underlying hu, Result.andThen_ok]
    cases d <;> first | rfl | (exfalso; exact h1 _ rfl) | (exfalso; exact h2 _ _ rfl)
  · cases h

theorem run_isAgg_struct {T n : Nat} (h : aggB P T n = true) (w : World) : (isAgg T).run P w = .ok true w ∧ (sizeOf T).run P w = .ok n w := by
  obtain ⟨fs, i, hu, hi, hs⟩ := aggB_spec h
  exact ⟨by simp [isAgg, run_underlying hu], by simp [sizeOf, typeInfo, hi, hs]⟩

/-! ### Operations that only look -/
abbrev Yv (P : Program) (ρ : Env) (o : Oper) (v : Value) (w : World) : Prop := (execOp (ev ρ) o).run P w = .ok (.value v) w

section
variable {ρ : Env} {w : World} {d : Option Tmp} {ty : TypeId} {pos : String} {aft : Array Edge} {g : Option (Nat × Bool)} {x y z : Operand} {v u : Value}

theorem y_move (h : ev ρ x = v) : Yv P ρ ⟨d, .move x, ty, pos, aft, g⟩ v w := by simp [Yv, execOp, h]
theorem y_assign (h : ev ρ x = v) : Yv P ρ ⟨d, .assign x, ty, pos, aft, g⟩ v w := by simp [Yv, execOp, h]
theorem y_pick_t (hc : ev ρ x = .bool true) (h : ev ρ y = v) : Yv P ρ ⟨d, .pick x y z, ty, pos, aft, g⟩ v w := by simp [Yv, execOp, hc, h, asBool]
theorem y_pick_f (hc : ev ρ x = .bool false) (h : ev ρ z = v) : Yv P ρ ⟨d, .pick x y z, ty, pos, aft, g⟩ v w := by simp [Yv, execOp, hc, h, asBool]
theorem y_nil {a : Addr} (h : ev ρ x = .pointer (some a)) : Yv P ρ ⟨d, .nilCheck x, ty, pos, aft, g⟩ (.pointer (some a)) w := by simp [Yv, execOp, h]
theorem y_nilF {fn : Fn} {a b : Array Value} (h : ev ρ x = .func fn a b) (hf : ∃ k, fn = .func k) : Yv P ρ ⟨d, .nilCheck x, ty, pos, aft, g⟩ (.func fn a b) w := by
  obtain ⟨k, rfl⟩ := hf
  simp [Yv, execOp, h]

theorem add_lit (b o n : Nat) : (⟨b, o, none⟩ : Addr).add n = ⟨b, o + n, none⟩ := by unfold Addr.add; split <;> simp_all

theorem y_fld {T f off b o : Nat} (hB : fldB P T f off = true) (h : ev ρ x = .pointer (some ⟨b, o, none⟩)) : Yv P ρ ⟨d, .fieldAddr T x f, ty, pos, aft, g⟩ (.pointer (some ⟨b, o + off, none⟩)) w := by
  obtain ⟨fs, fd, i, hu, hf, ho, hi, hn⟩ := fldB_spec hB
  simp [Yv, execOp, Instr.fieldAt, run_underlying hu, hf, Instr.sureAddr, h, fieldPlace, sizeOf, typeInfo, hi, hn, ho, add_lit]

theorem y_load {T : Nat} {a : Addr} (hB : oneB P T = true) (h : ev ρ x = .pointer (some a)) (hc : w.cell? a = some v) : Yv P ρ ⟨d, .load T x, ty, pos, aft, g⟩ v w := by
  obtain ⟨_, i, hu, hi, hs, ha⟩ := oneB_spec hB
  simp [Yv, execOp, Instr.loadAt, Instr.sureAddr, h, loadVar, ha, hc]

theorem y_loadn {T n b o : Nat} {vs : List Value} (hB : aggB P T n = true) (h : ev ρ x = .pointer (some ⟨b, o, none⟩)) (hn : vs.length = n)
    (hc : ∀ j u, vs[j]? = some u → w.cell? ⟨b, o + j, none⟩ = some u) : Yv P ρ ⟨d, .load T x, ty, pos, aft, g⟩ (.agg vs.toArray) w := by
  obtain ⟨h1, h2⟩ := run_isAgg_struct hB w
  have hl := run_loadCells_list (P := P) w ⟨b, o, none⟩ vs (fun j u hj => by rw [add_lit]; exact hc j u hj)
  subst hn
  simp [Yv, execOp, Instr.loadAt, Instr.sureAddr, h, loadVar, h1, h2, hl]

theorem y_extract {vs : Array Value} {i : Nat} (h : ev ρ x = .tuple vs) (hv : vs[i]? = some v) : Yv P ρ ⟨d, .extract x i, ty, pos, aft, g⟩ v w := by
  simp [Yv, execOp, Instr.extract, h, hv]

theorem y_func {f : FuncId} {first captured : List Operand} {vs us : List Value} (h : first.map (ev ρ) = vs) (h' : captured.map (ev ρ) = us) : Yv P ρ ⟨d, .makeFunc (.func f) first.toArray captured.toArray, ty, pos, aft, g⟩ (.func (.func f) vs.toArray us.toArray) w := by
  subst h; subst h'
  simp [Yv, execOp, Instr.makeFunc]

theorem y_build {T : Nat} {parts : List (Nat × Operand)} {cells : Array Value} (h : P.built T (parts.map fun p => (p.1, ev ρ p.2)) = some cells) : Yv P ρ ⟨d, .build T parts.toArray, ty, pos, aft, g⟩ (.agg cells) w := by
  have h' : P.built T (parts.toArray.map fun (i, x) => (i, ev ρ x)).toList = some cells := by
    rw [← h]; simp only [List.map_toArray]
  simp only [Yv, execOp, Sem.run_bind, run_build w T _ cells h']
  rfl

/-! integers -/
theorem y_add {a b c : Int} {T U : Nat} (hx : ev ρ x = .int .i64 a) (hy : ev ρ y = .int .i64 b) (hc : a + b = c) (h : -9223372036854775808 ≤ c ∧ c ≤ 9223372036854775807) : Yv P ρ ⟨d, .binOp .add T x y U, ty, pos, aft, g⟩ (.int .i64 c) w := by
  subst hc
  have : IntKind.i64.wrap (a + b) = a + b := by rw [IntKind.wrap_i64]; omega
  simp [Yv, execOp, eqGuard, hx, hy, binOp, Op.intArith, this]
theorem y_sub {a b c : Int} {T U : Nat} (hx : ev ρ x = .int .i64 a) (hy : ev ρ y = .int .i64 b) (hc : a - b = c) (h : -9223372036854775808 ≤ c ∧ c ≤ 9223372036854775807) : Yv P ρ ⟨d, .binOp .sub T x y U, ty, pos, aft, g⟩ (.int .i64 c) w := by
  subst hc
  have : IntKind.i64.wrap (a - b) = a - b := by rw [IntKind.wrap_i64]; omega
  simp [Yv, execOp, eqGuard, hx, hy, binOp, Op.intArith, this]
theorem y_mul {a b c : Int} {T U : Nat} (hx : ev ρ x = .int .i64 a) (hy : ev ρ y = .int .i64 b) (hc : a * b = c) (h : -9223372036854775808 ≤ c ∧ c ≤ 9223372036854775807) : Yv P ρ ⟨d, .binOp .mul T x y U, ty, pos, aft, g⟩ (.int .i64 c) w := by
  subst hc
  have : IntKind.i64.wrap (a * b) = a * b := by rw [IntKind.wrap_i64]; omega
  simp [Yv, execOp, eqGuard, hx, hy, binOp, Op.intArith, this]

theorem y_mulw {a b : Int} {T U : Nat} (hx : ev ρ x = .int .i64 a) (hy : ev ρ y = .int .i64 b) : Yv P ρ ⟨d, .binOp .mul T x y U, ty, pos, aft, g⟩ (.int .i64 (IntKind.i64.wrap (a * b))) w := by
  simp [Yv, execOp, eqGuard, hx, hy, binOp, Op.intArith]
theorem wrap64_b (a : Int) : -9223372036854775808 ≤ IntKind.i64.wrap a ∧ IntKind.i64.wrap a ≤ 9223372036854775807 := by rw [IntKind.wrap_i64]; omega
theorem y_lss {a b : Int} {T U : Nat} {k : IntKind} {t : Bool} (hx : ev ρ x = .int k a) (hy : ev ρ y = .int k b) (ht : decide (a < b) = t) : Yv P ρ ⟨d, .binOp .lss T x y U, ty, pos, aft, g⟩ (.bool t) w := by
  subst ht; simp [Yv, execOp, eqGuard, hx, hy, binOp, Op.intCmp]
theorem y_leq {a b : Int} {T U : Nat} {k : IntKind} {t : Bool} (hx : ev ρ x = .int k a) (hy : ev ρ y = .int k b) (ht : decide (a ≤ b) = t) : Yv P ρ ⟨d, .binOp .leq T x y U, ty, pos, aft, g⟩ (.bool t) w := by
  subst ht; simp [Yv, execOp, eqGuard, hx, hy, binOp, Op.intCmp]
theorem y_gtr {a b : Int} {T U : Nat} {k : IntKind} {t : Bool} (hx : ev ρ x = .int k a) (hy : ev ρ y = .int k b) (ht : decide (b < a) = t) : Yv P ρ ⟨d, .binOp .gtr T x y U, ty, pos, aft, g⟩ (.bool t) w := by
  subst ht; simp [Yv, execOp, eqGuard, hx, hy, binOp, Op.intCmp]
theorem y_geq {a b : Int} {T U : Nat} {k : IntKind} {t : Bool} (hx : ev ρ x = .int k a) (hy : ev ρ y = .int k b) (ht : decide (b ≤ a) = t) : Yv P ρ ⟨d, .binOp .geq T x y U, ty, pos, aft, g⟩ (.bool t) w := by
  subst ht; simp [Yv, execOp, eqGuard, hx, hy, binOp, Op.intCmp]
theorem y_eql {a b : Int} {T U : Nat} {k : IntKind} {t : Bool} (hx : ev ρ x = .int k a) (hy : ev ρ y = .int k b) (ht : decide (a = b) = t) : Yv P ρ ⟨d, .binOp .eql T x y U, ty, pos, aft, g⟩ (.bool t) w := by
  subst ht; simp [Yv, execOp, eqGuard, hx, hy, binOp, Op.intCmp]; rfl
theorem y_neq {a b : Int} {T U : Nat} {k : IntKind} {t : Bool} (hx : ev ρ x = .int k a) (hy : ev ρ y = .int k b) (ht : decide (a ≠ b) = t) : Yv P ρ ⟨d, .binOp .neq T x y U, ty, pos, aft, g⟩ (.bool t) w := by
  subst ht; simp [Yv, execOp, eqGuard, hx, hy, binOp, Op.intCmp]; rfl
theorem y_tmod {a b : Int} {T U : Nat} (hx : ev ρ x = .int .i64 a) (hy : ev ρ y = .int .i64 b) (h1 : 0 < b) : Yv P ρ ⟨d, .binOp .rem T x y U, ty, pos, aft, g⟩ (.int .i64 (a.tmod b)) w := by
  have hb : b ≠ 0 := by omega
  simp [Yv, execOp, eqGuard, hx, hy, binOp, Op.intDiv, hb]
theorem y_rem {a b c : Int} {T U : Nat} (hx : ev ρ x = .int .i64 a) (hy : ev ρ y = .int .i64 b) (h0 : 0 ≤ a) (h1 : 0 < b) (hc : a % b = c) : Yv P ρ ⟨d, .binOp .rem T x y U, ty, pos, aft, g⟩ (.int .i64 c) w := by
  subst hc
  have hb : b ≠ 0 := by omega
  simp [Yv, execOp, eqGuard, hx, hy, binOp, Op.intDiv, hb, Int.tmod_eq_emod_of_nonneg h0]
theorem y_quo {a b c : Int} {T U : Nat} (hx : ev ρ x = .int .i64 a) (hy : ev ρ y = .int .i64 b) (h0 : 0 ≤ a) (h1 : 0 < b) (h2 : a ≤ 9223372036854775807) (hc : a / b = c) : Yv P ρ ⟨d, .binOp .quo T x y U, ty, pos, aft, g⟩ (.int .i64 c) w := by
  subst hc
  have hb : b ≠ 0 := by omega
  have h3 := Int.ediv_nonneg h0 (Int.le_of_lt h1)
  have h4 := Int.ediv_le_self b h0
  have : IntKind.i64.wrap (a / b) = a / b := by rw [IntKind.wrap_i64]; omega
  simp [Yv, execOp, eqGuard, hx, hy, binOp, Op.intDiv, hb, Int.tdiv_eq_ediv_of_nonneg h0, this]
theorem y_not {b t : Bool} {T : Nat} (hx : ev ρ x = .bool b) (ht : (!b) = t) : Yv P ρ ⟨d, .unOp .not T x, ty, pos, aft, g⟩ (.bool t) w := by
  subst ht; simp [Yv, execOp, hx, Op.unary]
end
end
end Go.Wv
