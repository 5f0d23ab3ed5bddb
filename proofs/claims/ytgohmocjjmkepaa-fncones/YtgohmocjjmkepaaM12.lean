/- Drawn sheets are valid. -/
import Derived.Test.YtgohmocjjmkepaaM11
import Derived.Laws.StructEq
set_option linter.unusedSimpArgs false
set_option linter.unusedVariables false
namespace Go.Wv
theorem el_tab' {n i : Int} {g : Int → Nat} (h0 : 0 ≤ i) (h1 : i < n) : el (tab n g) i = g i := el_tab h0 h1
theorem dwSp_ok {v : Int} (h0 : 0 ≤ v) (h1 : v < 9) : fge .f32 (fop .quo .f32 (FloatKind.nearest .f32 v) 1098907648) 0 = true ∧ fle .f32 (fop .quo .f32 (FloatKind.nearest .f32 v) 1098907648) 1056964608 = true := by
  rcases (by omega : v = 0 ∨ v = 1 ∨ v = 2 ∨ v = 3 ∨ v = 4 ∨ v = 5 ∨ v = 6 ∨ v = 7 ∨ v = 8) with h | h | h | h | h | h | h | h | h <;> subst h <;> exact ⟨by kernel_rfl, by kernel_rfl⟩
theorem dwLs_ok {v : Int} (h0 : 0 ≤ v) (h1 : v < 9) : fge .f32 (fop .quo .f32 (FloatKind.nearest .f32 v) 1090519040) 0 = true ∧ fle .f32 (fop .quo .f32 (FloatKind.nearest .f32 v) 1090519040) 1065353216 = true := by
  rcases (by omega : v = 0 ∨ v = 1 ∨ v = 2 ∨ v = 3 ∨ v = 4 ∨ v = 5 ∨ v = 6 ∨ v = 7 ∨ v = 8) with h | h | h | h | h | h | h | h | h <;> subst h <;> exact ⟨by kernel_rfl, by kernel_rfl⟩
theorem dw_valid {X : List Nat} {pl : Bool} {p wd hi : Int} (h1 : 3 ≤ wd) (h2 : wd ≤ 6) (h3 : 3 ≤ hi) (h4 : hi ≤ 6) : validS wd hi (dwSpL X pl p (wd * hi)) (dwLsL X pl p (wd * hi)) = true := by
  have hm := mul16 (a := wd) (b := hi) (by omega)
  refine validS_yes (sides_of (by simp [within]; omega) (by simp [within]; omega)) (by rw [dwSpL_len]; omega) (by rw [dwLsL_len]; omega) fun i h0 h1 => ?_
  rw [Bool.and_eq_true]
  have e1 : el (dwSpL X pl p (wd * hi)) i = dwSp X pl (dwP X pl p i) := el_tab' h0 h1
  have e2 : el (dwLsL X pl p (wd * hi)) i = dwLs X pl (dwP X pl p i) := el_tab' h0 h1
  generalize dwP X pl p i = q at e1 e2
  constructor
  · refine betw_yes ?_ ?_ <;> rw [e1] <;> unfold dwSp <;> split
    · kernel_rfl
    · exact (dwSp_ok (pk_b X q (by decide)).1 (pk_b X q (by decide)).2).1
    · kernel_rfl
    · exact (dwSp_ok (pk_b X q (by decide)).1 (pk_b X q (by decide)).2).2
  · refine betw_yes ?_ ?_ <;> rw [e2] <;> unfold dwLs <;> split
    · kernel_rfl
    · split
      · exact (dwLs_ok (pk_b X _ (by decide)).1 (pk_b X _ (by decide)).2).1
      · kernel_rfl
    · kernel_rfl
    · split
      · exact (dwLs_ok (pk_b X _ (by decide)).1 (pk_b X _ (by decide)).2).2
      · kernel_rfl
/-- A number below 'n' that a byte of the input chooses. -/
def r8A (X : List Nat) (k n : Int) : Int := if n ≤ 1 ∨ (X.length : Int) ≤ k then 0 else byt X k % n
theorem r8A_b (X : List Nat) (k : Int) {n : Int} (h : 1 ≤ n) : 0 ≤ r8A X k n ∧ r8A X k n < n := by
  unfold r8A
  split
  · omega
  · exact ⟨Int.emod_nonneg _ (by omega), Int.emod_lt_of_pos _ (by omega)⟩
theorem r8A_zero {X : List Nat} {k n : Int} {m : Nat} (hl : X.length = m) (h : n ≤ 1 ∨ (m : Int) ≤ k) : r8A X k n = 0 := if_pos (by omega)
theorem r8A_at {X : List Nat} {k n : Int} {m : Nat} (hl : X.length = m) (h0 : ¬ n ≤ 1) (h1 : ¬ (m : Int) ≤ k) : r8A X k n = byt X k % n := if_neg (by omega)
/-- A struct of two numbers, of which the compiler's '==' asks both. -/
def intB (P : Program) (t : Nat) : Bool :=
  match P.underlying t with
  | some (.int .i64) => oneB P t
  | _ => false
def eq2B (P : Program) (T : Nat) : Bool :=
  match P.underlying T with
  | some (.struct fs) => match fs.toList with
    | [f, g] => f.name != "_" && g.name != "_" && f.offset == 0 && g.offset == 1 && intB P f.type && intB P g.type && !P.stoodInHeld T && !P.eqGuardType P.depth T
    | _ => false
  | _ => false
section
variable {P : Program} {ρ : Env} {w : World} {d : Option Tmp} {ty : TypeId} {pos : String} {aft : Array Edge} {g : Option (Nat × Bool)} {x y : Operand}
theorem intB_spec {t : Nat} (h : intB P t = true) : P.underlying t = some (.int .i64) ∧ oneB P t = true := by
  unfold intB at h
  split at h
  · rename_i hu; exact ⟨hu, h⟩
  · cases h
theorem run_part1 {t off : Nat} {cs : Array Value} {v : Value} (h : oneB P t = true) (hv : cs[off]? = some v) : (part t cs off).run P w = .ok v w := by
  obtain ⟨_, i, hu, hi, hs, ha⟩ := oneB_spec h
  simp [part, ha, hv]
theorem eq2_run {T : Nat} {a b a' b' : Int} (h : eq2B P T = true) : (Op.equalIn 10000 T (.agg #[.int .i64 a, .int .i64 b]) (.agg #[.int .i64 a', .int .i64 b'])).run P w = .ok (a == a' && b == b') w ∧ P.eqGuardType P.depth T = false := by
  unfold eq2B at h
  split at h
  · rename_i fs hu
    split at h
    · rename_i f g hf
      simp only [Bool.and_eq_true, Bool.not_eq_true', bne_iff_ne, beq_iff_eq, ne_eq] at h
      obtain ⟨⟨⟨⟨⟨⟨⟨n0, n1⟩, o0⟩, o1⟩, t0⟩, t1⟩, hp⟩, hg⟩ := h
      refine ⟨?_, hg⟩
      have hF : P.fieldsOf T = fs := by simp [Program.fieldsOf, hu]
      obtain ⟨u0, i0⟩ := intB_spec t0
      obtain ⟨u1, i1⟩ := intB_spec t1
      have q0 (c d : Int) : (part f.type #[.int .i64 c, .int .i64 d] f.offset).run P w = .ok (.int .i64 c) w := run_part1 i0 (by rw [o0]; rfl)
      have q1 (c d : Int) : (part g.type #[.int .i64 c, .int .i64 d] g.offset).run P w = .ok (.int .i64 d) w := run_part1 i1 (by rw [o1]; rfl)
      rw [run_equalIn_struct w 9999 T _ _ (by rw [hF]; exact hu) hp, hF, hf]
      have e0 := run_equalIn_int w 9998 f.type .i64 .i64 a a' u0
      have e1 := run_equalIn_int w 9998 g.type .i64 .i64 b b' u1
      generalize (a == a') = s at e0 ⊢
      generalize (b == b') = t at e1 ⊢
      simp only [Op.eqFields, ne_eq, n0, n1, not_false_eq_true, if_true, Sem.run_bind, q0, Result.andThen_ok, e0]
      cases s
      · simp
      · simp only [Bool.not_true, Bool.false_eq_true, if_false, Sem.run_bind, q1, Result.andThen_ok, e1]
        cases t <;> simp
    · cases h
  · cases h
theorem y_neq2 {T U : Nat} {a b a' b' : Int} {t : Bool} (h : eq2B P T = true) (hx : ev ρ x = .agg #[.int .i64 a, .int .i64 b]) (hy : ev ρ y = .agg #[.int .i64 a', .int .i64 b']) (ht : (!(a == a' && b == b')) = t) : Yv P ρ ⟨d, .binOp .neq T x y U, ty, pos, aft, g⟩ (.bool t) w := by
  obtain ⟨h1, h2⟩ := eq2_run (w := w) (a := a) (b := b) (a' := a') (b' := b') h
  subst ht
  simp [Yv, execOp, hx, hy, run_eqGuard_agg w _ _ _ _ _ _ h2, run_neq_struct, h1]
end
theorem ringP_of {x y far u v : Int} {t : Bool} (h : decide (max (max (u - x) (x - u)) (max (v - y) (y - v)) = far) = t) : ringP x y far u v = t := by
  rw [← h]; unfold ringP
  congr 1
  apply propext
  constructor <;> intro h <;> omega
theorem ring_far {wd hi x y far : Int} {P L : List Nat} (hv : validS wd hi P L = true) (h0 : 0 ≤ x) (h1 : x < wd) (h2 : 0 ≤ y) (h3 : y < hi) (h4 : 1 ≤ far) (h5 : far ≤ 16) (h : ¬ ringB wd hi P L x y far = true) : ¬ (ringL wd hi x y far).length ≤ 8 := by
  intro hl
  apply h
  simp [ringB, vcellB, cellB, within, hv, hl]
  omega
theorem ring_probes {wd hi x y far : Int} : ∀ q ∈ ringL wd hi x y far, 0 ≤ q.1 ∧ q.1 < wd ∧ 0 ≤ q.2 ∧ q.2 < hi := by
  intro q hq
  have row : ∀ (u0 : Int) (p : Int → Bool) (n : Nat), ∀ u ∈ rowN u0 p n, u0 ≤ u ∧ u < u0 + n := by
    intro u0 p n
    induction n with
    | zero => intro u hu; cases hu
    | succ n ih =>
      intro u hu
      simp only [rowN, List.mem_append] at hu
      rcases hu with hu | hu
      · have := ih u hu; omega
      · split at hu
        · rw [List.mem_singleton] at hu; omega
        · cases hu
  have box : ∀ (u0 v0 : Int) (nu : Nat) (p : Int → Int → Bool) (n : Nat), ∀ q ∈ boxN u0 v0 nu p n, (u0 ≤ q.1 ∧ q.1 < u0 + nu) ∧ v0 ≤ q.2 ∧ q.2 < v0 + n := by
    intro u0 v0 nu p n
    induction n with
    | zero => intro q hq; cases hq
    | succ n ih =>
      intro q hq
      simp only [boxN, List.mem_append, List.mem_map] at hq
      rcases hq with hq | ⟨u, hu, rfl⟩
      · have := ih q hq; omega
      · have := row _ _ _ u hu
        exact ⟨this, by show v0 ≤ v0 + (n : Int); omega, by show v0 + (n : Int) < v0 + ((n + 1 : Nat) : Int); omega⟩
  have := box _ _ _ _ _ q hq
  omega
theorem ring_areProbes {wd hi x y far : Int} {P L : List Nat} (hv : validS wd hi P L = true) (hl : (ringL wd hi x y far).length ≤ 8) : areProbesB wd hi P L (ringL wd hi x y far) = true := by
  refine probesB_yes hv hl fun i h0 h1 => ?_
  have hi' : i.toNat < (ringL wd hi x y far).length := by omega
  have := ring_probes _ (List.getElem_mem hi')
  rw [show gl (ringL wd hi x y far) i = (ringL wd hi x y far)[i.toNat] by unfold gl; rw [List.getD_eq_getElem?_getD, List.getElem?_eq_getElem hi']; rfl]
  simp [cellB, within]
  omega
end Go.Wv
