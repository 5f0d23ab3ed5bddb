/- Laws on mirrors. -/
import Derived.Test.YtgohmocjjmkepaaM17
set_option linter.unusedSimpArgs false
set_option linter.unusedVariables false
namespace Go.Wv
section
variable {P : Program} {ρ : Env} {w : World} {d : Option Tmp} {ty : TypeId} {pos : String} {aft : Array Edge} {g : Option (Nat × Bool)} {x : Operand}
theorem y_ineg {b c : Int} {T : Nat} (hx : ev ρ x = .int .i64 b) (hc : -b = c) (h : -9223372036854775808 ≤ c ∧ c ≤ 9223372036854775807) : Yv P ρ ⟨d, .unOp .neg T x, ty, pos, aft, g⟩ (.int .i64 c) w := by
  subst hc
  have : IntKind.i64.wrap (-b) = -b := by rw [IntKind.wrap_i64]; omega
  simp [Yv, execOp, hx, Op.unary, Op.intArith, this]
end
section
variable {wd hi dx dy : Int} {wr : Bool} {P L E X Y : List Nat}
theorem lenle {a : Int} (h : a ≤ 256) : a.toNat ≤ 9223372036854775807 := by omega
theorem lenle6 {a : Int} (h : a ≤ 256) : a.toNat ≤ 9223372036854775806 := by omega
theorem negL_swp' {n m : Int} (hc : canL X) (hl : (X.length : Int) = wd * hi) (hW : 0 < wd) (hn : n = wd * hi) (hm : m = wd * hi) : negL n (swpS hi wd (negL m (swpS wd hi X))) = X := by
  have e := negL_swp hc hl hW
  rw [Int.mul_comm hi wd] at e
  rw [hn, hm]; exact e
theorem len_of (h : fieldB wd hi wr P L E X Y = true) : 0 < wd ∧ 0 < hi ∧ (E.length : Int) = wd * hi ∧ (X.length : Int) = wd * hi ∧ (Y.length : Int) = wd * hi := by
  have := fieldB_b h; omega
theorem same_sheet {a b c d : Int} {wr : Bool} {P' L' : List Nat} (h1 : a = b) (h2 : c = d) (h3 : P' = P) (h4 : L' = L) : (decide (a = b) && decide (c = d) && (wr == wr) && sameL P' P && sameL L' L) = true := by
  subst h1; subst h2; subst h3; subst h4; simp [sameL_refl]
theorem same_field {E' X' Y' : List Nat} (h1 : E' = E) (h2 : X' = X) (h3 : Y' = Y) : (sameL E' E && sameL X' X && sameL Y' Y) = true := by
  subst h1; subst h2; subst h3; simp [sameL_refl]
theorem sh_mir (h : validS wd hi P L = true) : (decide (wd = wd) && decide (hi = hi) && (wr == wr) && sameL (mirS wd hi (mirS wd hi P)) P && sameL (mirS wd hi (mirS wd hi L)) L) = true := by
  have := validS_b h
  exact same_sheet rfl rfl (mir_mir this.2.1 (by omega)) (mir_mir this.2.2 (by omega))
theorem sh_swp (h : validS wd hi P L = true) : (decide (wd = wd) && decide (hi = hi) && (wr == wr) && sameL (swpS hi wd (swpS wd hi P)) P && sameL (swpS hi wd (swpS wd hi L)) L) = true := by
  have := validS_b h
  exact same_sheet rfl rfl (swp_swp this.2.1 (by omega)) (swp_swp this.2.2 (by omega))
theorem sh_shf (h : validS wd hi P L = true) : (decide (wd = wd) && decide (hi = hi) && (wr == wr) && sameL (shfS wd hi (-dx) (-dy) (shfS wd hi dx dy P)) P && sameL (shfS wd hi (-dx) (-dy) (shfS wd hi dx dy L)) L) = true := by
  have := validS_b h
  exact same_sheet rfl rfl (shf_shf this.2.1 (by omega) (by omega)) (shf_shf this.2.2 (by omega) (by omega))
theorem fd_mir (h : fieldB wd hi wr P L E X Y = true) (hc : canL Y) : (sameL (mirS wd hi (mirS wd hi E)) E && sameL (mirS wd hi (mirS wd hi X)) X && sameL (mirY wd hi (mirY wd hi Y)) Y) = true := by
  have := len_of h
  exact same_field (mir_mir (by omega) (by omega)) (mir_mir (by omega) (by omega)) (mirY_mirY hc (by omega) (by omega))
theorem fd_swp (h : fieldB wd hi wr P L E X Y = true) (hx : canL X) (hc : canL Y) : (sameL (swpS hi wd (swpS wd hi E)) E && sameL (negL (hi * wd) (swpS hi wd (negL (wd * hi) (swpS wd hi X)))) X && sameL (negL (hi * wd) (swpS hi wd (negL (wd * hi) (swpS wd hi Y)))) Y) = true := by
  have := len_of h
  exact same_field (swp_swp (by omega) (by omega)) (negL_swp' hx (by omega) (by omega) (Int.mul_comm _ _) rfl) (negL_swp' hc (by omega) (by omega) (Int.mul_comm _ _) rfl)
theorem fd_shf (h : fieldB wd hi wr P L E X Y = true) : (sameL (shfS wd hi (-dx) (-dy) (shfS wd hi dx dy E)) E && sameL (shfS wd hi (-dx) (-dy) (shfS wd hi dx dy X)) X && sameL (shfS wd hi (-dx) (-dy) (shfS wd hi dx dy Y)) Y) = true := by
  have := len_of h
  exact same_field (shf_shf (by omega) (by omega) (by omega)) (shf_shf (by omega) (by omega) (by omega)) (shf_shf (by omega) (by omega) (by omega))
theorem shB_no (h : wr = false) : shB wd hi wr P L dx dy = false := by subst h; simp [shB]
theorem shB_yes (h : validS wd hi P L = true) (h1 : -16 ≤ dx ∧ dx ≤ 16) (h2 : -16 ≤ dy ∧ dy ≤ 16) : shB wd hi true P L dx dy = true := by
  simp only [shB, h, within, Bool.true_and, Bool.and_eq_true, decide_eq_true_eq]; omega
theorem shfB_no (h : wr = false) : shfB wd hi wr P L E X Y dx dy = false := by unfold shfB; rw [shB_no h, Bool.false_and]
theorem shfB_yes (h : fieldB wd hi true P L E X Y = true) (h1 : -16 ≤ dx ∧ dx ≤ 16) (h2 : -16 ≤ dy ∧ dy ≤ 16) : shfB wd hi true P L E X Y dx dy = true := by
  unfold shfB; rw [shB_yes (fieldB_iff.1 h).1 h1 h2, h, Bool.true_and]
end
end Go.Wv
