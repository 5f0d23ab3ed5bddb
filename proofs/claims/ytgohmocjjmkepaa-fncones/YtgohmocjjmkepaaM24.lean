/- An operation with an unknown answer beside one that acts, in either order. -/
import Derived.Test.YtgohmocjjmkepaaM23
set_option linter.unusedSimpArgs false
set_option linter.unusedVariables false
namespace Go.Wv
def twoB (ops : Array Oper) (listed : Array Bool) (i j : Nat) : Bool := !(Region.ready .any ops listed).isEmpty && (Region.ready .any ops listed).all fun k => k == i || k == j
section
variable {P : Program} {ops : Array Oper} {Q : Env → World → Prop} {ρ : Env} {w w0 : World} {S : Nat → Prop} {f : Nat} {listed : Array Bool}
theorem m_ntwo {t : Tmp} {op op' : Op} {ty ty' : TypeId} {pos pos' : String} {aft aft' : Array Edge} {g g' : Option (Nat × Bool)} {d' : Option Tmp} (i j : Nat) (hr : twoB ops listed i j = true)
    (hi : ops[i]? = some ⟨some t, op, ty, pos, aft, g⟩) (hj : ops[j]? = some ⟨d', op', ty', pos', aft', g'⟩) (hw : want ops ρ ⟨some t, op, ty, pos, aft, g⟩ = true) (hw' : want ops ρ ⟨d', op', ty', pos', aft', g'⟩ = true) (hac : acts op = false) (hac' : acts op' = true)
    (h : ∃ V : Value → Prop, (∀ w', Ext S w0 w' → Yn P ρ ⟨some t, op, ty, pos, aft, g⟩ V w') ∧ ∀ v, V v → wpM P ops (Ext S w0) Q f (listed.setIfInBounds i true) (upd ρ t v) w)
    (h' : ∀ w', Ext0 w w' → opk P ⟨d', op', ty', pos', aft', g'⟩ ρ w' (fun v w'' => (mustC ops j = true → Ext S w0 w'') ∧ wpM P ops (Ext S w0) Q f (listed.setIfInBounds j true) (setd ρ d' v) w'')) : wpM P ops (Ext S w0) Q (f + 1) listed ρ w := by
  simp only [twoB, Bool.and_eq_true, List.all_eq_true, Bool.or_eq_true, beq_iff_eq] at hr
  refine ⟨fun e => (by rw [e] at hr; simp at hr), fun k hk o ho => ?_⟩
  rcases hr.2 k hk with rfl | rfl
  · obtain rfl : (⟨some t, op, ty, pos, aft, g⟩ : Oper) = o := Option.some.inj (hi.symm.trans ho)
    obtain ⟨V, h1, h2⟩ := h
    refine ⟨fun _ _ => ⟨fun w' hc => ?_, fun w' v n hc hrun => ?_⟩, fun _ b => (by rw [hac] at b; cases b), fun e => (by rw [hw] at e; cases e)⟩
    · obtain ⟨v, n, hr, _⟩ := h1 w' hc
      exact ⟨v, n, hr⟩
    · obtain ⟨v', n', hr', hs⟩ := h1 w' hc
      rw [hr'] at hrun
      injection hrun with e1 e2
      injection e1 with e1
      subst e1
      exact h2 _ hs
  · obtain rfl : (⟨d', op', ty', pos', aft', g'⟩ : Oper) = o := Option.some.inj (hj.symm.trans ho)
    exact ⟨fun _ b => (by rw [hac'] at b; cases b), fun _ _ n => h' _ (Ext0.of_draw _ _), fun e => (by rw [hw'] at e; cases e)⟩
end
end Go.Wv
