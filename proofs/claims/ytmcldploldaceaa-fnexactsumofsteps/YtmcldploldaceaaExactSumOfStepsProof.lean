/- FnExactSumOfSteps of the given program returns true for all arguments, and leaves its arguments as they were; no condition beyond the row's own. -/
import Derived.Test.YtmcldploldaceaaExactSumOfStepsW2
import Derived.Test.YtmcldploldaceaaR3
import Derived.Test.YtmcldploldaceaaRows
namespace Go.Proofs.Ytmcldploldaceaa
open Go.ChangeShapes Go.WideShapes Go.ChangeAt Go.RowKit Go.Wv
namespace RFnExactSumOfSteps
theorem own : ownKnob Try.prog.godebug = none := by kernel_rfl
theorem laidOut : laidOutB Try.prog = true := by kernel_rfl
set_option maxRecDepth 100000 in
theorem lifted (os : Os) (started : os.Started) (H : Type) (enc : TypeId × Value → H) :
    ReturnsInHanded {} Try.checked os 10 .any (Rows.fnExactSumOfStepsSpec.pre6 enc Try.prog Try.f10 Rows.fnExactSumOfStepsRow.domain false) (Rows.fnExactSumOfStepsSpec.post enc Try.prog Try.f10 false true false false) := by
  refine returnsInHanded_of_change (C := Try.checked) own started (by kernel_rfl) Try.func10
    (ChangeSpec.witness6 (enc := enc) (C := Try.checked) false ⟨#[], #[.agg #[.int .i64 0, .int .i64 0, .bool false, .slice none 0 0, .slice none 0 0], .agg #[.slice none 0 0, .slice none 0 0, .slice none 0 0], .int .i64 0], []⟩ 8 (by kernel_rfl) (by kernel_rfl) (by kernel_rfl) (by kernel_rfl)) ?_
  intro W base args ds gs before hval0 hW hcnd _
  have hval : ∀ (j : Nat) t v, Try.f10.params[j]? = some t → args[j]? = some v → Value.okWide Try.prog W .any base t v := hval0
  have hW' := hW
  obtain ⟨p, q, hA0, hV, rfl, hfz, hnd⟩ := hW
  have hA : DataW.TrodAll enc Try.prog W 0 (fun _ => true) true Try.f10.params.toList args.toList ds p := hA0
  rw [Try.params10] at hA hval
  obtain ⟨v0, vs0, d0, ds0, p0, q0, hargs, rfl, rfl, h0, r0⟩ := trodAll_cons hA
  obtain ⟨v1, vs1, d1, ds1, p1, q1, rfl, rfl, rfl, h1, r1⟩ := trodAll_cons r0
  obtain ⟨v2, vs2, d2, ds2, p2, q2, rfl, rfl, rfl, h2, r2⟩ := trodAll_cons r1
  obtain ⟨rfl, rfl, rfl⟩ := trodAll_nil r2
  obtain rfl : args = #[v0, v1, v2] := by cases args; simp_all
  obtain ⟨rfl, rfl⟩ := trodVars_none hV
  obtain ⟨cs0, rfl, hl0, hf0⟩ := arg_struct Try.underlying45 (by kernel_rfl) (by kernel_rfl) (hval 0 45 v0 rfl rfl) h0
  obtain ⟨_, u0_0, _, g0_0, t0_0⟩ := hf0 0 _ rfl
  obtain ⟨_, u0_1, _, g0_1, t0_1⟩ := hf0 1 _ rfl
  obtain ⟨_, u0_2, _, g0_2, t0_2⟩ := hf0 2 _ rfl
  obtain ⟨_, u0_3, _, g0_3, t0_3⟩ := hf0 3 _ rfl
  obtain ⟨_, u0_4, _, g0_4, t0_4⟩ := hf0 4 _ rfl
  obtain rfl : cs0 = [u0_0, u0_1, u0_2, u0_3, u0_4] := list_of hl0 (fun j c hj => by rcases j with _ | _ | _ | _ | _ | j <;> simp at hj <;> subst hj <;> assumption)
  obtain ⟨wd0, rfl, wwd0⟩ := rd_int Try.underlying2 t0_0
  obtain ⟨hi0, rfl, whi0⟩ := rd_int Try.underlying2 t0_1
  obtain ⟨wr0, rfl⟩ := rd_bool Try.underlying4 t0_2
  obtain ⟨asp0, xsp0, csp0, rfl, lsp0, ssp0⟩ := rd_flts Try.underlying24 (by kernel_rfl) Try.underlying35 t0_3
  obtain ⟨als0, xls0, cls0, rfl, lls0, sls0⟩ := rd_flts Try.underlying24 (by kernel_rfl) Try.underlying35 t0_4
  obtain ⟨cs1, rfl, hl1, hf1⟩ := arg_struct Try.underlying46 (by kernel_rfl) (by kernel_rfl) (hval 1 46 v1 rfl rfl) h1
  obtain ⟨_, u1_0, _, g1_0, t1_0⟩ := hf1 0 _ rfl
  obtain ⟨_, u1_1, _, g1_1, t1_1⟩ := hf1 1 _ rfl
  obtain ⟨_, u1_2, _, g1_2, t1_2⟩ := hf1 2 _ rfl
  obtain rfl : cs1 = [u1_0, u1_1, u1_2] := list_of hl1 (fun j c hj => by rcases j with _ | _ | _ | j <;> simp at hj <;> subst hj <;> assumption)
  obtain ⟨afe1, xfe1, cfe1, rfl, lfe1, sfe1⟩ := rd_flts Try.underlying24 (by kernel_rfl) Try.underlying35 t1_0
  obtain ⟨afx1, xfx1, cfx1, rfl, lfx1, sfx1⟩ := rd_flts Try.underlying24 (by kernel_rfl) Try.underlying35 t1_1
  obtain ⟨afy1, xfy1, cfy1, rfl, lfy1, sfy1⟩ := rd_flts Try.underlying24 (by kernel_rfl) Try.underlying35 t1_2
  obtain ⟨i2, rfl, rfl, rfl, w2⟩ := open_int Try.underlying2 (hval 2 2 v2 rfl rfl) h2
  clear hA0 hval0
  refine (c_FnExactSumOfSteps (wd0 := wd0) (hi0 := hi0) (wr0 := wr0) (i2 := i2) (Rd.ofF ssp0) (Rd.ofF sls0) (Rd.ofF sfe1) (Rd.ofF sfx1) (Rd.ofF sfy1) (Nat.le_trans lsp0 (by decide)) (Nat.le_trans lls0 (by decide)) (Nat.le_trans lfe1 (by decide)) (Nat.le_trans lfx1 (by decide)) (Nat.le_trans lfy1 (by decide))).mono fun e W' ⟨v, he, hv, hE⟩ => ?_
  subst he; subst hv
  exact ⟨_, rfl, law_post laidOut (by kernel_rfl) hW' rfl rfl Try.underlying4 rfl (hE.below (Nat.le_refl _) (fun _ h => h.elim))⟩
theorem over : Rows.fnExactSumOfStepsRow.holds Try.pinned (OpenSpec.ofChange Rows.fnExactSumOfStepsSpec) :=
  OpenClaim.holds_of_wide 10 Try.f10 rfl rfl rfl rfl rfl rfl rfl ⟨rfl, rfl, rfl, rfl, rfl⟩ rfl rfl rfl rfl rfl (by kernel_rfl) Try.func10 (by kernel_rfl)
    (of_decide_eq_true (by kernel_rfl)) (by unfold Func.isWrapper; first | (rw [if_pos (by decide +kernel)]; kernel_rfl) | (rw [if_neg (by decide +kernel)]; exact ⟨rfl, rfl⟩))
    (fun os started H enc _ => lifted os started H enc)
theorem proved : Rows.FnExactSumOfStepsSaid := over
#print axioms proved
end RFnExactSumOfSteps
end Go.Proofs.Ytmcldploldaceaa
