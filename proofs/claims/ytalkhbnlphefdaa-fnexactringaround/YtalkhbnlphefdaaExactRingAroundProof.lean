/- FnExactRingAround of the given program returns true for all arguments, and leaves its arguments as they were; no condition beyond the row's own. -/
import Derived.Test.YtalkhbnlphefdaaExactRingAroundW0
import Derived.Test.YtalkhbnlphefdaaR3
import Derived.Test.YtalkhbnlphefdaaRows
namespace Go.Proofs.Ytalkhbnlphefdaa
open Go.ChangeShapes Go.WideShapes Go.ChangeAt Go.RowKit Go.Wv
namespace RFnExactRingAround
theorem own : ownKnob Try.prog.godebug = none := by kernel_rfl
theorem laidOut : laidOutB Try.prog = true := by kernel_rfl
set_option maxRecDepth 100000 in
theorem lifted (os : Os) (started : os.Started) (H : Type) (enc : TypeId × Value → H) :
    ReturnsInHanded {} Try.checked os 4 .any (Rows.fnExactRingAroundSpec.pre6 enc Try.prog Try.f4 Rows.fnExactRingAroundRow.domain false) (Rows.fnExactRingAroundSpec.post enc Try.prog Try.f4 false true false false) := by
  refine returnsInHanded_of_change (C := Try.checked) own started (by kernel_rfl) Try.func4
    (ChangeSpec.witness6 (enc := enc) (C := Try.checked) false ⟨#[], #[.agg #[.int .i64 0, .int .i64 0, .bool false, .slice none 0 0, .slice none 0 0], .int .i64 0, .int .i64 0, .int .i64 0], []⟩ 8 (by kernel_rfl) (by kernel_rfl) (by kernel_rfl) (by kernel_rfl)) ?_
  intro W base args ds gs before hval0 hW hcnd _
  have hval : ∀ (j : Nat) t v, Try.f4.params[j]? = some t → args[j]? = some v → Value.okWide Try.prog W .any base t v := hval0
  have hW' := hW
  obtain ⟨p, q, hA0, hV, rfl, hfz, hnd⟩ := hW
  have hA : DataW.TrodAll enc Try.prog W 0 (fun _ => true) true Try.f4.params.toList args.toList ds p := hA0
  rw [Try.params4] at hA hval
  obtain ⟨v0, vs0, d0, ds0, p0, q0, hargs, rfl, rfl, h0, r0⟩ := trodAll_cons hA
  obtain ⟨v1, vs1, d1, ds1, p1, q1, rfl, rfl, rfl, h1, r1⟩ := trodAll_cons r0
  obtain ⟨v2, vs2, d2, ds2, p2, q2, rfl, rfl, rfl, h2, r2⟩ := trodAll_cons r1
  obtain ⟨v3, vs3, d3, ds3, p3, q3, rfl, rfl, rfl, h3, r3⟩ := trodAll_cons r2
  obtain ⟨rfl, rfl, rfl⟩ := trodAll_nil r3
  obtain rfl : args = #[v0, v1, v2, v3] := by cases args; simp_all
  obtain ⟨rfl, rfl⟩ := trodVars_none hV
  obtain ⟨cs0, rfl, hl0, hf0⟩ := arg_struct Try.underlying36 (by kernel_rfl) (by kernel_rfl) (hval 0 36 v0 rfl rfl) h0
  obtain ⟨_, u0_0, _, g0_0, t0_0⟩ := hf0 0 _ rfl
  obtain ⟨_, u0_1, _, g0_1, t0_1⟩ := hf0 1 _ rfl
  obtain ⟨_, u0_2, _, g0_2, t0_2⟩ := hf0 2 _ rfl
  obtain ⟨_, u0_3, _, g0_3, t0_3⟩ := hf0 3 _ rfl
  obtain ⟨_, u0_4, _, g0_4, t0_4⟩ := hf0 4 _ rfl
  obtain rfl : cs0 = [u0_0, u0_1, u0_2, u0_3, u0_4] := list_of hl0 (fun j c hj => by rcases j with _ | _ | _ | _ | _ | j <;> simp at hj <;> subst hj <;> assumption)
  obtain ⟨wd0, rfl, wwd0⟩ := rd_int Try.underlying2 t0_0
  obtain ⟨hi0, rfl, whi0⟩ := rd_int Try.underlying2 t0_1
  obtain ⟨wr0, rfl⟩ := rd_bool Try.underlying4 t0_2
  obtain ⟨asp0, xsp0, csp0, rfl, lsp0, ssp0⟩ := rd_flts Try.underlying24 (by kernel_rfl) Try.underlying56 t0_3
  obtain ⟨als0, xls0, cls0, rfl, lls0, sls0⟩ := rd_flts Try.underlying24 (by kernel_rfl) Try.underlying56 t0_4
  obtain ⟨i1, rfl, rfl, rfl, w1⟩ := open_int Try.underlying2 (hval 1 2 v1 rfl rfl) h1
  obtain ⟨i2, rfl, rfl, rfl, w2⟩ := open_int Try.underlying2 (hval 2 2 v2 rfl rfl) h2
  obtain ⟨i3, rfl, rfl, rfl, w3⟩ := open_int Try.underlying2 (hval 3 2 v3 rfl rfl) h3
  clear hA0 hval0
  refine (c_FnExactRingAround (wd0 := wd0) (hi0 := hi0) (wr0 := wr0) (i1 := i1) (i2 := i2) (i3 := i3) (Rd.ofF ssp0) (Rd.ofF sls0) (Nat.le_trans lsp0 (by decide)) (Nat.le_trans lls0 (by decide))).mono fun e W' ⟨v, he, hv, hE⟩ => ?_
  subst he; subst hv
  exact ⟨_, rfl, law_post laidOut (by kernel_rfl) hW' rfl rfl Try.underlying4 rfl (hE.below (Nat.le_refl _) (fun _ h => h.elim))⟩
theorem over : Rows.fnExactRingAroundRow.holds Try.pinned (OpenSpec.ofChange Rows.fnExactRingAroundSpec) :=
  OpenClaim.holds_of_wide 4 Try.f4 rfl rfl rfl rfl rfl rfl rfl ⟨rfl, rfl, rfl, rfl, rfl⟩ rfl rfl rfl rfl rfl (by kernel_rfl) Try.func4 (by kernel_rfl)
    (of_decide_eq_true (by kernel_rfl)) (by unfold Func.isWrapper; first | (rw [if_pos (by decide +kernel)]; kernel_rfl) | (rw [if_neg (by decide +kernel)]; exact ⟨rfl, rfl⟩))
    (fun os started H enc _ => lifted os started H enc)
theorem proved : Rows.FnExactRingAroundSaid := over
#print axioms proved
end RFnExactRingAround
end Go.Proofs.Ytalkhbnlphefdaa
