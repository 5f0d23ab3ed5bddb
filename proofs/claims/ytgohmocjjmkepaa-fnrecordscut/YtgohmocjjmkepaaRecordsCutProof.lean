/- FnRecordsCut of the given program returns true for all arguments, and leaves its arguments as they were; no condition beyond the row's own. -/
import Derived.Test.YtgohmocjjmkepaaRecordsCutW4
import Derived.Test.YtgohmocjjmkepaaRowsOf
import Derived.Test.YtgohmocjjmkepaaRows
namespace Go.Proofs.Ytgohmocjjmkepaa
open Go.ChangeShapes Go.WideShapes Go.ChangeAt Go.RowKit Go.Wv
namespace RFnRecordsCut
theorem own : ownKnob Try.prog.godebug = none := by kernel_rfl
theorem laidOut : laidOutB Try.prog = true := by kernel_rfl
set_option maxRecDepth 100000 in
theorem lifted (os : Os) (started : os.Started) (H : Type) (enc : TypeId × Value → H) :
    ReturnsInHanded {} Try.checked os 7 .any (Rows.fnRecordsCutSpec.pre6 enc Try.prog Try.f7 Rows.fnRecordsCutRow.domain false) (Rows.fnRecordsCutSpec.post enc Try.prog Try.f7 false true false false) := by
  refine returnsInHanded_of_change (C := Try.checked) own started (by kernel_rfl) Try.func7
    (ChangeSpec.witness6 (enc := enc) (C := Try.checked) false ⟨#[], #[.slice none 0 0, .slice none 0 0], []⟩ 8 (by kernel_rfl) (by kernel_rfl) (by kernel_rfl) (by kernel_rfl)) ?_
  intro W base args ds gs before hval0 hW hcnd _
  have hval : ∀ (j : Nat) t v, Try.f7.params[j]? = some t → args[j]? = some v → Value.okWide Try.prog W .any base t v := hval0
  have hW' := hW
  obtain ⟨p, q, hA0, hV, rfl, hfz, hnd⟩ := hW
  have hA : DataW.TrodAll enc Try.prog W 0 (fun _ => true) true Try.f7.params.toList args.toList ds p := hA0
  rw [Try.params7] at hA hval
  obtain ⟨v0, vs0, d0, ds0, p0, q0, hargs, rfl, rfl, h0, r0⟩ := trodAll_cons hA
  obtain ⟨v1, vs1, d1, ds1, p1, q1, rfl, rfl, rfl, h1, r1⟩ := trodAll_cons r0
  obtain ⟨rfl, rfl, rfl⟩ := trodAll_nil r1
  obtain rfl : args = #[v0, v1] := by cases args; simp_all
  obtain ⟨rfl, rfl⟩ := trodVars_none hV
  obtain ⟨a0, x0, c0, rfl, l0, s0⟩ := arg_bytes Try.underlying22 (by kernel_rfl) Try.underlying5 (hval 0 22 v0 rfl rfl) h0
  obtain ⟨a1, x1, c1, rfl, l1, s1⟩ := arg_bytes Try.underlying22 (by kernel_rfl) Try.underlying5 (hval 1 22 v1 rfl rfl) h1
  clear hA0 hval0
  refine (c_FnRecordsCut s0 s1 (Nat.le_trans l0 (by decide)) (Nat.le_trans l1 (by decide))).mono fun e W' ⟨v, he, hv, hE⟩ => ?_
  subst he; subst hv
  exact ⟨_, rfl, law_post laidOut (by kernel_rfl) hW' rfl rfl Try.underlying4 rfl (hE.below (Nat.le_refl _) (fun _ h => h.elim))⟩
theorem over : Rows.fnRecordsCutRow.holds Try.pinned (OpenSpec.ofChange Rows.fnRecordsCutSpec) :=
  OpenClaim.holds_of_wide 7 Try.f7 rfl rfl rfl rfl rfl rfl rfl ⟨rfl, rfl, rfl, rfl, rfl⟩ rfl rfl rfl rfl rfl (by kernel_rfl) Try.func7 (by kernel_rfl)
    (of_decide_eq_true (by kernel_rfl)) (by unfold Func.isWrapper; first | (rw [if_pos (by decide +kernel)]; kernel_rfl) | (rw [if_neg (by decide +kernel)]; exact ⟨rfl, rfl⟩))
    (fun os started H enc _ => lifted os started H enc)
theorem proved : Rows.FnRecordsCutSaid := over
#print axioms proved
end RFnRecordsCut
end Go.Proofs.Ytgohmocjjmkepaa
