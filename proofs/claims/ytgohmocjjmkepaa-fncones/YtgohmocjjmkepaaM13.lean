/- Numbers out of their bits. -/
import Derived.Test.YtgohmocjjmkepaaM12
set_option linter.unusedSimpArgs false
set_option linter.unusedVariables false
namespace Go.Wv
theorem u32_wid (n : Int) : (IntKind.u32.wrap n).toNat < wid .f32 := by
  show _ < 4294967296
  rw [show IntKind.u32.wrap n = n % 4294967296 from rfl]
  omega
def frombitsB (P : Program) (f : Nat) : Prop := ∃ fn, P.funcs[f]? = some fn ∧ (fn.name == "runtime.NumGoroutine") = false ∧ fn.body.isNone = true ∧ (Extern.findNext fn).isNone = true ∧ Extern.find fn = some Extern.MathFloatBits.float32frombits
section
variable {P : Program} {ρ : Env} {w : World} {d : Option Tmp} {ty : TypeId} {pos : String} {aft : Array Edge} {g : Option (Nat × Bool)} {x : Operand} {K : Value → World → Prop}
theorem k_frombits {f : Nat} {as : List Operand} {ts : Array TypeId} {n : Int} (h : frombitsB P f) (ha : as.map (ev ρ) = [.int .u32 n]) (k : K (.float .f32 n.toNat) w) :
    opk P ⟨d, .call { callee := .value (.func f), args := as.toArray, argTypes := ts }, ty, pos, aft, g⟩ ρ w K := by
  obtain ⟨fn, hf, h1, h2, h3, h4⟩ := h
  have h3' : Extern.findNext fn = none := by simpa using h3
  have he : Extern.MathFloatBits.float32frombits #[.int .u32 n] = pure (.float .f32 n.toNat) := rfl
  have hr : (callFunc f #[.int .u32 n]).run P w = .ok (.value (.float .f32 n.toNat)) w := by
    have n1 : ¬ fn.name = "runtime.NumGoroutine" := by simpa using h1
    have n2 : fn.body = none := by simpa using h2
    simp [callFunc, hf, n1, n2, h3', h4, he]
  have hm : as.toArray.map (ev ρ) = #[.int .u32 n] := by rw [List.map_toArray, ha]
  unfold opk
  simp only [execOp, resolve, Sem.run_bind, Sem.run_pure, Deferred.ofValue, ev, Result.andThen_ok, invoke, Array.empty_append, Array.append_empty, hm, hr]
  exact k
end
end Go.Wv
