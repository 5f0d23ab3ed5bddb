/- Rows: arguments that are slices of bytes. -/
import Derived.Test.YtgohmocjjmkepaaR3
import Derived.Test.YtgohmocjjmkepaaM11
set_option linter.unusedSimpArgs false
set_option linter.unusedVariables false
namespace Go.Wv
section
variable {P : Program} {H : Type} {enc : TypeId × Value → H} {W W' : World}
variable {base : Nat} {spare : Nat → Bool} {held : Bool} {fuel : Nat} {t e : TypeId} {c : Value} {x : DataW H × List MemPlace}
theorem reps_bytes : ∀ xs : List {z : Nat // z < 256}, Reps kY (xs.map Subtype.val) (xs.map fun z => Value.int .u8 ((z.1 : Nat) : Int))
  | [] => (rfl : Reps kY [] [])
  | z :: xs => reps_cons (c := [.int .u8 ((z.1 : Nat) : Int)]) ⟨rfl, z.2⟩ (reps_bytes xs)
theorem arg_bytes {r : Reach} {b0 : Nat} {v : Value} {d : DataW H} {ps : List MemPlace} (ht : P.underlying t = some (.slice e)) (hc : P.cellsOf e = 1) (he : P.underlying e = some (.int .u8)) (hv : Value.okWide P W r b0 t v)
    (h : DataW.Trod enc P W base spare held t v d ps) : ∃ (a : Option Addr) (xs : List Nat) (cap : Nat), v = .slice a xs.length cap ∧ xs.length ≤ maxLen ∧ Rd W kY a xs.length xs := by
  obtain ⟨fuel, hf⟩ := h
  rw [one_of_slice ht hv] at hf
  obtain ⟨a, xs, cap, h1, h2, h3⟩ := rd_slice (α := {z : Nat // z < 256}) (f := fun z => .int .u8 ((z.1 : Nat) : Int)) ht hc (fun m c y hy => by
    obtain ⟨n, rfl, hw⟩ := rd_int he hy
    have hn : 0 ≤ n ∧ n ≤ 255 := by
      simp [Lit.wf, IntKind.min, IntKind.max, IntKind.signed, IntKind.bits] at hw
      omega
    exact ⟨⟨n.toNat, by omega⟩, by show Value.int .u8 n = .int .u8 ((n.toNat : Nat) : Int); rw [show ((n.toNat : Nat) : Int) = n by omega]⟩) hf
  have hl : (xs.map Subtype.val).length = xs.length := List.length_map _
  refine ⟨a, xs.map Subtype.val, cap, by rw [hl]; exact h1, by rw [hl]; exact h2, _, rfl, reps_bytes xs, h3⟩
end
end Go.Wv
