/- What a number's answer is made of. Plain lemma. -/
import Derived.Test.YtelgbnjagbleoaaDoorDecTxt3
set_option linter.unusedSimpArgs false
set_option linter.unusedVariables false
set_option linter.deprecated false
namespace Go.Proofs.YtelgbnjagbleoaaDoor
open Go.Abs
theorem outV_ex (n : Int) : ∃ a e : Int, outV n = .tup [.int .i64 a, .int .i64 e] ∧ ((e = 0 ∧ a = n ∧ -4294967296 < n ∧ n < 4294967296) ∨ (e = 2 ∧ a = 0 ∧ (4294967296 ≤ n ∨ n ≤ -4294967296))) := by
  unfold outV
  by_cases h : 4294967296 ≤ n ∨ n ≤ -4294967296
  · rw [if_pos h]; exact ⟨_, _, rfl, .inr ⟨rfl, rfl, h⟩⟩
  · rw [if_neg h]; exact ⟨_, _, rfl, .inl ⟨rfl, rfl, by omega, by omega⟩⟩
end Go.Proofs.YtelgbnjagbleoaaDoor
