/- The law DecRises answers true. Conditions: the arguments' kinds. -/
import Derived.Test.YtinjgnaimmenbaaDoorLaw04b
set_option linter.unusedSimpArgs false
set_option linter.unusedVariables false
set_option linter.deprecated false
namespace Go.Proofs.YtinjgnaimmenbaaDoor
open Go.Abs
theorem refV_eq (N : Nat) (P : Int) (hP : P ≤ 0) : refV false N P = (2 * ((N * 65536 : Nat) : Int) + (dnM P : Int)) / (2 * (dnM P : Int)) := by
  unfold refV
  have hD : 0 < dnM P := Nat.pow_pos (by decide)
  rw [nearM_spec _ _ _ hD]
  simp only [Bool.false_and, sg, Bool.false_eq_true, if_false]
  have : upM N P = N * 65536 := by unfold upM; rw [show P.toNat = 0 by omega, Nat.pow_zero, Nat.mul_one]
  rw [this]
theorem refV_mono {N N' : Nat} {P : Int} (hP : P ≤ 0) (h : N ≤ N') : refV false N P ≤ refV false N' P := by
  rw [refV_eq _ _ hP, refV_eq _ _ hP]
  have hD : 0 < dnM P := Nat.pow_pos (by decide)
  exact Int.ediv_le_ediv (by omega) (by omega)
theorem refV_nn (N : Nat) {P : Int} (hP : P ≤ 0) : 0 ≤ refV false N P := by
  rw [refV_eq _ _ hP]
  have hD : 0 < dnM P := Nat.pow_pos (by decide)
  exact Int.ediv_nonneg (by omega) (by omega)
theorem refV_up (N c : Nat) {P : Int} (hP : P ≤ 0) : refV false (N + c * dnM P) P = refV false N P + c * 65536 := by
  rw [refV_eq _ _ hP, refV_eq _ _ hP]
  have hD : 0 < dnM P := Nat.pow_pos (by decide)
  have e : 2 * (((N + c * dnM P) * 65536 : Nat) : Int) + (dnM P : Int) = (2 * ((N * 65536 : Nat) : Int) + (dnM P : Int)) + (c * 65536) * (2 * (dnM P : Int)) := by
    rw [Nat.add_mul, Int.natCast_add]
    have : ((c * dnM P * 65536 : Nat) : Int) * 2 = (c * 65536) * (2 * (dnM P : Int)) := by
      rw [Int.natCast_mul, Int.natCast_mul, show ((65536 : Nat) : Int) = 65536 from rfl]; ac_rfl
    omega
  rw [e, Int.add_mul_ediv_right _ _ (by omega)]
theorem refV_zero {P : Int} (hP : P ≤ 0) : refV false 0 P = 0 := by
  rw [refV_eq _ _ hP]
  have hD : 0 < dnM P := Nat.pow_pos (by decide)
  exact Int.ediv_eq_zero_of_lt (by omega) (by omega)
/-- what the law asks of the three numbers -/
theorem rises (w b m i k : Nat) (hb : b < 10 ^ m) (hi : i ≤ k) (hk : k < 10) :
    0 ≤ refV false (w * 10 ^ m + b) (0 - m) ∧ refV false (w * 10 ^ m + b) (0 - m) ≤ refV false ((w * 10 ^ m + b) * 10 + i) (0 - (m + 1 : Nat)) ∧ refV false ((w * 10 ^ m + b) * 10 + i) (0 - (m + 1 : Nat)) ≤ refV false ((w * 10 ^ m + b) * 10 + k) (0 - (m + 1 : Nat)) ∧
    refV false ((w * 10 ^ m + b) * 10 + k) (0 - (m + 1 : Nat)) ≤ refV false (w * 10 ^ m + b) (0 - m) + 65536 ∧ refV false ((w * 10 ^ m + b) * 10 + k) (0 - (m + 1 : Nat)) ≤ (w + 1) * 65536 := by
  have hP1 : (0 : Int) - (m + 1 : Nat) ≤ 0 := by omega
  have e0 : refV false (w * 10 ^ m + b) (0 - m) = refV false ((w * 10 ^ m + b) * 10) (0 - (m + 1 : Nat)) := by
    have := refV_scale false (w * 10 ^ m + b) 1 (0 - m) (by omega)
    rw [Nat.pow_one] at this
    rw [← this]; congr 1; omega
  have hD : dnM (0 - ((m + 1 : Nat) : Int)) = 10 ^ m * 10 := by unfold dnM; rw [show (0 - (0 - ((m + 1 : Nat) : Int))).toNat = m + 1 by omega, Nat.pow_succ]
  have hp : 0 < 10 ^ m := Nat.pow_pos (by decide)
  have u1 := refV_up ((w * 10 ^ m + b) * 10) 1 hP1
  have u2 := refV_up 0 (w + 1) hP1
  rw [hD] at u1 u2
  rw [refV_zero hP1] at u2
  rw [e0]
  refine ⟨refV_nn _ hP1, refV_mono hP1 (by omega), refV_mono hP1 (by omega), ?_, ?_⟩
  · have := refV_mono hP1 (show (w * 10 ^ m + b) * 10 + k ≤ (w * 10 ^ m + b) * 10 + 1 * (10 ^ m * 10) by omega)
    omega
  · have hw : (w + 1) * (10 ^ m * 10) = w * 10 ^ m * 10 + 10 ^ m * 10 := by rw [Nat.add_mul, Nat.one_mul, Nat.mul_assoc]
    have := refV_mono hP1 (show (w * 10 ^ m + b) * 10 + k ≤ 0 + (w + 1) * (10 ^ m * 10) by omega)
    rw [u2] at this
    omega
end Go.Proofs.YtinjgnaimmenbaaDoor
