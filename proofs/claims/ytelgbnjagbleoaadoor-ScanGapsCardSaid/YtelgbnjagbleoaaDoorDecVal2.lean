/- The program's answer for a number is the document's. Plain arithmetic. Conditions: digits, not beginning with a nought; lengths up to 400. -/
import Derived.Test.YtelgbnjagbleoaaDoorDecVal
set_option linter.unusedSimpArgs false
set_option linter.unusedVariables false
set_option linter.deprecated false
namespace Go.Proofs.YtelgbnjagbleoaaDoor
open Go.Abs
theorem pow_eq {a b : Nat} (h : a = b) : (10 : Int) ^ a = 10 ^ b := by rw [h]
theorem mul_pow_eq (c : Int) {a b : Nat} (h : a = b) : c * (10 : Int) ^ a = c * 10 ^ b := by rw [h]
theorem up_cast (N : Nat) (P : Int) : (upM N P : Int) * 1525878906250 = N * (10 ^ 17 * 10 ^ P.toNat) := by
  have h : (10 : Int) ^ 17 = 65536 * 1525878906250 := by decide
  unfold upM
  rw [h, Int.natCast_mul, Int.natCast_mul, Int.natCast_pow]
  show (N : Int) * 65536 * (10 : Int) ^ P.toNat * 1525878906250 = _
  generalize (10 : Int) ^ P.toNat = t
  rw [Int.mul_assoc, Int.mul_assoc, Int.mul_comm t, Int.mul_assoc]
theorem val_core (bl : Bool) (ds : List Int) (hd : ∀ x ∈ ds, 0 ≤ x ∧ x ≤ 9) (N : Nat) (hN : (N : Int) = valD ds) (hN1 : 1 ≤ N) (p : Int) (hp : p ≤ 5) :
    refV bl N (p - ds.length) = if bl = true then 0 - vZ bl (stripL ds) p else vZ bl (stripL ds) p := by
  have hU0 : 0 < upM N (p - ds.length) := Nat.mul_pos (Nat.mul_pos hN1 (by decide)) (Nat.pow_pos (by decide))
  have hD0 : 0 < dnM (p - ds.length) := Nat.pow_pos (by decide)
  unfold refV
  rw [decide_eq_true hU0, Bool.and_true, vZ_W bl p hp]
  have hs := valD_strip _ ds rfl
  have hse := stripL_end _ ds rfl
  have hd1 : ∀ x ∈ stripL ds, 0 ≤ x ∧ x ≤ 9 := fun x hx => hd x (by
    have h3 : x ∈ (ds.reverse.dropWhile (· == 0)).reverse := hx
    rw [List.mem_reverse] at h3
    exact List.mem_reverse.1 ((List.dropWhile_sublist _).subset h3))
  generalize stripL ds = d at *
  have hUT := up_cast N (p - ds.length)
  have hDc : (dnM (p - ds.length) : Int) = 10 ^ (0 - (p - ds.length)).toNat := by unfold dnM; rw [Int.natCast_pow]; rfl
  rw [hN, hs.1] at hUT
  generalize upM N (p - ds.length) = U at *
  generalize dnM (p - ds.length) = D at *
  by_cases h : (d.length : Int) ≤ p + 17
  · have hm : moreB d p = false := by unfold moreB; rw [decide_eq_false (show ¬ p + 17 < (d.length : Int) by omega), Bool.and_false]
    have hW : preN d (p + 17).toNat = valD d * 10 ^ ((p + 17).toNat - d.length) := by
      rw [show (p + 17).toNat = d.length + ((p + 17).toNat - d.length) by omega, preN_ge, Nat.add_sub_cancel_left]; rfl
    rw [hm]
    refine near_of bl U D _ 0 false hD0 (by omega) (by simp) ?_
    rw [hUT, hW, hDc, Int.add_zero, Int.mul_assoc, Int.mul_assoc, ← Int.pow_add, ← Int.pow_add, ← Int.pow_add]
    exact mul_pow_eq _ (by omega)
  · rcases hse with rfl | ⟨d', x, rfl, hx⟩
    · exfalso
      rw [hs.1] at hN
      simp [valD, preN] at hN
      omega
    · have hm : moreB (d' ++ [x]) p = true := by unfold moreB; rw [decide_eq_true (show p + 17 < ((d' ++ [x]).length : Int) by omega), Bool.and_true]; simp
      have hl : (d' ++ [x]).length = d'.length + 1 := by simp
      have hx0 : 0 < x := by have := hd1 x (by simp); omega
      have hr := preN_last (fun y hy => hd1 y (by simp [hy])) hx0 hd1 (k := (p + 17).toNat) (by omega)
      have hr2 := (preN_rest hd1 (p + 17).toNat (d'.length + 1 - (p + 17).toNat)).2
      rw [show (p + 17).toNat + (d'.length + 1 - (p + 17).toNat) = d'.length + 1 by omega] at hr2
      have hv : valD (d' ++ [x]) = preN (d' ++ [x]) (d'.length + 1) := by unfold valD; rw [hl]
      rw [hm]
      have hWD : preN (d' ++ [x]) (p + 17).toNat * (D : Int) = preN (d' ++ [x]) (p + 17).toNat * 10 ^ (d'.length + 1 - (p + 17).toNat) * 10 ^ (ds.length - (d'.length + 1) + 17) := by
        by_cases h0 : p + 17 < 0
        · rw [show (p + 17).toNat = 0 by omega]; simp [preN]
        · rw [hDc, Int.mul_assoc, ← Int.pow_add]; exact mul_pow_eq _ (by omega)
      have hP0 : (p - (ds.length : Int)).toNat = 0 := by omega
      rw [hP0, hv, hl, Int.pow_zero, Int.mul_one, Int.mul_assoc, ← Int.pow_add] at hUT
      have hpos : ∀ e : Nat, (0 : Int) < 10 ^ e := fun e => Int.pow_pos (by decide)
      refine near_of bl U D _ ((preN (d' ++ [x]) (d'.length + 1) - preN (d' ++ [x]) (p + 17).toNat * 10 ^ (d'.length + 1 - (p + 17).toNat)) * 10 ^ (ds.length - (d'.length + 1) + 17)) true hD0 ⟨?_, ?_⟩ ⟨fun _ => ?_, fun _ => rfl⟩ ?_
      · exact Int.mul_nonneg (by omega) (Int.le_of_lt (hpos _))
      · have h1 : (preN (d' ++ [x]) (d'.length + 1) - preN (d' ++ [x]) (p + 17).toNat * 10 ^ (d'.length + 1 - (p + 17).toNat)) * 10 ^ (ds.length - (d'.length + 1) + 17) < 10 ^ (d'.length + 1 - (p + 17).toNat) * 10 ^ (ds.length - (d'.length + 1) + 17) :=
          Int.mul_lt_mul_of_pos_right (by rw [Int.add_mul, Int.one_mul] at hr2; omega) (hpos _)
        refine Int.lt_of_lt_of_le h1 ?_
        rw [hDc, ← Int.pow_add]
        have h2 : (10 : Nat) ^ (d'.length + 1 - (p + 17).toNat + (ds.length - (d'.length + 1) + 17)) ≤ 10 ^ (0 - (p - (ds.length : Int))).toNat := Nat.pow_le_pow_right (by decide) (by omega)
        exact_mod_cast h2
      · exact Int.mul_pos (by omega) (hpos _)
      · rw [hWD, Int.sub_mul, hUT]; omega
end Go.Proofs.YtelgbnjagbleoaaDoor
