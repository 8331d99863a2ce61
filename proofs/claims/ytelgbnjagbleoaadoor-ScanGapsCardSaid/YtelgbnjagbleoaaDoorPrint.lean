/- The document's text of a number, and its value. Plain arithmetic. Conditions: none. -/
import Derived.Test.YtelgbnjagbleoaaDoorDec10
set_option linter.unusedSimpArgs false
set_option linter.unusedVariables false
set_option linter.deprecated false
namespace Go.Proofs.YtelgbnjagbleoaaDoor
open Go.Abs
/-- the digits behind the point, at most so many -/
def fracF : Nat → Nat → List UInt8
  | 0, _ => []
  | k + 1, r => if r = 0 then [] else dgB (r * 10 / 65536) :: fracF k (r * 10 % 65536)
theorem fracF_zero (k : Nat) : fracF k 0 = [] := by cases k <;> simp [fracF]
theorem fracF_dig : ∀ (k r : Nat), r < 65536 → digL (fracF k r)
  | 0, _, _ => by simp [fracF, digL]
  | k + 1, r, h => by
    unfold fracF
    split
    · simp [digL]
    · intro b hb
      rcases List.mem_cons.1 hb with rfl | hb
      · exact dgB_kind (by omega)
      · exact fracF_dig k _ (by omega) b hb
theorem fracF_len : ∀ (k r : Nat), (fracF k r).length ≤ k
  | 0, _ => by simp [fracF]
  | k + 1, r => by
    unfold fracF
    split
    · simp
    · have := fracF_len k (r * 10 % 65536); simp; omega
/-- what is left behind k digits has k more twos in it -/
theorem frac_twos {j r : Nat} (h : r % 2 ^ j = 0) (hj : j ≤ 15) : (r * 10 % 65536) % 2 ^ (j + 1) = 0 := by
  have hd : 2 ^ (j + 1) ∣ 65536 := ⟨2 ^ (15 - j), by rw [← Nat.pow_add, show j + 1 + (15 - j) = 16 by omega]⟩
  rw [Nat.mod_mod_of_dvd _ hd]
  obtain ⟨c, hc⟩ := Nat.dvd_of_mod_eq_zero h
  rw [hc, Nat.pow_succ]
  exact Nat.mod_eq_zero_of_dvd ⟨c * 5, by rw [Nat.mul_assoc, Nat.mul_assoc, Nat.mul_left_comm 2 c 5]⟩
theorem frac_val : ∀ (k j r : Nat), k + j = 16 → r < 65536 → r % 2 ^ j = 0 → 65536 * valN (fracF k r) = r * 10 ^ (fracF k r).length
  | 0, j, r, hj, hr, h2 => by
    obtain rfl : j = 16 := by omega
    have : r = 0 := by rw [show (2 : Nat) ^ 16 = 65536 from rfl] at h2; omega
    subst this; simp [fracF, valN]
  | k + 1, j, r, hj, hr, h2 => by
    unfold fracF
    by_cases h : r = 0
    · rw [if_pos h, h]; simp [valN]
    · rw [if_neg h]
      have ih := frac_val k (j + 1) (r * 10 % 65536) (by omega) (by omega) (frac_twos h2 (by omega))
      generalize hf : fracF k (r * 10 % 65536) = f at *
      have e1 : valN (dgB (r * 10 / 65536) :: f) = r * 10 / 65536 * 10 ^ f.length + valN f := by
        have := valN_app [dgB (r * 10 / 65536)] _ f rfl
        rw [List.singleton_append] at this
        rw [this]; congr 2
        unfold valN; simp only [List.foldl_cons, List.foldl_nil]; rw [dgB_nat (by omega)]; omega
      have e2 : r * 10 = 65536 * (r * 10 / 65536) + r * 10 % 65536 := by omega
      rw [e1, Nat.mul_add, ih, List.length_cons, Nat.pow_succ, Nat.mul_comm (10 ^ f.length) 10, ← Nat.mul_assoc, ← Nat.mul_assoc]
      conv => rhs; rw [e2]
      rw [Nat.add_mul]
/-- a number's text -/
def prB (m : Nat) : Option (List UInt8) := if m % 65536 > 0 then some (fracF 16 (m % 65536)) else none
def prS (n : Int) : List UInt8 := if n < 0 then [45] else []
def prD (n : Int) : List UInt8 := prS n ++ (decD (n.natAbs / 65536) ++ dotL (prB n.natAbs))
theorem prD_txt (n : Int) : prD n = txt (prS n) (decD (n.natAbs / 65536)) (prB n.natAbs) none := by
  unfold prD txt; simp [expB]
theorem prB_dig (m : Nat) : digL ((prB m).getD []) := by
  unfold prB; split
  · exact fracF_dig _ _ (by omega)
  · simp [digL]
theorem prB_len (m : Nat) : ((prB m).getD []).length ≤ 16 := by
  unfold prB; split
  · exact fracF_len _ _
  · simp
theorem prD_ok (n : Int) : TxtOK (prS n) (decD (n.natAbs / 65536)) (prB n.natAbs) none :=
  ⟨by unfold prS; split <;> simp, decD_dig _, prB_dig _, by have := decD_pos (n.natAbs / 65536); omega, trivial⟩
theorem prB_val (m : Nat) : 65536 * valN ((prB m).getD []) = (m % 65536) * 10 ^ ((prB m).getD []).length := by
  unfold prB; split
  · exact frac_val 16 0 _ rfl (by omega) (Nat.mod_one _)
  · simp [valN]; omega
/-- its value is the number -/
theorem refV_pr (n : Int) : refV (prS n == [45]) (txtN (decD (n.natAbs / 65536)) (prB n.natAbs)) (txtP (decD (n.natAbs / 65536)) (prB n.natAbs) none) = n := by
  obtain ⟨e1, e2⟩ := txtN_val (A := decD (n.natAbs / 65536)) (B := prB n.natAbs) (decD_dig _) (prB_dig _)
  unfold txtP
  rw [e1, e2, valN_app _ _ _ rfl, valN_decD]
  have hv := prB_val n.natAbs
  generalize (prB n.natAbs).getD [] = f at *
  have hP : (if exDown none = true then 0 - exPow 1000 none else exPow 1000 none) - (f.length : Int) = 0 - f.length := rfl
  rw [hP]
  have hU : upM (n.natAbs / 65536 * 10 ^ f.length + valN f) (0 - f.length) = n.natAbs * 10 ^ f.length := by
    unfold upM
    rw [show (0 - (f.length : Int)).toNat = 0 by omega, Nat.pow_zero, Nat.mul_one, Nat.add_mul, Nat.mul_comm (valN f), hv]
    have h3 : n.natAbs * 10 ^ f.length = (65536 * (n.natAbs / 65536) + n.natAbs % 65536) * 10 ^ f.length := by congr 1; omega
    rw [h3, Nat.add_mul, Nat.mul_right_comm, Nat.mul_comm (n.natAbs / 65536) 65536]
  have hD : dnM (0 - (f.length : Int)) = 10 ^ f.length := by unfold dnM; congr 1; omega
  have hp : 0 < 10 ^ f.length := Nat.pow_pos (by decide)
  unfold refV
  rw [hU, hD, nearM_spec _ _ _ hp]
  have hs : sg ((prS n == [45]) && decide (0 < n.natAbs * 10 ^ f.length)) (n.natAbs * 10 ^ f.length) = n * ((10 ^ f.length : Nat) : Int) := by
    by_cases h : n < 0
    · have h1 : (prS n == [45]) = true := by unfold prS; rw [if_pos h]; rfl
      have h2 : decide (0 < n.natAbs * 10 ^ f.length) = true := decide_eq_true (Nat.mul_pos (by omega) hp)
      rw [h1, h2]
      simp only [Bool.true_and, sg, if_true]
      rw [Int.natCast_mul, ← Int.neg_mul]; congr 1; omega
    · have h1 : (prS n == [45]) = false := by unfold prS; rw [if_neg h]; rfl
      rw [h1]
      simp only [Bool.false_and, sg, Bool.false_eq_true, if_false]
      rw [Int.natCast_mul]; congr 1; omega
  rw [hs]
  have ht : (0 : Int) < ((10 ^ f.length : Nat) : Int) := by omega
  generalize ((10 ^ f.length : Nat) : Int) = t at *
  have e3 : n * (2 * t) = 2 * (n * t) := by rw [← Int.mul_assoc, Int.mul_comm n 2, Int.mul_assoc]
  have e4 : (n + 1) * (2 * t) = 2 * (n * t) + 2 * t := by rw [Int.add_mul, e3, Int.one_mul]
  refine ediv_is (by omega) ?_ ?_
  · rw [e3]; omega
  · rw [e4]; omega
end Go.Proofs.YtelgbnjagbleoaaDoor
