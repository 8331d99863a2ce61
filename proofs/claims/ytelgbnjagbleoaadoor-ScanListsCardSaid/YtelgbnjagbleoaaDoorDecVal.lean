/- A number's value: digits, rounding. Plain arithmetic. Conditions: digits are 0 to 9. -/
import Derived.Test.YtelgbnjagbleoaaDoorDecParse
import Derived.Test.YtelgbnjagbleoaaDoorDecRef4
set_option linter.unusedSimpArgs false
set_option linter.unusedVariables false
set_option linter.deprecated false
namespace Go.Proofs.YtelgbnjagbleoaaDoor
open Go.Abs
/-- the first digits as a number, noughts behind the last -/
def preN (d : List Int) : Nat → Int
  | 0 => 0
  | k + 1 => 10 * preN d k + (d[k]?.getD 0)
theorem preN_nil : ∀ k, preN [] k = 0
  | 0 => rfl
  | k + 1 => by simp [preN, preN_nil k]
theorem accZ_pre (d : List Int) (p a : Int) : ∀ n : Nat, accZ d p a n = preN d (p + a - 1 + n).toNat - 10 ^ n * preN d (p + a - 1).toNat
  | 0 => by simp [accZ]
  | n + 1 => by
    rw [accZ, accZ_pre d p a n, Int.pow_succ]
    unfold digZ
    by_cases h : p + (a + n) - 1 < 0
    · rw [if_pos (.inl h), show (p + a - 1 + ((n + 1 : Nat) : Int)).toNat = 0 by omega, show (p + a - 1 + (n : Int)).toNat = 0 by omega, show (p + a - 1).toNat = 0 by omega]
      simp [preN]
    · have e : (p + a - 1 + ((n + 1 : Nat) : Int)).toNat = (p + a - 1 + (n : Int)).toNat + 1 := by omega
      have e2 : (p + (a + (n : Int)) - 1).toNat = (p + a - 1 + (n : Int)).toNat := by omega
      rw [e, preN]
      have hx : (if p + (a + (n : Int)) - 1 < 0 ∨ (d.length : Int) ≤ p + (a + n) - 1 then (0 : Int) else d[(p + (a + (n : Int)) - 1).toNat]?.getD 0) = d[(p + a - 1 + (n : Int)).toNat]?.getD 0 := by
        by_cases h2 : (d.length : Int) ≤ p + (a + n) - 1
        · rw [if_pos (.inr h2), List.getElem?_eq_none (by omega)]; rfl
        · rw [if_neg (by omega), e2]
      rw [hx]
      generalize preN d (p + a - 1 + (n : Int)).toNat = x
      generalize preN d (p + a - 1).toNat = y
      generalize d[(p + a - 1 + (n : Int)).toNat]?.getD 0 = z
      generalize (10 : Int) ^ n = t
      have : t * 10 * y = 10 * (t * y) := by rw [Int.mul_comm t 10, Int.mul_assoc]
      omega
theorem preN_ge (d : List Int) (k : Nat) : preN d (d.length + k) = preN d d.length * 10 ^ k := by
  induction k with
  | zero => simp
  | succ k ih =>
    rw [← Nat.add_assoc, preN, ih, List.getElem?_eq_none (by omega), Int.pow_succ]
    simp only [Option.getD_none, Int.add_zero]
    rw [Int.mul_left_comm, Int.mul_comm 10 (10 ^ k)]
theorem preN_nonneg {d : List Int} (hd : ∀ x ∈ d, 0 ≤ x ∧ x ≤ 9) : ∀ k, 0 ≤ preN d k
  | 0 => by simp [preN]
  | k + 1 => by
    have := preN_nonneg hd k
    have h2 : 0 ≤ d[k]?.getD 0 := by
      cases h : d[k]? with
      | none => simp
      | some x => exact (hd x (List.mem_of_getElem? h)).1
    unfold preN; omega
/-- the digits from the k-th on are below a power, and above nought where the last isn't -/
theorem preN_rest {d : List Int} (hd : ∀ x ∈ d, 0 ≤ x ∧ x ≤ 9) (k : Nat) : ∀ j : Nat, preN d k * 10 ^ j ≤ preN d (k + j) ∧ preN d (k + j) < (preN d k + 1) * 10 ^ j
  | 0 => by simp; omega
  | j + 1 => by
    have ⟨h1, h2⟩ := preN_rest hd k j
    have h3 : 0 ≤ d[k + j]?.getD 0 ∧ d[k + j]?.getD 0 ≤ 9 := by
      cases h : d[k + j]? with
      | none => simp
      | some x => exact hd x (List.mem_of_getElem? h)
    rw [← Nat.add_assoc, preN, Int.pow_succ, ← Int.mul_assoc, ← Int.mul_assoc]
    omega
theorem preN_last {d : List Int} (hd : ∀ x ∈ d, 0 ≤ x ∧ x ≤ 9) {x : Int} (hx : 0 < x) (hd2 : ∀ y ∈ d ++ [x], 0 ≤ y ∧ y ≤ 9) {k : Nat} (hk : k ≤ d.length) : preN (d ++ [x]) k * 10 ^ (d.length + 1 - k) < preN (d ++ [x]) (d.length + 1) := by
  have h1 := (preN_rest hd2 k (d.length - k)).1
  rw [show k + (d.length - k) = d.length by omega] at h1
  rw [show d.length + 1 - k = d.length - k + 1 by omega, Int.pow_succ, ← Int.mul_assoc, preN, List.getElem?_append_right (Nat.le_refl _), Nat.sub_self]
  simp only [List.getElem?_cons_zero, Option.getD_some]
  omega
theorem preN_app (d e : List Int) : ∀ k, k ≤ d.length → preN (d ++ e) k = preN d k
  | 0, _ => rfl
  | k + 1, h => by rw [preN, preN, preN_app d e k (by omega), List.getElem?_append_left (by omega)]
/-- the number of a list of digits -/
def valD (d : List Int) : Int := preN d d.length
theorem valD_snoc (d : List Int) (x : Int) : valD (d ++ [x]) = 10 * valD d + x := by
  unfold valD
  rw [List.length_append, List.length_singleton, preN, preN_app d [x] d.length (Nat.le_refl _), List.getElem?_append_right (Nat.le_refl _), Nat.sub_self]
  simp
theorem valD_strip : ∀ (n : Nat) (d : List Int), d.length = n → valD d = valD (stripL d) * 10 ^ (d.length - (stripL d).length) ∧ (stripL d).length ≤ d.length
  | 0, d, h => by
    obtain rfl := List.length_eq_zero_iff.1 h
    simp [stripL, valD, preN]
  | n + 1, d, h => by
    have hne : d ≠ [] := by intro h2; rw [h2] at h; simp at h
    have e := (List.dropLast_concat_getLast hne).symm
    have hl : d.dropLast.length = n := by rw [List.length_dropLast]; omega
    have ih := valD_strip n _ hl
    generalize d.getLast hne = x at *
    generalize d.dropLast = d' at *
    rw [e, stripL_last, valD_snoc]
    by_cases hx : x = 0
    · rw [if_pos hx, ih.1, List.length_append, List.length_singleton, show d'.length + 1 - (stripL d').length = d'.length - (stripL d').length + 1 by omega, Int.pow_succ, hx, ← Int.mul_assoc]
      exact ⟨by rw [Int.add_zero, Int.mul_comm 10, Int.mul_assoc, Int.mul_comm 10 (10 ^ _)], by omega⟩
    · rw [if_neg hx, valD_snoc]
      simp
theorem stripL_end : ∀ (n : Nat) (d : List Int), d.length = n → stripL d = [] ∨ ∃ d' x, stripL d = d' ++ [x] ∧ x ≠ 0
  | 0, d, h => by
    obtain rfl := List.length_eq_zero_iff.1 h
    exact .inl rfl
  | n + 1, d, h => by
    have hne : d ≠ [] := by intro h2; rw [h2] at h; simp at h
    have e := (List.dropLast_concat_getLast hne).symm
    have hl : d.dropLast.length = n := by rw [List.length_dropLast]; omega
    have ih := stripL_end n _ hl
    rw [e, stripL_last]
    by_cases hx : d.getLast hne = 0
    · rw [if_pos hx]; exact ih
    · rw [if_neg hx]; exact .inr ⟨_, _, rfl, hx⟩
theorem ediv_is {a b z : Int} (hb : 0 < b) (h1 : z * b ≤ a) (h2 : a < (z + 1) * b) : a / b = z :=
  Int.le_antisymm (Int.lt_add_one_iff.1 (Int.ediv_lt_of_lt_mul hb h2)) ((Int.le_ediv_iff_mul_le hb).2 h1)
def rndW (bl e : Bool) (r : Int) : Int := if r > 762939453125 ∨ (r = 762939453125 ∧ (e = true ∨ bl = false)) then 1 else 0
/-- the nearest of a fraction whose 10^17-fold is known but for a rest -/
theorem near_of (bl : Bool) (U D : Nat) (W : Int) (ρ : Int) (e : Bool) (hD : 0 < D) (hρ : 0 ≤ ρ ∧ ρ < D) (he : e = true ↔ 0 < ρ) (hU : (U : Int) * 1525878906250 = W * D + ρ) :
    sg (nearM bl U D).1 (nearM bl U D).2 = if bl = true then 0 - (W / 1525878906250 + rndW bl e (W % 1525878906250)) else W / 1525878906250 + rndW bl e (W % 1525878906250) := by
  rw [nearM_spec bl U D hD]
  have hW := Int.emod_add_mul_ediv W 1525878906250
  have hr0 := Int.emod_nonneg W (b := 1525878906250) (by decide)
  have hr1 := Int.emod_lt_of_pos W (b := 1525878906250) (by decide)
  generalize W / 1525878906250 = q at *
  generalize W % 1525878906250 = r at *
  have hWD : W * (D : Int) = r * D + 1525878906250 * (q * D) := by rw [← hW, Int.add_mul, Int.mul_assoc]
  have hD' : (0 : Int) < D := by omega
  have g1 : ∀ c : Int, c ≤ r → c * D ≤ r * D := fun c h => Int.mul_le_mul_of_nonneg_right h (by omega)
  have g2 : ∀ c : Int, r ≤ c → r * D ≤ c * D := fun c h => Int.mul_le_mul_of_nonneg_right h (by omega)
  have a1 := g1 762939453125
  have a2 := g1 762939453126
  have a3 := g2 762939453124
  have a4 := g2 762939453125
  have a5 := g1 0 hr0
  have a6 := g2 1525878906249 (by omega)
  have e1 : (q + 1) * (2 * (D : Int)) = 2 * (q * D) + 2 * D := by rw [Int.add_mul, Int.one_mul, ← Int.mul_assoc, Int.mul_comm q 2, Int.mul_assoc]
  have e0 : q * (2 * (D : Int)) = 2 * (q * D) := by rw [← Int.mul_assoc, Int.mul_comm q 2, Int.mul_assoc]
  have e2 : (q + 1 + 1) * (2 * (D : Int)) = 2 * (q * D) + 4 * D := by rw [Int.add_mul, e1]; omega
  have e3 : (0 - q) * (2 * (D : Int)) = 0 - 2 * (q * D) := by rw [Int.sub_mul, e0]; omega
  have e4 : (0 - q + 1) * (2 * (D : Int)) = 2 * D - 2 * (q * D) := by rw [Int.add_mul, e3]; omega
  have e5 : (0 - (q + 1)) * (2 * (D : Int)) = 0 - 2 * (q * D) - 2 * D := by rw [Int.sub_mul, e1]; omega
  generalize q * (D : Int) = Q at *
  generalize r * (D : Int) = A at *
  clear g1 g2 hW
  have u1 : (U : Int) < Q + D := by omega
  have u0 : Q ≤ (U : Int) := by omega
  unfold rndW
  cases bl with
  | false =>
    rw [if_neg (by decide)]
    simp only [sg, Bool.false_eq_true, if_false]
    by_cases h : r ≥ 762939453125
    · rw [if_pos (by by_cases h' : r = 762939453125; exact .inr ⟨h', .inr trivial⟩; exact .inl (by omega))]
      refine ediv_is (by omega) ?_ ?_
      · rw [e1]; omega
      · rw [e2]; omega
    · rw [if_neg (by omega), Int.add_zero]
      refine ediv_is (by omega) ?_ ?_
      · rw [e0]; omega
      · rw [e1]; omega
  | true =>
    rw [if_pos rfl]
    simp only [sg, if_true]
    by_cases h : r > 762939453125 ∨ (r = 762939453125 ∧ e = true)
    · rw [if_pos (by rcases h with h | h <;> simp [h])]
      refine ediv_is (by omega) ?_ ?_
      · rw [e5]; rcases h with h | ⟨h, h2⟩
        · omega
        · have := he.1 h2; omega
      · rw [show 0 - (q + 1) + 1 = 0 - q by omega, e3]; rcases h with h | ⟨h, h2⟩
        · omega
        · have := he.1 h2; omega
    · rw [if_neg (by simp only [Bool.true_eq_false, or_false]; exact h), Int.add_zero]
      have h2 : r = 762939453125 → ¬ 0 < ρ := fun h1 h3 => h (.inr ⟨h1, he.2 h3⟩)
      refine ediv_is (by omega) ?_ ?_
      · rw [e3]; omega
      · rw [e4]; omega
theorem rndZ_W (bl e : Bool) (F : Int) : rndZ bl e F = rndW bl e (F % 1525878906250) := by
  unfold rndZ rndW
  have : F * 65536 % 100000000000000000 = 65536 * (F % 1525878906250) := by omega
  rw [this]
  congr 1
  apply propext
  constructor
  · rintro (h | ⟨h, h2⟩)
    · exact .inl (by omega)
    · exact .inr ⟨by omega, h2⟩
  · rintro (h | ⟨h, h2⟩)
    · exact .inl (by omega)
    · exact .inr ⟨by omega, h2⟩
/-- the program's sum, by the first digits up to the 17th behind the point -/
theorem vZ_W (bl : Bool) {d : List Int} (p : Int) (hp : p ≤ 5) : vZ bl d p = preN d (p + 17).toNat / 1525878906250 + rndW bl (moreB d p) (preN d (p + 17).toNat % 1525878906250) := by
  unfold vZ
  rw [rndZ_W, accZ_pre, accZ_pre]
  rw [show (p + -4 - 1).toNat = 0 by omega, show (p + -4 - 1 + ((5 : Nat) : Int)).toNat = p.toNat by omega, show (p + 1 - 1 + ((17 : Nat) : Int)).toNat = (p + 17).toNat by omega, show (p + 1 - 1).toNat = p.toNat by omega]
  have h0 : preN d 0 = 0 := rfl
  rw [h0]
  have h17 : (10 : Int) ^ 17 = 100000000000000000 := by decide
  rw [h17]
  generalize preN d (p + 17).toNat = W
  generalize preN d p.toNat = I
  have h1 : (W - 100000000000000000 * I) % 1525878906250 = W % 1525878906250 := by omega
  rw [h1]
  omega
end Go.Proofs.YtelgbnjagbleoaaDoor
