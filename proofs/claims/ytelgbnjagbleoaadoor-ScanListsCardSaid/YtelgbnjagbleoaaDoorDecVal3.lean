/- The program's answer for a number is the document's, however great its power is. Plain arithmetic. Conditions: digits, not beginning with a nought; lengths up to 400. -/
import Derived.Test.YtelgbnjagbleoaaDoorDecVal2
set_option linter.unusedSimpArgs false
set_option linter.unusedVariables false
set_option linter.deprecated false
namespace Go.Proofs.YtelgbnjagbleoaaDoor
open Go.Abs
theorem outV_big {z : Int} (h : 4294967296 ≤ z ∨ z ≤ -4294967296) : outV z = .tup [.int .i64 0, .int .i64 2] := if_pos h
theorem near_big (bl : Bool) (U D : Nat) (hD : 0 < D) (h : 4294967297 * D ≤ U) : outV (sg (nearM bl U D).1 (nearM bl U D).2) = .tup [.int .i64 0, .int .i64 2] := by
  rw [nearM_spec bl U D hD]
  have hD2 : (0 : Int) < 2 * D := by omega
  cases bl with
  | false =>
    refine outV_big (.inl ((Int.le_ediv_iff_mul_le hD2).2 ?_))
    simp only [sg, Bool.false_eq_true, if_false]; omega
  | true =>
    refine outV_big (.inr (Int.lt_add_one_iff.1 (Int.ediv_lt_of_lt_mul hD2 ?_)))
    simp only [sg, if_true]; omega
theorem near_small (bl : Bool) (U D : Nat) (hD : 0 < D) (h : 2 * U < D) : outV (sg (nearM bl U D).1 (nearM bl U D).2) = .tup [.int .i64 0, .int .i64 0] := by
  rw [nearM_spec bl U D hD]
  have hD2 : (0 : Int) < 2 * D := by omega
  rw [ediv_is (z := 0) hD2 (by cases bl <;> simp [sg] <;> omega) (by cases bl <;> simp [sg] <;> omega)]
  exact if_neg (by decide)
theorem vZ_nn (bl : Bool) {d : List Int} (hd : ∀ x ∈ d, 0 ≤ x ∧ x ≤ 9) (p : Int) (hp : p ≤ 5) : 0 ≤ vZ bl d p := by
  rw [vZ_W bl p hp]
  have h1 : 0 ≤ preN d (p + 17).toNat / 1525878906250 := Int.ediv_nonneg (preN_nonneg hd _) (by decide)
  have h2 : 0 ≤ rndW bl (moreB d p) (preN d (p + 17).toNat % 1525878906250) := by unfold rndW; split <;> decide
  omega
theorem decR_nil (bl : Bool) (p : Int) : decR bl [] p = .tup [.int .i64 0, .int .i64 0] := by
  have h0 : vZ bl [] p = 0 := by
    unfold vZ
    rw [accZ_pre, accZ_pre]
    simp only [preN_nil]
    have : rndZ bl (moreB [] p) (0 - 10 ^ 17 * 0) = 0 := by rw [Int.mul_zero, Int.sub_zero]; exact if_neg (by simp)
    rw [this]
    simp
  unfold decR
  rw [if_neg (by simp), h0, if_neg (by decide)]
  split <;> rfl
theorem stripL_dig {ds : List Int} (hd : ∀ x ∈ ds, 0 ≤ x ∧ x ≤ 9) : ∀ x ∈ stripL ds, 0 ≤ x ∧ x ≤ 9 := fun y hy => hd y (by
  have h3 : y ∈ (ds.reverse.dropWhile (· == 0)).reverse := hy
  rw [List.mem_reverse] at h3
  exact List.mem_reverse.1 ((List.dropWhile_sublist _).subset h3))
theorem ten_big {e : Nat} (h : 6 ≤ e) : 1000000 ≤ 10 ^ e := Nat.le_trans (by decide : 1000000 ≤ 10 ^ 6) (Nat.pow_le_pow_right (by decide) h)
theorem dec_val (bl : Bool) (ds : List Int) (hd : ∀ x ∈ ds, 0 ≤ x ∧ x ≤ 9) (hh : ds = [] ∨ ∃ x l, ds = x :: l ∧ 0 < x) (N : Nat) (hN : (N : Int) = valD ds) (b : Nat) (hb : b ≤ 400) (hl : ds.length ≤ 400)
    (pB pR : Int) (h0 : 0 ≤ pB) (hR : pR = if pB ≤ 1000 then pB else 1000) (dn : Bool) :
    decR bl (stripL ds) ((ds.length : Int) - b + if dn = true then 0 - pB else pB) = outV (refV bl N ((if dn = true then 0 - pR else pR) - b)) := by
  rcases hh with rfl | ⟨x, l, rfl, hx⟩
  · have hN0 : N = 0 := by simp [valD, preN] at hN; omega
    rw [show stripL [] = [] from rfl, decR_nil, hN0]
    refine (near_small _ _ _ (Nat.pow_pos (by decide)) ?_).symm
    have : upM 0 ((if dn = true then 0 - pR else pR) - b) = 0 := by unfold upM; simp
    rw [this]
    exact Nat.pow_pos (by decide)
  · have hlo := (preN_rest hd 1 l.length).1
    have hhi := (preN_rest hd 0 (l.length + 1)).2
    have e1 : preN (x :: l) 1 = x := by simp [preN]
    have e0 : preN (x :: l) 0 = 0 := rfl
    have hl1 : (x :: l).length = l.length + 1 := rfl
    have ev : valD (x :: l) = preN (x :: l) (l.length + 1) := rfl
    rw [e1, Nat.add_comm 1, ← ev, ← hN] at hlo
    rw [e0, Nat.zero_add, ← ev, ← hN, Int.zero_add, Int.one_mul] at hhi
    have hlo2 : 10 ^ l.length ≤ N := by
      have h1 : (1 : Int) * 10 ^ l.length ≤ x * 10 ^ l.length := Int.mul_le_mul_of_nonneg_right (by omega) (Int.le_of_lt (Int.pow_pos (by decide)))
      rw [Int.one_mul] at h1
      have h2 : ((10 ^ l.length : Nat) : Int) ≤ N := by rw [Int.natCast_pow]; exact Int.le_trans h1 hlo
      omega
    have hhi2 : N < 10 ^ (l.length + 1) := by
      have h2 : (N : Int) < ((10 ^ (l.length + 1) : Nat) : Int) := by rw [Int.natCast_pow]; exact hhi
      omega
    have hN1 : 1 ≤ N := Nat.le_trans (Nat.pow_pos (by decide)) hlo2
    have hsl : 0 < (stripL (x :: l)).length := by
      apply Nat.pos_of_ne_zero
      intro h
      have h2 := (valD_strip _ (x :: l) rfl).1
      rw [List.length_eq_zero_iff.1 h] at h2
      simp only [valD, List.length_nil, preN, Int.zero_mul] at h2
      unfold valD at hN
      omega
    have hbl : ∀ P, (bl && decide (0 < upM N P)) = bl := fun P => by
      have h : 0 < upM N P := Nat.mul_pos (Nat.mul_pos hN1 (by decide)) (Nat.pow_pos (by decide))
      rw [decide_eq_true h, Bool.and_true]
    clear hlo hhi e1 e0 ev
    have hn : (x :: l).length = l.length + 1 := rfl
    by_cases hp5 : (((x :: l).length : Int) - b + if dn = true then 0 - pB else pB) > 5
    · rw [show decR bl (stripL (x :: l)) (((x :: l).length : Int) - b + if dn = true then 0 - pB else pB) = .tup [.int .i64 0, .int .i64 2] from if_pos ⟨hp5, hsl⟩]
      unfold refV
      rw [hbl]
      refine (near_big bl _ _ (Nat.pow_pos (by decide)) ?_).symm
      obtain ⟨P, hP⟩ : ∃ P, P = (if dn = true then 0 - pR else pR) - (b : Int) := ⟨_, rfl⟩
      rw [← hP]
      have hP6 : 5 < P + (l.length + 1 : Nat) := by
        cases dn with
        | true =>
          simp only [if_true] at hp5 hP
          split at hR <;> omega
        | false =>
          simp only [Bool.false_eq_true, if_false] at hp5 hP
          split at hR <;> omega
      unfold upM
      by_cases hs : 0 ≤ P
      · rw [show (0 - P).toNat = 0 by omega, Nat.pow_zero]
        have h1 : 10 ^ l.length * 10 ^ P.toNat ≤ N * 10 ^ P.toNat := Nat.mul_le_mul_right _ hlo2
        rw [← Nat.pow_add] at h1
        have h2 : 100000 ≤ 10 ^ (l.length + P.toNat) := Nat.le_trans (by decide : 100000 ≤ 10 ^ 5) (Nat.pow_le_pow_right (by decide) (by omega))
        rw [Nat.mul_assoc, Nat.mul_comm 65536, ← Nat.mul_assoc]
        generalize N * 10 ^ P.toNat = A at *
        generalize 10 ^ (l.length + P.toNat) = B at *
        omega
      · rw [show P.toNat = 0 by omega, Nat.pow_zero, Nat.mul_one]
        have h1 : 10 ^ l.length = 10 ^ (l.length - (0 - P).toNat) * 10 ^ (0 - P).toNat := by rw [← Nat.pow_add]; congr 1; omega
        have h2 : 100000 ≤ 10 ^ (l.length - (0 - P).toNat) := Nat.le_trans (by decide : 100000 ≤ 10 ^ 5) (Nat.pow_le_pow_right (by decide) (by omega))
        have h3 := Nat.mul_le_mul_right (10 ^ (0 - P).toNat) h2
        rw [← h1] at h3
        generalize 10 ^ (0 - P).toNat = A at *
        generalize 10 ^ l.length = B at *
        omega
    · by_cases hc : pB ≤ 1000
      · rw [if_pos hc] at hR
        subst hR
        have hd2 := stripL_dig hd
        have hc2 := val_core bl (x :: l) hd N hN hN1 _ (Int.not_lt.1 hp5)
        have hnn := vZ_nn bl hd2 _ (Int.not_lt.1 hp5)
        rw [show ((x :: l).length : Int) - b + (if dn = true then 0 - pR else pR) - ((x :: l).length : Int) = (if dn = true then 0 - pR else pR) - b by omega] at hc2
        rw [hc2]
        generalize hv : vZ bl (stripL (x :: l)) (((x :: l).length : Int) - b + if dn = true then 0 - pR else pR) = v at *
        have hd1 : decR bl (stripL (x :: l)) (((x :: l).length : Int) - b + if dn = true then 0 - pR else pR) = if v ≥ 4294967296 then .tup [.int .i64 0, .int .i64 2] else if bl = true then .tup [.int .i64 (0 - v), .int .i64 0] else .tup [.int .i64 v, .int .i64 0] := by
          unfold decR
          rw [if_neg (fun h => hp5 h.1), hv]
        rw [hd1]
        unfold outV
        by_cases hb : v ≥ 4294967296
        · rw [if_pos hb, if_pos (by cases bl <;> simp <;> omega)]
        · rw [if_neg hb]
          cases bl with
          | true =>
            simp only [if_true]
            rw [if_neg (by omega)]
          | false =>
            simp only [Bool.false_eq_true, if_false]
            rw [if_neg (by omega)]
      · rw [if_neg hc] at hR
        subst hR
        have hdn : dn = true := by
          cases dn with
          | true => rfl
          | false => simp only [Bool.false_eq_true, if_false] at hp5; omega
        subst hdn
        simp only [if_true] at hp5 ⊢
        have hv : vZ bl (stripL (x :: l)) (((x :: l).length : Int) - b + (0 - pB)) = 0 := by
          rw [vZ_W bl _ (by omega), show (((x :: l).length : Int) - b + (0 - pB) + 17).toNat = 0 by omega]
          simp only [preN]
          have : rndW bl (moreB (stripL (x :: l)) (((x :: l).length : Int) - b + (0 - pB))) (0 % 1525878906250) = 0 := if_neg (by simp)
          rw [this]; rfl
        have hd1 : decR bl (stripL (x :: l)) (((x :: l).length : Int) - b + (0 - pB)) = .tup [.int .i64 0, .int .i64 0] := by
          unfold decR
          rw [if_neg (fun h => hp5 h.1), hv, if_neg (by decide)]
          split <;> rfl
        rw [hd1]
        unfold refV
        refine (near_small _ _ _ (Nat.pow_pos (by decide)) ?_).symm
        unfold upM
        rw [show (0 - (1000 : Int) - b).toNat = 0 by omega, show (0 - (0 - (1000 : Int) - b)).toNat = 1000 + b by omega, Nat.pow_zero, Nat.mul_one]
        have h1 : 10 ^ (l.length + 1) * 10 ^ 6 ≤ 10 ^ (1000 + b) := by
          rw [← Nat.pow_add]; exact Nat.pow_le_pow_right (by decide) (by omega)
        have h6 : 10 ^ 6 = 1000000 := by decide
        rw [h6] at h1
        generalize 10 ^ (l.length + 1) = A at *
        generalize 10 ^ (1000 + b) = B at *
        omega
end Go.Proofs.YtelgbnjagbleoaaDoor
