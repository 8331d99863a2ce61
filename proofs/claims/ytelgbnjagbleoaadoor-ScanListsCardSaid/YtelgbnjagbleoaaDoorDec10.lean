/- Decimal digits of a number as bytes; a text's value by them. Plain arithmetic. Conditions: none. -/
import Derived.Test.YtelgbnjagbleoaaDoorDecTxt3
set_option linter.unusedSimpArgs false
set_option linter.unusedVariables false
set_option linter.deprecated false
namespace Go.Proofs.YtelgbnjagbleoaaDoor
open Go.Abs
def dgB (k : Nat) : UInt8 := UInt8.ofNat (48 + k)
theorem dgB_nat {k : Nat} (h : k < 10) : (dgB k).toNat = 48 + k := by unfold dgB; rw [UInt8.toNat_ofNat']; omega
theorem dgB_kind {k : Nat} (h : k < 10) : kindN (dgB k).toNat = 0 := by
  rw [dgB_nat h]; unfold kindN; rw [if_pos (by omega)]
def decD (n : Nat) : List UInt8 := if n < 10 then [dgB n] else decD (n / 10) ++ [dgB (n % 10)]
termination_by n
decreasing_by omega
theorem decD_lt {n : Nat} (h : n < 10) : decD n = [dgB n] := by rw [decD, if_pos h]
theorem decD_ge {n : Nat} (h : ¬ n < 10) : decD n = decD (n / 10) ++ [dgB (n % 10)] := by rw [decD, if_neg h]
theorem decD_dig : ∀ (n : Nat), digL (decD n) := by
  intro n
  induction n using Nat.strongRecOn with
  | ind n ih =>
    by_cases h : n < 10
    · rw [decD_lt h]; intro b hb; rw [List.mem_singleton.1 hb]; exact dgB_kind h
    · rw [decD_ge h]; intro b hb
      rcases List.mem_append.1 hb with hb | hb
      · exact ih _ (by omega) b hb
      · rw [List.mem_singleton.1 hb]; exact dgB_kind (by omega)
theorem decD_pos (n : Nat) : 0 < (decD n).length := by
  by_cases h : n < 10
  · rw [decD_lt h]; simp
  · rw [decD_ge h]; simp
theorem decD_len : ∀ (k n : Nat), n < 10 ^ (k + 1) → (decD n).length ≤ k + 1
  | 0, n, h => by rw [decD_lt (by simpa using h)]; simp
  | k + 1, n, h => by
    by_cases g : n < 10
    · rw [decD_lt g]; simp
    · rw [decD_ge g]
      have := decD_len k (n / 10) (by rw [Nat.pow_succ] at h; omega)
      simp; omega
/-- the number that digits tell -/
def valN (l : List UInt8) : Nat := l.foldl (fun a b => a * 10 + ((b.toNat : Int) - 48).toNat) 0
theorem valN_snoc (l : List UInt8) (b : UInt8) : valN (l ++ [b]) = valN l * 10 + ((b.toNat : Int) - 48).toNat := by unfold valN; rw [List.foldl_append]; rfl
theorem valN_decD : ∀ (n : Nat), valN (decD n) = n := by
  intro n
  induction n using Nat.strongRecOn with
  | ind n ih =>
    by_cases h : n < 10
    · rw [decD_lt h]; unfold valN; simp only [List.foldl_cons, List.foldl_nil]; rw [dgB_nat h]; omega
    · rw [decD_ge h, valN_snoc, ih _ (by omega), dgB_nat (by omega)]; omega
theorem valN_app (l : List UInt8) : ∀ (n : Nat) (m : List UInt8), m.length = n → valN (l ++ m) = valN l * 10 ^ m.length + valN m
  | 0, m, h => by
    obtain rfl := List.length_eq_zero_iff.1 h
    simp [valN]
  | n + 1, m, h => by
    have hne : m ≠ [] := by intro h2; rw [h2] at h; simp at h
    have e := (List.dropLast_concat_getLast hne).symm
    have hl : m.dropLast.length = n := by rw [List.length_dropLast]; omega
    have ih := valN_app l n _ hl
    rw [e, ← List.append_assoc, valN_snoc, valN_snoc, ih, List.length_append, List.length_singleton, Nat.pow_succ, Nat.add_mul, Nat.mul_assoc]
    omega
theorem valN_rep (k : Nat) : valN (List.replicate k 48) = 0 := by
  induction k with
  | zero => rfl
  | succ k ih => rw [List.replicate_succ', valN_snoc, ih]; rfl
theorem digL_app {l m : List UInt8} (h : digL l) (k : digL m) : digL (l ++ m) := fun b hb => by
  rcases List.mem_append.1 hb with hb | hb
  · exact h b hb
  · exact k b hb
theorem digL_rep (k : Nat) : digL (List.replicate k 48) := fun b hb => by rw [List.eq_of_mem_replicate hb]; decide
theorem digL_drop {l : List UInt8} (h : digL l) (n : Nat) : digL (l.drop n) := fun b hb => h b (List.mem_of_mem_drop hb)
theorem rFold_dig : ∀ (n : Nat) (l : List UInt8) (N b : Nat) (pt : Bool), l.length = n → digL l → l.foldl rStep (N, b, pt) = (N * 10 ^ n + valN l, if pt = true then b + n else b, pt)
  | 0, l, N, b, pt, h, _ => by
    obtain rfl := List.length_eq_zero_iff.1 h
    cases pt <;> simp [valN]
  | n + 1, l, N, b, pt, h, hk => by
    have hne : l ≠ [] := by intro h2; rw [h2] at h; simp at h
    have e := (List.dropLast_concat_getLast hne).symm
    have hl : l.dropLast.length = n := by rw [List.length_dropLast]; omega
    have ih := rFold_dig n _ N b pt hl (fun c h => hk c (List.dropLast_subset _ h))
    have h1 := hk _ (List.getLast_mem hne)
    rw [e, List.foldl_append, ih, List.foldl_cons, List.foldl_nil, valN_snoc]
    unfold rStep
    rw [if_neg (by omega)]
    simp only [Prod.mk.injEq, and_true]
    refine ⟨by rw [Nat.pow_succ, Nat.add_mul, Nat.mul_assoc]; omega, ?_⟩
    cases pt <;> simp <;> omega
theorem txtN_val {A : List UInt8} {B : Option (List UInt8)} (hA : digL A) (hB : digL (B.getD [])) : txtN A B = valN (A ++ B.getD []) ∧ (rFold (A ++ dotL B)).2.1 = (B.getD []).length := by
  have hr := rFold_dig _ A 0 0 false rfl hA
  unfold txtN rFold
  rw [List.foldl_append, hr]
  cases B with
  | none => simp [dotL]
  | some B =>
    simp only [Option.getD_some] at hB
    simp only [dotL, List.foldl_cons, Option.getD_some]
    rw [show rStep (0 * 10 ^ A.length + valN A, (if false = true then 0 + A.length else 0), false) 46 = (valN A, 0, true) by unfold rStep; rw [if_pos (by decide)]; simp]
    rw [rFold_dig _ B _ _ _ rfl hB, valN_app _ _ _ rfl]
    simp
theorem powF_val : ∀ (n : Nat) (C : List UInt8), C.length = n → digL C → valN C ≤ 1000 → powF 1000 0 C = valN C
  | 0, C, h, _, _ => by
    obtain rfl := List.length_eq_zero_iff.1 h
    simp [powF, valN]
  | n + 1, C, h, hk, hv => by
    have hne : C ≠ [] := by intro h2; rw [h2] at h; simp at h
    have e := (List.dropLast_concat_getLast hne).symm
    have hl : C.dropLast.length = n := by rw [List.length_dropLast]; omega
    have h0 := kindN_cases (C.getLast hne).toNat
    have h1 := hk _ (List.getLast_mem hne)
    rw [e, valN_snoc] at hv
    have ih := powF_val n _ hl (fun c h => hk c (List.dropLast_subset _ h)) (by omega)
    rw [e, powF_snoc, valN_snoc, ih]
    generalize valN C.dropLast = x at *
    generalize C.getLast hne = c at *
    rw [if_neg (by omega)]
    omega
/-- noughts behind make no difference -/
theorem refV_scale (bl : Bool) (N k : Nat) (P : Int) (hP : P ≤ 0) : refV bl (N * 10 ^ k) (P - k) = refV bl N P := by
  have e1 : upM (N * 10 ^ k) (P - k) = upM N P * 10 ^ k := by
    unfold upM
    rw [show (P - (k : Int)).toNat = 0 by omega, show P.toNat = 0 by omega, Nat.pow_zero, Nat.mul_one, Nat.mul_one, Nat.mul_assoc, Nat.mul_comm (10 ^ k), ← Nat.mul_assoc]
  have e2 : dnM (P - k) = dnM P * 10 ^ k := by
    unfold dnM
    rw [← Nat.pow_add]; congr 1; omega
  have hp : 0 < 10 ^ k := Nat.pow_pos (by decide)
  have hD : 0 < dnM P := Nat.pow_pos (by decide)
  have e3 : decide (0 < upM N P * 10 ^ k) = decide (0 < upM N P) := decide_eq_decide.2 ⟨fun h => Nat.pos_of_ne_zero (fun h0 => by rw [h0, Nat.zero_mul] at h; exact absurd h (Nat.lt_irrefl 0)), fun h => Nat.mul_pos h hp⟩
  unfold refV
  rw [e1, e2, e3, nearM_spec _ _ _ (Nat.mul_pos hD hp), nearM_spec _ _ _ hD]
  generalize (bl && decide (0 < upM N P)) = s
  have e4 : sg s (upM N P * 10 ^ k) = sg s (upM N P) * ((10 ^ k : Nat) : Int) := by cases s <;> simp [sg, Int.neg_mul]
  rw [e4, Int.natCast_mul, ← Int.mul_assoc, ← Int.add_mul, ← Int.mul_assoc]
  exact Int.mul_ediv_mul_of_pos_left _ _ (by omega)
end Go.Proofs.YtelgbnjagbleoaaDoor
