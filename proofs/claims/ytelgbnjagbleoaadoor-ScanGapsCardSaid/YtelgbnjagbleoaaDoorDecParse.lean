/- The program's value of a number's text. Conditions: the text is not too long. -/
import Derived.Test.YtelgbnjagbleoaaDoorDecRead2
import Derived.Test.YtelgbnjagbleoaaDoorDiv17
set_option linter.unusedSimpArgs false
set_option linter.unusedVariables false
set_option linter.deprecated false
namespace Go.Proofs.YtelgbnjagbleoaaDoor
open Go.Abs
def nmV (bl : Bool) (d : List Int) (p : Int) : AV := .agg [.bool bl, .vec (ci .u8 d) d.length none, .int .i64 p]
theorem nmV_closed (bl : Bool) (d : List Int) (p : Int) : Closed (nmV bl d p) := by simp [nmV, Closed, ClosedL, ci_closed]
def digZ (d : List Int) (p i : Int) : Int := if p + i - 1 < 0 ∨ d.length ≤ p + i - 1 then 0 else d[(p + i - 1).toNat]?.getD 0
theorem digZ_bd {d : List Int} (hd : ∀ x ∈ d, 0 ≤ x ∧ x ≤ 9) (p i : Int) : 0 ≤ digZ d p i ∧ digZ d p i ≤ 9 := by
  unfold digZ
  split
  · omega
  · rename_i h
    obtain ⟨x, hx⟩ : ∃ x, d[(p + i - 1).toNat]? = some x := ⟨_, List.getElem?_eq_getElem (by omega)⟩
    rw [hx]; exact hd x (List.mem_of_getElem? hx)
theorem c_digit (bl : Bool) (d : List Int) (p i : Int) (hd : ∀ x ∈ d, 0 ≤ x ∧ x ≤ 9) (hp : -4000000000000000000 ≤ p ∧ p ≤ 4000000000000000000) (hi : -100 ≤ i ∧ i ≤ 100) : ACalls seat 32 [nmV bl d p, .int .i64 i] [] (fun x _ => x = .ret (.int .u64 (digZ d p i))) := by
  refine ACalls.body seat_ok Tryd.func32 rfl rfl ?_
  unfold digZ
  by_cases g1 : p + i - 1 < 0
  · rw [if_pos (.inl g1)]
    conv => whnf
    repeat' ((first | refine zq1 (by omega) ?_ | refine zq2 (by omega) ?_ | refine NumH.rem (by omega) ?_ | refine zq4 (by omega) ?_ | refine zq5 (by omega) ?_ | refine zq6 ?_ | refine Req.mk (by omega) ?_ | refine Req.mk (by dsimp only; omega) ?_ | refine Req.mk ⟨rfl, rfl, rfl, by simp [ci_length, *], rfl, by simp [okCell], by dsimp only; omega, by omega, by decide⟩ ?_ | refine Req.mk (show pendP _ _ by repeat' constructor) ?_ | (with_reducible refine brT ?_ ?_; next => assumption) | (with_reducible refine brF ?_ ?_; next => assumption) | (with_reducible refine brDT ?_ ?_; next => omega) | (with_reducible refine brDF ?_ ?_; next => omega) | (with_reducible refine brET ?_ ?_; next => omega) | (with_reducible refine brEF ?_ ?_; next => omega) | (with_reducible refine brNET ?_ ?_; next => omega) | (with_reducible refine brNEF ?_ ?_; next => omega) | with_reducible refine brNot ?_); conv => whnf)
    rfl
  · by_cases g2 : (d.length : Int) ≤ p + i - 1
    · rw [if_pos (.inr g2)]
      conv => whnf
      repeat' ((first | refine zq1 (by omega) ?_ | refine zq2 (by omega) ?_ | refine NumH.rem (by omega) ?_ | refine zq4 (by omega) ?_ | refine zq5 (by omega) ?_ | refine zq6 ?_ | refine Req.mk (by omega) ?_ | refine Req.mk (by dsimp only; omega) ?_ | refine Req.mk ⟨rfl, rfl, rfl, by simp [ci_length, *], rfl, by simp [okCell], by dsimp only; omega, by omega, by decide⟩ ?_ | refine Req.mk (show pendP _ _ by repeat' constructor) ?_ | (with_reducible refine brT ?_ ?_; next => assumption) | (with_reducible refine brF ?_ ?_; next => assumption) | (with_reducible refine brDT ?_ ?_; next => omega) | (with_reducible refine brDF ?_ ?_; next => omega) | (with_reducible refine brET ?_ ?_; next => omega) | (with_reducible refine brEF ?_ ?_; next => omega) | (with_reducible refine brNET ?_ ?_; next => omega) | (with_reducible refine brNEF ?_ ?_; next => omega) | with_reducible refine brNot ?_); conv => whnf)
      rfl
    · rw [if_neg (by omega)]
      obtain ⟨x, hx⟩ : ∃ x, d[(p + i - 1).toNat]? = some x := ⟨_, List.getElem?_eq_getElem (by omega)⟩
      have hb := hd x (List.mem_of_getElem? hx)
      rw [hx]
      conv => whnf
      repeat' (first | exact rfl | (refine ldI _ (ci_sub .u8 hx) ?_; conv => whnf) | ((first | refine zq1 (by omega) ?_ | refine zq2 (by omega) ?_ | refine NumH.rem (by omega) ?_ | refine zq4 (by omega) ?_ | refine zq5 (by omega) ?_ | refine zq6 ?_ | refine Req.mk (by omega) ?_ | refine Req.mk (by dsimp only; omega) ?_ | refine Req.mk ⟨rfl, rfl, rfl, by simp [ci_length, *], rfl, by simp [okCell], by dsimp only; omega, by omega, by decide⟩ ?_ | refine Req.mk (show pendP _ _ by repeat' constructor) ?_ | (with_reducible refine brT ?_ ?_; next => assumption) | (with_reducible refine brF ?_ ?_; next => assumption) | (with_reducible refine brDT ?_ ?_; next => omega) | (with_reducible refine brDF ?_ ?_; next => omega) | (with_reducible refine brET ?_ ?_; next => omega) | (with_reducible refine brEF ?_ ?_; next => omega) | (with_reducible refine brNET ?_ ?_; next => omega) | (with_reducible refine brNEF ?_ ?_; next => omega) | with_reducible refine brNot ?_); conv => whnf))
def accZ (d : List Int) (p a : Int) : Nat → Int
  | 0 => 0
  | n + 1 => 10 * accZ d p a n + digZ d p (a + n)
theorem accZ_bd {d : List Int} (hd : ∀ x ∈ d, 0 ≤ x ∧ x ≤ 9) (p a : Int) : ∀ n : Nat, 0 ≤ accZ d p a n ∧ accZ d p a n < 10 ^ n
  | 0 => by simp [accZ]
  | n + 1 => by
    have := accZ_bd hd p a n
    have h2 := digZ_bd hd p (a + n)
    rw [Int.pow_succ]
    simp only [accZ]
    omega
theorem accZ17 {d : List Int} (hd : ∀ x ∈ d, 0 ≤ x ∧ x ≤ 9) (p a : Int) {n : Nat} (hn : n ≤ 17) : 0 ≤ accZ d p a n ∧ accZ d p a n < 100000000000000000 := by
  have h := accZ_bd hd p a n
  have h2 : (10 : Nat) ^ n ≤ 10 ^ 17 := Nat.pow_le_pow_right (by decide) hn
  have h3 : ((10 : Int) ^ n) = ((10 ^ n : Nat) : Int) := by rw [Int.natCast_pow]; rfl
  have h4 : ((10 : Nat) ^ 17) = 100000000000000000 := by decide
  omega
def moreB (d : List Int) (p : Int) : Bool := decide (0 < d.length) && decide (p + 17 < d.length)
def rndZ (bl more : Bool) (b : Int) : Int := if b * 65536 % 100000000000000000 > 50000000000000000 ∨ (b * 65536 % 100000000000000000 = 50000000000000000 ∧ (more = true ∨ bl = false)) then 1 else 0
def vZ (bl : Bool) (d : List Int) (p : Int) : Int := accZ d p (-4) 5 * 65536 + accZ d p 1 17 * 65536 / 100000000000000000 + rndZ bl (moreB d p) (accZ d p 1 17)
/-- the program's answer for a number -/
def decR (bl : Bool) (d : List Int) (p : Int) : AV := if p > 5 ∧ 0 < d.length then .tup [.int .i64 0, .int .i64 2] else if vZ bl d p ≥ 4294967296 then .tup [.int .i64 0, .int .i64 2] else if bl = true then .tup [.int .i64 (0 - vZ bl d p), .int .i64 0] else .tup [.int .i64 (vZ bl d p), .int .i64 0]
end Go.Proofs.YtelgbnjagbleoaaDoor
