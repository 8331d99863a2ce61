/- Products of 64 bits, and bits. Conditions: the bounds that each line names. -/
import Derived.Test.YtelgbnjagbleoaaDoorNum
import Derived.Test.YtelgbnjagbleoaaDoorAbsE
set_option linter.unusedSimpArgs false
set_option linter.unusedVariables false
set_option linter.deprecated false
namespace Go.Proofs.YtelgbnjagbleoaaDoor
open Go.Abs
theorem fdiv_is {a b c : Int} (h : b = c) (hc : 0 < c) : a.fdiv b = a / c := by subst h; exact Int.fdiv_eq_ediv_of_nonneg a (by omega)
theorem and_u64 {n : Int} (h1 : 0 ≤ n) : IntKind.wrap .u64 ((BitVec.ofInt (IntKind.bits .u64) n &&& BitVec.ofInt (IntKind.bits .u64) 4294967295).toNat : Int) = n % 4294967296 := by
  show IntKind.wrap .u64 ((BitVec.ofInt 64 n &&& BitVec.ofInt 64 4294967295).toNat : Int) = _
  rw [and_low 32 (by decide) n 4294967295 4294967296 (by decide) (by decide)]
  exact wrap_u64 (by omega) (by omega)
theorem prod_bound {x y b : Int} (hx : 0 ≤ x ∧ x ≤ b) (hy : 0 ≤ y ∧ y ≤ b) : 0 ≤ x * y ∧ x * y ≤ b * b :=
  ⟨Int.mul_nonneg hx.1 hy.1, Int.mul_le_mul hx.2 hy.2 hy.1 (by omega)⟩
theorem c_mul64 (x y : Int) (hx : U64 x) (hy : U64 y) : ACalls seat 33 [.int .u64 x, .int .u64 y] [] (fun r _ => r = .ret (.tup [.int .u64 (x * y / 18446744073709551616), .int .u64 (x * y % 18446744073709551616)])) := by
  refine ACalls.body seat_ok Tryd.func33 rfl rfl ?_
  obtain ⟨x1, x2⟩ := hx
  obtain ⟨y1, y2⟩ := hy
  have e : x * y = 18446744073709551616 * (x / 4294967296 * (y / 4294967296)) + 4294967296 * (x / 4294967296 * (y % 4294967296) + x % 4294967296 * (y / 4294967296)) + x % 4294967296 * (y % 4294967296) := by
    have h1 := Int.mul_ediv_add_emod x 4294967296
    have h2 := Int.mul_ediv_add_emod y 4294967296
    generalize x / 4294967296 = a at *
    generalize x % 4294967296 = b at *
    generalize y / 4294967296 = c at *
    generalize y % 4294967296 = d at *
    subst h1 h2; grind
  have p00 := prod_bound (b := 4294967295) (x := x % 4294967296) (y := y % 4294967296) (by omega) (by omega)
  have p01 := prod_bound (b := 4294967295) (x := x % 4294967296) (y := y / 4294967296) (by omega) (by omega)
  have p10 := prod_bound (b := 4294967295) (x := x / 4294967296) (y := y % 4294967296) (by omega) (by omega)
  have p11 := prod_bound (b := 4294967295) (x := x / 4294967296) (y := y / 4294967296) (by omega) (by omega)
  rw [show (4294967295 : Int) * 4294967295 = 18446744065119617025 by decide] at p00 p01 p10 p11
  conv => whnf
  repeat' (first | (refine WrapH.is _ (and_u64 (by omega)) ?_; conv => whnf) | (refine NumH.is _ (fdiv_is (c := 4294967296) rfl (by decide)) ?_; conv => whnf) | ((first | refine zq1 (by omega) ?_ | refine zq2 (by omega) ?_ | refine NumH.rem (by omega) ?_ | refine zq4 (by omega) ?_ | refine zq5 (by omega) ?_ | refine zq6 ?_ | refine Req.mk (by omega) ?_ | refine Req.mk (by dsimp only; omega) ?_ | refine Req.mk ⟨rfl, rfl, rfl, by simp [ci_length, *], rfl, by simp [okCell], by dsimp only; omega, by omega, by decide⟩ ?_ | refine Req.mk (show pendP _ _ by repeat' constructor) ?_ | (with_reducible refine brT ?_ ?_; next => assumption) | (with_reducible refine brF ?_ ?_; next => assumption) | (with_reducible refine brDT ?_ ?_; next => omega) | (with_reducible refine brDF ?_ ?_; next => omega) | (with_reducible refine brET ?_ ?_; next => omega) | (with_reducible refine brEF ?_ ?_; next => omega) | (with_reducible refine brNET ?_ ?_; next => omega) | (with_reducible refine brNEF ?_ ?_; next => omega) | with_reducible refine brNot ?_); conv => whnf))
  refine congrArg AEnd.ret (congrArg AV.tup (congrArg (fun v => [AV.int .u64 v, _]) ?_))
  generalize x / 4294967296 * (y / 4294967296) = q11 at *
  generalize x / 4294967296 * (y % 4294967296) = q10 at *
  generalize x % 4294967296 * (y / 4294967296) = q01 at *
  generalize x % 4294967296 * (y % 4294967296) = q00 at *
  omega
theorem or_add {a b : Nat} {k : Nat} (hb : b < 2 ^ k) : (2 ^ k * a) ||| b = 2 ^ k * a + b := (Nat.two_pow_add_eq_or_of_lt hb a).symm
theorem or_u64 {a b : Int} {k : Nat} (ha : 0 ≤ a) (hb : 0 ≤ b ∧ b < 2 ^ k) (hs : 2 ^ k * a + b < 18446744073709551616) : IntKind.wrap .u64 ((BitVec.ofInt (IntKind.bits .u64) (2 ^ k * a) ||| BitVec.ofInt (IntKind.bits .u64) b).toNat : Int) = 2 ^ k * a + b := by
  obtain ⟨x, rfl⟩ := Int.eq_ofNat_of_zero_le ha
  obtain ⟨y, rfl⟩ := Int.eq_ofNat_of_zero_le hb.1
  have hy : y < 2 ^ k := by have := hb.2; rw [show ((2 : Int) ^ k) = ((2 ^ k : Nat) : Int) by rw [Int.natCast_pow]; rfl] at this; exact Int.ofNat_lt.1 this
  have e1 : ((2 : Int) ^ k * (x : Int)) = ((2 ^ k * x : Nat) : Int) := by rw [Int.natCast_mul, Int.natCast_pow]; rfl
  have hlt : 2 ^ k * x + y < 18446744073709551616 := by rw [e1] at hs; omega
  show IntKind.wrap .u64 ((BitVec.ofInt 64 (2 ^ k * (x : Int)) ||| BitVec.ofInt 64 (y : Int)).toNat : Int) = _
  rw [e1, BitVec.ofInt_natCast, BitVec.ofInt_natCast, BitVec.toNat_or, BitVec.toNat_ofNat, BitVec.toNat_ofNat, Nat.mod_eq_of_lt (by omega), Nat.mod_eq_of_lt (by omega), or_add hy]
  exact wrap_u64 (by omega) (by omega)
theorem and_u64' {n : Int} : IntKind.wrap .u64 ((BitVec.ofInt (IntKind.bits .u64) n &&& BitVec.ofInt (IntKind.bits .u64) 4294967295).toNat : Int) = n % 4294967296 := by
  show IntKind.wrap .u64 ((BitVec.ofInt 64 n &&& BitVec.ofInt 64 4294967295).toNat : Int) = _
  rw [and_low 32 (by decide) n 4294967295 4294967296 (by decide) (by decide)]
  exact wrap_u64 (by omega) (by omega)
theorem wrap_u8 {n : Int} (h1 : 0 ≤ n) (h2 : n < 256) : IntKind.wrap .u8 n = n := by rw [wrap_u8m]; omega
set_option maxRecDepth 20000 in
theorem c_len17 : ACalls seat 42 [.int .u64 100000000000000000] [] (fun x _ => x = .ret (.int .i64 7)) := by
  refine ACalls.body seat_ok Tryd.func42 rfl rfl ?_
  conv => whnf
  refine CallH.body seat_ok Tryd.func47 rfl rfl ?_
  conv => whnf
  repeat' (first | exact rfl | (refine WrapH.is _ (wrap_u8 (by omega) (by omega)) ?_; conv => whnf) | (refine Req.mk ⟨by decide, by decide⟩ ?_; conv => whnf) | (refine ldI 1 rfl ?_; conv => whnf) | (refine WrapH.is (kd := .i64) (n := ((1 : UInt8).toNat : Int)) 1 rfl ?_; conv => whnf) | (refine NumH.is _ (fdiv_is (c := 4294967296) rfl (by decide)) ?_; conv => whnf) | (refine NumH.is _ (fdiv_is (c := 65536) rfl (by decide)) ?_; conv => whnf) | (refine NumH.is _ (fdiv_is (c := 256) rfl (by decide)) ?_; conv => whnf) | ((first | refine zq1 (by omega) ?_ | refine zq2 (by omega) ?_ | refine NumH.rem (by omega) ?_ | refine zq4 (by omega) ?_ | refine zq5 (by omega) ?_ | refine zq6 ?_ | refine Req.mk (by omega) ?_ | refine Req.mk (by dsimp only; omega) ?_ | refine Req.mk ⟨rfl, rfl, rfl, by simp [ci_length, *], rfl, by simp [okCell], by dsimp only; omega, by omega, by decide⟩ ?_ | refine Req.mk (show pendP _ _ by repeat' constructor) ?_ | (with_reducible refine brT ?_ ?_; next => assumption) | (with_reducible refine brF ?_ ?_; next => assumption) | (with_reducible refine brDT ?_ ?_; next => omega) | (with_reducible refine brDF ?_ ?_; next => omega) | (with_reducible refine brET ?_ ?_; next => omega) | (with_reducible refine brEF ?_ ?_; next => omega) | (with_reducible refine brNET ?_ ?_; next => omega) | (with_reducible refine brNEF ?_ ?_; next => omega) | with_reducible refine brNot ?_); conv => whnf))
end Go.Proofs.YtelgbnjagbleoaaDoor
