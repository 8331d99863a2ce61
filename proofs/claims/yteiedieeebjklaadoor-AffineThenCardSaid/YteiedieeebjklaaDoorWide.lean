/- Numbers of 128 bits (wide): contracts. No condition. -/
import Derived.Test.YteiedieeebjklaaDoorSeat
import Derived.Test.YteiedieeebjklaaDoorBase
import Derived.Laws.Externs
set_option linter.unusedSimpArgs false
set_option linter.unusedVariables false
set_option linter.deprecated false
namespace Go.Proofs.YteiedieeebjklaaDoor
open Go Go.Abs

/-- a number's 128 bits -/
def bg (z : Int) : AV := .agg [.int .u64 (z / 18446744073709551616 % 18446744073709551616), .int .u64 (z % 18446744073709551616)]
theorem bg_closed (z : Int) : Closed (bg z) := by simp [bg, Closed, ClosedL]
theorem bg_eq {h l z : Int} (hh : h = z / 18446744073709551616 % 18446744073709551616) (hl : l = z % 18446744073709551616) : AV.agg [.int .u64 h, .int .u64 l] = bg z := by rw [hh, hl]; rfl
theorem fdiv_is {a b c : Int} (h : b = c) (hc : 0 < c) : a.fdiv b = a / c := by subst h; exact Int.fdiv_eq_ediv_of_nonneg a (by omega)

theorem c_add64 (x y c : Int) (hx : 0 ≤ x) (hy : 0 ≤ y) (hc : 0 ≤ c ∧ c ≤ 1) : ACalls seat 50 [.int .u64 x, .int .u64 y, .int .u64 c] [] (fun r _ => r = .ret (.tup [.int .u64 ((x + y + c) % 18446744073709551616), .int .u64 ((x + y + c) / 18446744073709551616)])) := by
  intro E w args' hm hn hr ha
  simp only [VRL, VR] at ha
  obtain ⟨_, _, rfl, rfl, _, _, rfl, rfl, _, _, rfl, rfl, rfl⟩ := ha
  refine .inr ⟨.tuple #[.int .u64 ((x + y + c) % 18446744073709551616), .int .u64 ((x + y + c) / 18446744073709551616)], w, ?_, E, [], .ret (.tup [.int .u64 ((x + y + c) % 18446744073709551616), .int .u64 ((x + y + c) / 18446744073709551616)]), Ext.refl E, hm, hr, ⟨_, rfl, ?_⟩, rfl⟩
  · show (callFunc 50 #[.int .u64 x, .int .u64 y, .int .u64 c]).run Tryd.prog w = _
    rw [run_callFunc_extern Tryd.func50 (by kernel_rfl) (by kernel_rfl) (by kernel_rfl) (e := add64Entry) (by kernel_rfl), run_add64 x y c hx hy hc.1 hc.2]
    rfl
  · simp only [VR]; exact ⟨_, rfl, by simp [VRL, VR]⟩

theorem c_wof (a : Int) (ha : I64 a) : ACalls seat 41 [.int .i64 a] [] (fun x _ => x = .ret (bg a)) := by
  refine ACalls.body seat_ok Tryd.func41 rfl rfl ?_
  obtain ⟨h1, h2⟩ := ha
  conv => whnf
  repeat' (first | (refine WrapH.quo (by omega) (by omega) (by omega) ?_; conv => whnf) | (refine WrapH.quoU (by omega) (by omega) (by omega) ?_; conv => whnf) | (refine NumH.rem (by omega) ?_; conv => whnf) | (refine WrapH.is _ (wrap_i64 (by omega) (by omega)) ?_; conv => whnf) | (refine WrapH.is _ (wrap_u64 (by omega) (by omega)) ?_; conv => whnf) | (refine WrapH.is _ wrap_u64m ?_; conv => whnf) | (refine Req.mk (by omega) ?_; conv => whnf) | (refine Req.mk (by dsimp only; omega) ?_; conv => whnf) | (refine Req.mk ⟨rfl, rfl, rfl, by simp [ci_length, *], rfl, by simp [okCell], by dsimp only; omega, by omega, by decide⟩ ?_; conv => whnf) | (refine Req.mk (show pendP _ _ by repeat' constructor) ?_; conv => whnf) | ((with_reducible refine brT ?_ ?_); (next => assumption); (conv => whnf)) | ((with_reducible refine brF ?_ ?_); (next => assumption); (conv => whnf)) | ((with_reducible refine brDT ?_ ?_); (next => omega); (conv => whnf)) | ((with_reducible refine brDF ?_ ?_); (next => omega); (conv => whnf)) | ((with_reducible refine brET ?_ ?_); (next => omega); (conv => whnf)) | ((with_reducible refine brEF ?_ ?_); (next => omega); (conv => whnf)) | ((with_reducible refine brNET ?_ ?_); (next => omega); (conv => whnf)) | ((with_reducible refine brNEF ?_ ?_); (next => omega); (conv => whnf)) | (with_reducible refine brNot ?_))
  refine NumH.is (a / 9223372036854775808) (fdiv_is rfl (by decide)) ?_
  conv => whnf
  repeat' (first | (refine WrapH.quo (by omega) (by omega) (by omega) ?_; conv => whnf) | (refine WrapH.quoU (by omega) (by omega) (by omega) ?_; conv => whnf) | (refine NumH.rem (by omega) ?_; conv => whnf) | (refine WrapH.is _ (wrap_i64 (by omega) (by omega)) ?_; conv => whnf) | (refine WrapH.is _ (wrap_u64 (by omega) (by omega)) ?_; conv => whnf) | (refine WrapH.is _ wrap_u64m ?_; conv => whnf) | (refine Req.mk (by omega) ?_; conv => whnf) | (refine Req.mk (by dsimp only; omega) ?_; conv => whnf) | (refine Req.mk ⟨rfl, rfl, rfl, by simp [ci_length, *], rfl, by simp [okCell], by dsimp only; omega, by omega, by decide⟩ ?_; conv => whnf) | (refine Req.mk (show pendP _ _ by repeat' constructor) ?_; conv => whnf) | ((with_reducible refine brT ?_ ?_); (next => assumption); (conv => whnf)) | ((with_reducible refine brF ?_ ?_); (next => assumption); (conv => whnf)) | ((with_reducible refine brDT ?_ ?_); (next => omega); (conv => whnf)) | ((with_reducible refine brDF ?_ ?_); (next => omega); (conv => whnf)) | ((with_reducible refine brET ?_ ?_); (next => omega); (conv => whnf)) | ((with_reducible refine brEF ?_ ?_); (next => omega); (conv => whnf)) | ((with_reducible refine brNET ?_ ?_); (next => omega); (conv => whnf)) | ((with_reducible refine brNEF ?_ ?_); (next => omega); (conv => whnf)) | (with_reducible refine brNot ?_))
  exact congrArg AEnd.ret (bg_eq (by omega) (by omega))

theorem c_below (z : Int) (hz : -170141183460469231731687303715884105728 ≤ z ∧ z < 170141183460469231731687303715884105728) : ACalls seat 52 [bg z] [] (fun x _ => x = .ret (.bool (decide (z < 0)))) := by
  refine ACalls.body seat_ok Tryd.func52 rfl rfl ?_
  conv => whnf
  repeat' (first | (refine WrapH.quo (by omega) (by omega) (by omega) ?_; conv => whnf) | (refine WrapH.quoU (by omega) (by omega) (by omega) ?_; conv => whnf) | (refine NumH.rem (by omega) ?_; conv => whnf) | (refine WrapH.is _ (wrap_i64 (by omega) (by omega)) ?_; conv => whnf) | (refine WrapH.is _ (wrap_u64 (by omega) (by omega)) ?_; conv => whnf) | (refine WrapH.is _ wrap_u64m ?_; conv => whnf) | (refine Req.mk (by omega) ?_; conv => whnf) | (refine Req.mk (by dsimp only; omega) ?_; conv => whnf) | (refine Req.mk ⟨rfl, rfl, rfl, by simp [ci_length, *], rfl, by simp [okCell], by dsimp only; omega, by omega, by decide⟩ ?_; conv => whnf) | (refine Req.mk (show pendP _ _ by repeat' constructor) ?_; conv => whnf) | ((with_reducible refine brT ?_ ?_); (next => assumption); (conv => whnf)) | ((with_reducible refine brF ?_ ?_); (next => assumption); (conv => whnf)) | ((with_reducible refine brDT ?_ ?_); (next => omega); (conv => whnf)) | ((with_reducible refine brDF ?_ ?_); (next => omega); (conv => whnf)) | ((with_reducible refine brET ?_ ?_); (next => omega); (conv => whnf)) | ((with_reducible refine brEF ?_ ?_); (next => omega); (conv => whnf)) | ((with_reducible refine brNET ?_ ?_); (next => omega); (conv => whnf)) | ((with_reducible refine brNEF ?_ ?_); (next => omega); (conv => whnf)) | (with_reducible refine brNot ?_))
  refine NumH.is (z / 18446744073709551616 % 18446744073709551616 / 9223372036854775808) (fdiv_is rfl (by decide)) ?_
  conv => whnf
  repeat' (first | (refine WrapH.quo (by omega) (by omega) (by omega) ?_; conv => whnf) | (refine WrapH.quoU (by omega) (by omega) (by omega) ?_; conv => whnf) | (refine NumH.rem (by omega) ?_; conv => whnf) | (refine WrapH.is _ (wrap_i64 (by omega) (by omega)) ?_; conv => whnf) | (refine WrapH.is _ (wrap_u64 (by omega) (by omega)) ?_; conv => whnf) | (refine WrapH.is _ wrap_u64m ?_; conv => whnf) | (refine Req.mk (by omega) ?_; conv => whnf) | (refine Req.mk (by dsimp only; omega) ?_; conv => whnf) | (refine Req.mk ⟨rfl, rfl, rfl, by simp [ci_length, *], rfl, by simp [okCell], by dsimp only; omega, by omega, by decide⟩ ?_; conv => whnf) | (refine Req.mk (show pendP _ _ by repeat' constructor) ?_; conv => whnf) | ((with_reducible refine brT ?_ ?_); (next => assumption); (conv => whnf)) | ((with_reducible refine brF ?_ ?_); (next => assumption); (conv => whnf)) | ((with_reducible refine brDT ?_ ?_); (next => omega); (conv => whnf)) | ((with_reducible refine brDF ?_ ?_); (next => omega); (conv => whnf)) | ((with_reducible refine brET ?_ ?_); (next => omega); (conv => whnf)) | ((with_reducible refine brEF ?_ ?_); (next => omega); (conv => whnf)) | ((with_reducible refine brNET ?_ ?_); (next => omega); (conv => whnf)) | ((with_reducible refine brNEF ?_ ?_); (next => omega); (conv => whnf)) | (with_reducible refine brNot ?_))
  refine congrArg AEnd.ret (congrArg AV.bool ?_)
  rw [Bool.eq_iff_iff]; simp; omega

theorem c_wadd (x y : Int) : ACalls seat 38 [bg x, bg y] [] (fun r _ => r = .ret (bg (x + y))) := by
  refine ACalls.body seat_ok Tryd.func38 rfl rfl ?_
  conv => whnf
  refine CallH.lift seat_g (c_add64 _ _ _ (by omega) (by omega) (by omega)) (by simp [ClosedL, Closed]) (by simp [ClosedL, Closed]) ?_
  conv => whnf
  refine CallH.lift seat_g (c_add64 _ _ _ (by omega) (by omega) (by omega)) (by simp [ClosedL, Closed]) (by simp [ClosedL, Closed]) ?_
  conv => whnf
  exact congrArg AEnd.ret (bg_eq (by omega) (by omega))

theorem xor_u64 {n : Int} (h1 : 0 ≤ n) (h2 : n < 18446744073709551616) : IntKind.wrap .u64 ((BitVec.ofInt (IntKind.bits .u64) (IntKind.max .u64) ^^^ BitVec.ofInt (IntKind.bits .u64) n).toNat : Int) = 18446744073709551615 - n := by
  have e : (BitVec.ofInt 64 18446744073709551615 ^^^ BitVec.ofInt 64 n) = ~~~ BitVec.ofInt 64 n := by
    have : BitVec.ofInt 64 18446744073709551615 = BitVec.allOnes 64 := by decide
    rw [this, BitVec.allOnes_xor]
  show IntKind.wrap .u64 ((BitVec.ofInt 64 18446744073709551615 ^^^ BitVec.ofInt 64 n).toNat : Int) = _
  rw [e, BitVec.toNat_not, BitVec.toNat_ofInt, wrap_u64m]
  have : n % ((2 ^ 64 : Nat) : Int) = n := Int.emod_eq_of_lt h1 (by simpa using h2)
  rw [this]; omega

theorem c_wminus (z : Int) : ACalls seat 49 [bg z] [] (fun r _ => r = .ret (bg (-z))) := by
  refine ACalls.body seat_ok Tryd.func49 rfl rfl ?_
  conv => whnf
  refine WrapH.is _ (xor_u64 (by omega) (by omega)) ?_
  conv => whnf
  refine WrapH.is _ (xor_u64 (by omega) (by omega)) ?_
  conv => whnf
  have e1 : AV.agg [.int .u64 (18446744073709551615 - z / 18446744073709551616 % 18446744073709551616), .int .u64 (18446744073709551615 - z % 18446744073709551616)] = bg (-z - 1) := bg_eq (by omega) (by omega)
  have e2 : AV.agg [.int .u64 0, .int .u64 1] = bg 1 := bg_eq (by omega) (by omega)
  have hc := c_wadd (-z - 1) 1
  rw [show -z - 1 + 1 = -z by omega, ← e1, ← e2] at hc
  refine CallH.lift seat_g hc (by simp [ClosedL, Closed]) (bg_closed _) ?_
  conv => whnf
  rfl

theorem c_wsize (z : Int) (hz : -170141183460469231731687303715884105728 ≤ z ∧ z < 170141183460469231731687303715884105728) : ACalls seat 47 [bg z] [] (fun r _ => r = .ret (bg z.natAbs)) := by
  refine ACalls.body seat_ok Tryd.func47 rfl rfl ?_
  conv => whnf
  refine CallH.lift seat_g (c_below z hz) ⟨bg_closed _, trivial⟩ (by simp [Closed]) ?_
  by_cases h : z < 0
  · conv => whnf
    repeat' (first | (refine WrapH.quo (by omega) (by omega) (by omega) ?_; conv => whnf) | (refine WrapH.quoU (by omega) (by omega) (by omega) ?_; conv => whnf) | (refine NumH.rem (by omega) ?_; conv => whnf) | (refine WrapH.is _ (wrap_i64 (by omega) (by omega)) ?_; conv => whnf) | (refine WrapH.is _ (wrap_u64 (by omega) (by omega)) ?_; conv => whnf) | (refine WrapH.is _ wrap_u64m ?_; conv => whnf) | (refine Req.mk (by omega) ?_; conv => whnf) | (refine Req.mk (by dsimp only; omega) ?_; conv => whnf) | (refine Req.mk ⟨rfl, rfl, rfl, by simp [ci_length, *], rfl, by simp [okCell], by dsimp only; omega, by omega, by decide⟩ ?_; conv => whnf) | (refine Req.mk (show pendP _ _ by repeat' constructor) ?_; conv => whnf) | ((with_reducible refine brT ?_ ?_); (next => assumption); (conv => whnf)) | ((with_reducible refine brF ?_ ?_); (next => assumption); (conv => whnf)) | ((with_reducible refine brDT ?_ ?_); (next => omega); (conv => whnf)) | ((with_reducible refine brDF ?_ ?_); (next => omega); (conv => whnf)) | ((with_reducible refine brET ?_ ?_); (next => omega); (conv => whnf)) | ((with_reducible refine brEF ?_ ?_); (next => omega); (conv => whnf)) | ((with_reducible refine brNET ?_ ?_); (next => omega); (conv => whnf)) | ((with_reducible refine brNEF ?_ ?_); (next => omega); (conv => whnf)) | (with_reducible refine brNot ?_))
    refine CallH.lift seat_g (c_wminus z) ⟨bg_closed _, trivial⟩ (bg_closed _) ?_
    conv => whnf
    rw [show ((z.natAbs : Nat) : Int) = -z by omega]; rfl
  · conv => whnf
    repeat' (first | (refine WrapH.quo (by omega) (by omega) (by omega) ?_; conv => whnf) | (refine WrapH.quoU (by omega) (by omega) (by omega) ?_; conv => whnf) | (refine NumH.rem (by omega) ?_; conv => whnf) | (refine WrapH.is _ (wrap_i64 (by omega) (by omega)) ?_; conv => whnf) | (refine WrapH.is _ (wrap_u64 (by omega) (by omega)) ?_; conv => whnf) | (refine WrapH.is _ wrap_u64m ?_; conv => whnf) | (refine Req.mk (by omega) ?_; conv => whnf) | (refine Req.mk (by dsimp only; omega) ?_; conv => whnf) | (refine Req.mk ⟨rfl, rfl, rfl, by simp [ci_length, *], rfl, by simp [okCell], by dsimp only; omega, by omega, by decide⟩ ?_; conv => whnf) | (refine Req.mk (show pendP _ _ by repeat' constructor) ?_; conv => whnf) | ((with_reducible refine brT ?_ ?_); (next => assumption); (conv => whnf)) | ((with_reducible refine brF ?_ ?_); (next => assumption); (conv => whnf)) | ((with_reducible refine brDT ?_ ?_); (next => omega); (conv => whnf)) | ((with_reducible refine brDF ?_ ?_); (next => omega); (conv => whnf)) | ((with_reducible refine brET ?_ ?_); (next => omega); (conv => whnf)) | ((with_reducible refine brEF ?_ ?_); (next => omega); (conv => whnf)) | ((with_reducible refine brNET ?_ ?_); (next => omega); (conv => whnf)) | ((with_reducible refine brNEF ?_ ?_); (next => omega); (conv => whnf)) | (with_reducible refine brNot ?_))
    rw [show ((z.natAbs : Nat) : Int) = z by omega]; rfl

theorem and_u64 {n : Int} (h1 : 0 ≤ n) : IntKind.wrap .u64 ((BitVec.ofInt (IntKind.bits .u64) n &&& BitVec.ofInt (IntKind.bits .u64) 4294967295).toNat : Int) = n % 4294967296 := by
  show IntKind.wrap .u64 ((BitVec.ofInt 64 n &&& BitVec.ofInt 64 4294967295).toNat : Int) = _
  rw [and_low 32 (by decide) n 4294967295 4294967296 (by decide) (by decide)]
  exact wrap_u64 (by omega) (by omega)
theorem prod_bound {x y b : Int} (hx : 0 ≤ x ∧ x ≤ b) (hy : 0 ≤ y ∧ y ≤ b) : 0 ≤ x * y ∧ x * y ≤ b * b :=
  ⟨Int.mul_nonneg hx.1 hy.1, Int.mul_le_mul hx.2 hy.2 hy.1 (by omega)⟩

theorem c_mul64 (x y : Int) (hx : U64 x) (hy : U64 y) : ACalls seat 48 [.int .u64 x, .int .u64 y] [] (fun r _ => r = .ret (.tup [.int .u64 (x * y / 18446744073709551616), .int .u64 (x * y % 18446744073709551616)])) := by
  refine ACalls.body seat_ok Tryd.func48 rfl rfl ?_
  obtain ⟨x1, x2⟩ := hx
  obtain ⟨y1, y2⟩ := hy
  have e : x * y = 18446744073709551616 * (x / 4294967296 * (y / 4294967296)) + 4294967296 * (x / 4294967296 * (y % 4294967296) + x % 4294967296 * (y / 4294967296)) + x % 4294967296 * (y % 4294967296) := by
    have h1 := Int.mul_ediv_add_emod x 4294967296
    have h2 := Int.mul_ediv_add_emod y 4294967296
    generalize x / 4294967296 = a at *
    generalize x % 4294967296 = b at *
    generalize y / 4294967296 = c at *
    generalize y % 4294967296 = d at *
    subst h1 h2; grind
  have p00 := prod_bound (b := 4294967295) (x := x % 4294967296) (y := y % 4294967296) (by omega) (by omega)
  have p01 := prod_bound (b := 4294967295) (x := x % 4294967296) (y := y / 4294967296) (by omega) (by omega)
  have p10 := prod_bound (b := 4294967295) (x := x / 4294967296) (y := y % 4294967296) (by omega) (by omega)
  have p11 := prod_bound (b := 4294967295) (x := x / 4294967296) (y := y / 4294967296) (by omega) (by omega)
  rw [show (4294967295 : Int) * 4294967295 = 18446744065119617025 by decide] at p00 p01 p10 p11
  conv => whnf
  repeat' (first | (refine WrapH.is _ (and_u64 (by omega)) ?_; conv => whnf) | (refine NumH.is _ (fdiv_is (c := 4294967296) rfl (by decide)) ?_; conv => whnf) | (first | (refine WrapH.quo (by omega) (by omega) (by omega) ?_; conv => whnf) | (refine WrapH.quoU (by omega) (by omega) (by omega) ?_; conv => whnf) | (refine NumH.rem (by omega) ?_; conv => whnf) | (refine WrapH.is _ (wrap_i64 (by omega) (by omega)) ?_; conv => whnf) | (refine WrapH.is _ (wrap_u64 (by omega) (by omega)) ?_; conv => whnf) | (refine WrapH.is _ wrap_u64m ?_; conv => whnf) | (refine Req.mk (by omega) ?_; conv => whnf) | (refine Req.mk (by dsimp only; omega) ?_; conv => whnf) | (refine Req.mk ⟨rfl, rfl, rfl, by simp [ci_length, *], rfl, by simp [okCell], by dsimp only; omega, by omega, by decide⟩ ?_; conv => whnf) | (refine Req.mk (show pendP _ _ by repeat' constructor) ?_; conv => whnf) | ((with_reducible refine brT ?_ ?_); (next => assumption); (conv => whnf)) | ((with_reducible refine brF ?_ ?_); (next => assumption); (conv => whnf)) | ((with_reducible refine brDT ?_ ?_); (next => omega); (conv => whnf)) | ((with_reducible refine brDF ?_ ?_); (next => omega); (conv => whnf)) | ((with_reducible refine brET ?_ ?_); (next => omega); (conv => whnf)) | ((with_reducible refine brEF ?_ ?_); (next => omega); (conv => whnf)) | ((with_reducible refine brNET ?_ ?_); (next => omega); (conv => whnf)) | ((with_reducible refine brNEF ?_ ?_); (next => omega); (conv => whnf)) | (with_reducible refine brNot ?_)))
  refine congrArg AEnd.ret (congrArg AV.tup (congrArg (fun v => [AV.int .u64 v, _]) ?_))
  generalize x / 4294967296 * (y / 4294967296) = q11 at *
  generalize x / 4294967296 * (y % 4294967296) = q10 at *
  generalize x % 4294967296 * (y / 4294967296) = q01 at *
  generalize x % 4294967296 * (y % 4294967296) = q00 at *
  omega

theorem natAbs_prod (a b : Int) : ((a.natAbs : Int) * (b.natAbs : Int)) = if (a < 0) = (b < 0) then a * b else -(a * b) := by
  by_cases h1 : a < 0 <;> by_cases h2 : b < 0
  · rw [show (a.natAbs : Int) = -a by omega, show (b.natAbs : Int) = -b by omega, Int.neg_mul_neg]; simp [h1, h2]
  · rw [show (a.natAbs : Int) = -a by omega, show (b.natAbs : Int) = b by omega, Int.neg_mul]; simp [h1, h2]
  · rw [show (a.natAbs : Int) = a by omega, show (b.natAbs : Int) = -b by omega, Int.mul_neg]; simp [h1, h2]
  · rw [show (a.natAbs : Int) = a by omega, show (b.natAbs : Int) = b by omega]; simp [h1, h2]

set_option maxRecDepth 100000 in
theorem c_times (a b : Int) (ha : I64 a) (hb : I64 b) : ACalls seat 37 [.int .i64 a, .int .i64 b] [] (fun r _ => r = .ret (bg (a * b))) := by
  refine ACalls.body seat_ok Tryd.func37 rfl rfl ?_
  have ha' := ha
  have hb' := hb
  obtain ⟨a1, a2⟩ := ha
  obtain ⟨b1, b2⟩ := hb
  have e := natAbs_prod a b
  have p := prod_bound (b := 9223372036854775808) (x := (a.natAbs : Int)) (y := (b.natAbs : Int)) (by omega) (by omega)
  have ea : (a.natAbs : Int) % 18446744073709551616 = a.natAbs := by omega
  have eb : (b.natAbs : Int) % 18446744073709551616 = b.natAbs := by omega
  have ebg : AV.agg [.int .u64 (((a.natAbs : Int) % 18446744073709551616) * ((b.natAbs : Int) % 18446744073709551616) / 18446744073709551616), .int .u64 (((a.natAbs : Int) % 18446744073709551616) * ((b.natAbs : Int) % 18446744073709551616) % 18446744073709551616)] = bg ((a.natAbs : Int) * (b.natAbs : Int)) := by
    rw [ea, eb]; exact bg_eq (by omega) rfl
  have hm := c_wminus ((a.natAbs : Int) * (b.natAbs : Int))
  rw [← ebg] at hm
  have hc0 : Closed (AV.agg [.int .u64 (((a.natAbs : Int) % 18446744073709551616) * ((b.natAbs : Int) % 18446744073709551616) / 18446744073709551616), .int .u64 (((a.natAbs : Int) % 18446744073709551616) * ((b.natAbs : Int) % 18446744073709551616) % 18446744073709551616)]) := by simp [Closed, ClosedL]
  conv => whnf
  refine CallH.lift seat_g (c_wof a ha') (by simp [ClosedL, Closed]) (bg_closed _) ?_
  conv => whnf
  refine CallH.lift seat_g (c_wsize a (by omega)) ⟨bg_closed _, trivial⟩ (bg_closed _) ?_
  conv => whnf
  refine CallH.lift seat_g (c_wof b hb') (by simp [ClosedL, Closed]) (bg_closed _) ?_
  conv => whnf
  refine CallH.lift seat_g (c_wsize b (by omega)) ⟨bg_closed _, trivial⟩ (bg_closed _) ?_
  conv => whnf
  refine CallH.lift seat_g (c_mul64 _ _ ⟨by omega, by omega⟩ ⟨by omega, by omega⟩) (by simp [ClosedL, Closed]) (by simp [ClosedL, Closed]) ?_
  conv => whnf
  refine brNot ?_
  by_cases h1 : a < 0 <;> by_cases h2 : b < 0
  · refine brT (by simp [h1, h2]) ?_
    conv => whnf
    refine congrArg AEnd.ret (ebg.trans ?_)
    rw [e]; simp [h1, h2]
  · refine brF (by simp [h1, h2]) ?_
    conv => whnf
    refine CallH.lift seat_g hm ⟨hc0, trivial⟩ (bg_closed _) ?_
    conv => whnf
    rw [e]; simp [h1, h2]; rfl
  · refine brF (by simp [h1, h2]) ?_
    conv => whnf
    refine CallH.lift seat_g hm ⟨hc0, trivial⟩ (bg_closed _) ?_
    conv => whnf
    rw [e]; simp [h1, h2]; rfl
  · refine brT (by simp [h1, h2]) ?_
    conv => whnf
    refine congrArg AEnd.ret (ebg.trans ?_)
    rw [e]; simp [h1, h2]

theorem c_plain (z : Int) (hz : -170141183460469231731687303715884105728 ≤ z ∧ z < 170141183460469231731687303715884105728) : ACalls seat 40 [bg z] [] (fun r _ => r = .ret (.tup (if -9223372036854775808 ≤ z ∧ z < 9223372036854775808 then [.int .i64 z, .bool true] else [.int .i64 0, .bool false]))) := by
  refine ACalls.body seat_ok Tryd.func40 rfl rfl ?_
  have hw : ∃ v, IntKind.wrap .i64 (z % 18446744073709551616) = v ∧ I64 v ∧ (v = z % 18446744073709551616 ∨ v = z % 18446744073709551616 - 18446744073709551616) := by
    refine ⟨_, rfl, ?_⟩
    have hb : IntKind.bits .i64 = 64 := rfl
    have hs : IntKind.signed .i64 = true := rfl
    unfold IntKind.wrap I64
    simp only [hb, hs, Bool.true_and, decide_eq_true_eq]
    split <;> omega
  obtain ⟨v, hv, hvi, hv2⟩ := hw
  have hvi' := hvi
  obtain ⟨v1, v2⟩ := hvi
  conv => whnf
  refine DrawH.plan seat_ok (.take 0 (.take 1 (.take 2 (.take 4 (.perform 3 none (.take 5 Plan.done)))))) 0 (by kernel_rfl) ?_
  conv => whnf
  refine WrapH.is v hv ?_
  conv => whnf
  refine CallH.lift seat_g (c_wof v hvi') (by simp [ClosedL, Closed]) (bg_closed _) ?_
  conv => whnf
  repeat' (first | (refine WrapH.quo (by omega) (by omega) (by omega) ?_; conv => whnf) | (refine WrapH.quoU (by omega) (by omega) (by omega) ?_; conv => whnf) | (refine NumH.rem (by omega) ?_; conv => whnf) | (refine WrapH.is _ (wrap_i64 (by omega) (by omega)) ?_; conv => whnf) | (refine WrapH.is _ (wrap_u64 (by omega) (by omega)) ?_; conv => whnf) | (refine WrapH.is _ wrap_u64m ?_; conv => whnf) | (refine Req.mk (by omega) ?_; conv => whnf) | (refine Req.mk (by dsimp only; omega) ?_; conv => whnf) | (refine Req.mk ⟨rfl, rfl, rfl, by simp [ci_length, *], rfl, by simp [okCell], by dsimp only; omega, by omega, by decide⟩ ?_; conv => whnf) | (refine Req.mk (show pendP _ _ by repeat' constructor) ?_; conv => whnf) | ((with_reducible refine brT ?_ ?_); (next => assumption); (conv => whnf)) | ((with_reducible refine brF ?_ ?_); (next => assumption); (conv => whnf)) | ((with_reducible refine brDT ?_ ?_); (next => omega); (conv => whnf)) | ((with_reducible refine brDF ?_ ?_); (next => omega); (conv => whnf)) | ((with_reducible refine brET ?_ ?_); (next => omega); (conv => whnf)) | ((with_reducible refine brEF ?_ ?_); (next => omega); (conv => whnf)) | ((with_reducible refine brNET ?_ ?_); (next => omega); (conv => whnf)) | ((with_reducible refine brNEF ?_ ?_); (next => omega); (conv => whnf)) | (with_reducible refine brNot ?_))
  by_cases hf : -9223372036854775808 ≤ z ∧ z < 9223372036854775808
  · have e1 : v / 18446744073709551616 % 18446744073709551616 = z / 18446744073709551616 % 18446744073709551616 := by omega
    have e2 : v % 18446744073709551616 = z % 18446744073709551616 := by omega
    have e3 : v = z := by omega
    refine brT (by simp [e1, e2]) ?_
    conv => whnf
    refine WrapH.is v hv ?_
    conv => whnf
    rw [if_pos hf, e3]; rfl
  · have e1 : ¬ (v / 18446744073709551616 % 18446744073709551616 = z / 18446744073709551616 % 18446744073709551616 ∧ v % 18446744073709551616 = z % 18446744073709551616) := by omega
    refine brF (by simp; omega) ?_
    conv => whnf
    rw [if_neg hf]; rfl

/-! ### Shifts -/
theorem or_add {a b : Nat} {k : Nat} (hb : b < 2 ^ k) : (2 ^ k * a) ||| b = 2 ^ k * a + b := (Nat.two_pow_add_eq_or_of_lt hb a).symm
theorem or_u64 {a b : Int} {k : Nat} (ha : 0 ≤ a) (hb : 0 ≤ b ∧ b < 2 ^ k) (hs : 2 ^ k * a + b < 18446744073709551616) : IntKind.wrap .u64 ((BitVec.ofInt (IntKind.bits .u64) (2 ^ k * a) ||| BitVec.ofInt (IntKind.bits .u64) b).toNat : Int) = 2 ^ k * a + b := by
  obtain ⟨x, rfl⟩ := Int.eq_ofNat_of_zero_le ha
  obtain ⟨y, rfl⟩ := Int.eq_ofNat_of_zero_le hb.1
  have hy : y < 2 ^ k := by have := hb.2; rw [show ((2 : Int) ^ k) = ((2 ^ k : Nat) : Int) by rw [Int.natCast_pow]; rfl] at this; exact Int.ofNat_lt.1 this
  have e1 : ((2 : Int) ^ k * (x : Int)) = ((2 ^ k * x : Nat) : Int) := by rw [Int.natCast_mul, Int.natCast_pow]; rfl
  have hlt : 2 ^ k * x + y < 18446744073709551616 := by rw [e1] at hs; omega
  show IntKind.wrap .u64 ((BitVec.ofInt 64 (2 ^ k * (x : Int)) ||| BitVec.ofInt 64 (y : Int)).toNat : Int) = _
  rw [e1, BitVec.ofInt_natCast, BitVec.ofInt_natCast, BitVec.toNat_or, BitVec.toNat_ofNat, BitVec.toNat_ofNat, Nat.mod_eq_of_lt (by omega), Nat.mod_eq_of_lt (by omega), or_add hy]
  exact wrap_u64 (by omega) (by omega)

theorem wrap_i64_mod {n : Int} (h : I64 n) : IntKind.wrap .i64 (n % 18446744073709551616) = n := by
  obtain ⟨h1, h2⟩ := h
  have hb : IntKind.bits .i64 = 64 := rfl
  have hs : IntKind.signed .i64 = true := rfl
  unfold IntKind.wrap
  simp only [hb, hs, Bool.true_and, decide_eq_true_eq]
  split <;> omega
theorem pow_nat (s : Nat) : (2 : Int) ^ s = ((2 ^ s : Nat) : Int) := by rw [Int.natCast_pow]; rfl
theorem shift_arith {y p q : Int} (hp : 0 < p) (hq : 0 < q) (hM : q * p = 18446744073709551616) :
    y / 18446744073709551616 / p = y / p / 18446744073709551616 ∧ (y / 18446744073709551616 % 18446744073709551616) * q % 18446744073709551616 = q * (y / 18446744073709551616 % p) ∧
    0 ≤ y % 18446744073709551616 / p ∧ y % 18446744073709551616 / p < q ∧ 0 ≤ y / 18446744073709551616 % p ∧ y / 18446744073709551616 % p < p ∧
    q * (y / 18446744073709551616 % p) + y % 18446744073709551616 / p = y / p % 18446744073709551616 := by
  rw [← hM]
  have hqp : 0 < q * p := Int.mul_pos hq hp
  have h1 : 0 ≤ y % (q * p) := Int.emod_nonneg _ (by omega)
  have h2 : y % (q * p) < q * p := Int.emod_lt_of_pos _ hqp
  have h3 : 0 ≤ y / (q * p) % p := Int.emod_nonneg _ (by omega)
  have h4 : y / (q * p) % p < p := Int.emod_lt_of_pos _ hp
  have h5 : y % (q * p) / p < q := Int.ediv_lt_of_lt_mul hp h2
  have h6 : 0 ≤ y % (q * p) / p := Int.ediv_nonneg h1 (by omega)
  refine ⟨?_, ?_, h6, h5, h3, h4, ?_⟩
  · rw [Int.ediv_ediv_of_nonneg (by omega), Int.ediv_ediv_of_nonneg (by omega), Int.mul_comm]
  · rw [Int.mul_comm _ q, Int.mul_emod_mul_of_pos _ _ hq, Int.emod_emod_of_dvd _ ⟨q, Int.mul_comm q p⟩]
  · have e : y = q * p * (y / (q * p)) + y % (q * p) := (Int.mul_ediv_add_emod y (q * p)).symm
    have e2 : y / p = q * (y / (q * p)) + y % (q * p) / p := by
      conv => lhs; rw [e]
      rw [show q * p * (y / (q * p)) + y % (q * p) = y % (q * p) + p * (q * (y / (q * p))) by grind, Int.add_mul_ediv_left _ _ (by omega)]
      omega
    have e3 : y / (q * p) = p * (y / (q * p) / p) + y / (q * p) % p := (Int.mul_ediv_add_emod _ p).symm
    rw [e2]
    generalize y % (q * p) / p = l at *
    generalize hh : y / (q * p) = h at *
    clear e e2
    have h7 : q * (h % p) + l < q * p := by
      have : q * (h % p) ≤ q * (p - 1) := Int.mul_le_mul_of_nonneg_left (by omega) (by omega)
      rw [Int.mul_sub, Int.mul_one] at this; omega
    have h8 : 0 ≤ q * (h % p) := Int.mul_nonneg (by omega) h3
    rw [show q * h + l = q * (h % p) + l + q * p * (h / p) by
      conv => lhs; rw [e3]
      grind]
    rw [Int.add_mul_emod_self_left, Int.emod_eq_of_lt (by omega) h7]

/-- the nearest number to z / 2^s, of two the greater one -/
def shN (z : Int) (s : Nat) : Int := if s = 0 then z else (z + 2 ^ (s - 1)) / 2 ^ s
set_option maxRecDepth 100000 in
theorem c_shifted (z : Int) (s : Nat) (hz : -170141183460469231731687303715884105728 ≤ z ∧ z < 170141183460469231722463931679029329920) (hs : s ≤ 62) : ACalls seat 39 [bg z, .int .i64 s] [] (fun r _ => r = .ret (bg (shN z s))) := by
  refine ACalls.body seat_ok Tryd.func39 rfl rfl ?_
  by_cases h0 : s = 0
  · subst h0
    conv => whnf
    repeat' (first | (refine WrapH.quo (by omega) (by omega) (by omega) ?_; conv => whnf) | (refine WrapH.quoU (by omega) (by omega) (by omega) ?_; conv => whnf) | (refine NumH.rem (by omega) ?_; conv => whnf) | (refine WrapH.is _ (wrap_i64 (by omega) (by omega)) ?_; conv => whnf) | (refine WrapH.is _ (wrap_u64 (by omega) (by omega)) ?_; conv => whnf) | (refine WrapH.is _ wrap_u64m ?_; conv => whnf) | (refine Req.mk (by omega) ?_; conv => whnf) | (refine Req.mk (by dsimp only; omega) ?_; conv => whnf) | (refine Req.mk ⟨rfl, rfl, rfl, by simp [ci_length, *], rfl, by simp [okCell], by dsimp only; omega, by omega, by decide⟩ ?_; conv => whnf) | (refine Req.mk (show pendP _ _ by repeat' constructor) ?_; conv => whnf) | ((with_reducible refine brT ?_ ?_); (next => assumption); (conv => whnf)) | ((with_reducible refine brF ?_ ?_); (next => assumption); (conv => whnf)) | ((with_reducible refine brDT ?_ ?_); (next => omega); (conv => whnf)) | ((with_reducible refine brDF ?_ ?_); (next => omega); (conv => whnf)) | ((with_reducible refine brET ?_ ?_); (next => omega); (conv => whnf)) | ((with_reducible refine brEF ?_ ?_); (next => omega); (conv => whnf)) | ((with_reducible refine brNET ?_ ?_); (next => omega); (conv => whnf)) | ((with_reducible refine brNEF ?_ ?_); (next => omega); (conv => whnf)) | (with_reducible refine brNot ?_))
    rfl
  · have hp : (2 : Int) ^ (s - 1) ≤ 2305843009213693952 := by
      have : (2 : Nat) ^ (s - 1) ≤ 2 ^ 61 := Nat.pow_le_pow_right (by decide) (by omega)
      rw [pow_nat]; omega
    have hp0 : (0 : Int) < 2 ^ (s - 1) := by
      have : 0 < (2 : Nat) ^ (s - 1) := Nat.pow_pos (by decide)
      rw [pow_nat]; omega
    have hM : (2 : Int) ^ (64 - s) * 2 ^ s = 18446744073709551616 := by
      rw [← Int.pow_add, show 64 - s + s = 64 by omega]; rfl
    have hq0 : (0 : Int) < 2 ^ (64 - s) := by
      have : 0 < (2 : Nat) ^ (64 - s) := Nat.pow_pos (by decide)
      rw [pow_nat]; omega
    have hps0 : (0 : Int) < 2 ^ s := by
      have : 0 < (2 : Nat) ^ s := Nat.pow_pos (by decide)
      rw [pow_nat]; omega
    obtain ⟨y, hy⟩ : ∃ y, y = z + 2 ^ (s - 1) := ⟨_, rfl⟩
    obtain ⟨a1, a2, a3, a4, a5, a6, a7⟩ := shift_arith (y := y) hps0 hq0 hM
    have hyb : -170141183460469231731687303715884105728 ≤ y ∧ y < 170141183460469231731687303715884105728 := by omega
    have e1 : (1 * 2 ^ min ((s : Int) - 1).toNat (IntKind.bits .u64) : Int) = 2 ^ (s - 1) := by
      have hb : IntKind.bits .u64 = 64 := rfl
      rw [hb, Int.one_mul, Nat.min_eq_left (by omega), show ((s : Int) - 1).toNat = s - 1 by omega]
    have e2 : AV.agg [.int .u64 0, .int .u64 (2 ^ (s - 1))] = bg (2 ^ (s - 1)) := bg_eq (by omega) (by omega)
    have e3 : (2 ^ min ((s : Int)).toNat (IntKind.bits .i64) : Int) = 2 ^ s := by
      have hb : IntKind.bits .i64 = 64 := rfl
      rw [hb, Nat.min_eq_left (by omega)]; rfl
    have e4 : (2 ^ min ((s : Int)).toNat (IntKind.bits .u64) : Int) = 2 ^ s := e3
    have e5 : (2 ^ min (64 - (s : Int)).toNat (IntKind.bits .u64) : Int) = 2 ^ (64 - s) := by
      have hb : IntKind.bits .u64 = 64 := rfl
      rw [hb, Nat.min_eq_left (by omega), show (64 - (s : Int)).toNat = 64 - s by omega]
    have hc := c_wadd z (2 ^ (s - 1))
    rw [← e2, ← hy] at hc
    conv => whnf
    refine brEF (by omega) ?_
    conv => whnf
    refine WrapH.is ((s : Int) - 1) (wrap_i64 (by omega) (by omega)) ?_
    conv => whnf
    refine WrapH.is ((s : Int) - 1) (wrap_u64 (by omega) (by omega)) ?_
    conv => whnf
    refine Req.mk (by omega) ?_
    conv => whnf
    refine WrapH.is (2 ^ (s - 1)) (by rw [e1]; exact wrap_u64 (by omega) (by omega)) ?_
    conv => whnf
    refine CallH.lift seat_g hc (by simp [ClosedL, Closed, bg_closed]) (bg_closed _) ?_
    conv => whnf
    refine WrapH.is (y / 18446744073709551616) (wrap_i64_mod ⟨by omega, by omega⟩) ?_
    conv => whnf
    refine WrapH.is (s : Int) (wrap_u64 (by omega) (by omega)) ?_
    conv => whnf
    refine Req.mk (by omega) ?_
    conv => whnf
    refine NumH.is (y / 18446744073709551616 / 2 ^ s) (fdiv_is e3 hps0) ?_
    conv => whnf
    refine WrapH.is _ wrap_u64m ?_
    conv => whnf
    refine WrapH.is (64 - (s : Int)) (wrap_i64 (by omega) (by omega)) ?_
    conv => whnf
    refine WrapH.is (64 - (s : Int)) (wrap_u64 (by omega) (by omega)) ?_
    conv => whnf
    refine Req.mk (by omega) ?_
    conv => whnf
    refine WrapH.is (2 ^ (64 - s) * (y / 18446744073709551616 % 2 ^ s)) (by rw [e5, wrap_u64m, a2]) ?_
    conv => whnf
    refine WrapH.is (s : Int) (wrap_u64 (by omega) (by omega)) ?_
    conv => whnf
    refine Req.mk (by omega) ?_
    conv => whnf
    refine NumH.is (y % 18446744073709551616 / 2 ^ s) (fdiv_is e4 hps0) ?_
    conv => whnf
    refine WrapH.is _ (or_u64 a5 ⟨a3, a4⟩ (by rw [a7]; omega)) ?_
    conv => whnf
    refine congrArg AEnd.ret ((bg_eq (z := y / 2 ^ s) (by rw [a1]) a7).trans ?_)
    unfold shN; rw [if_neg h0, hy]

/-- what Dot comes to -/
def dotN (z : Int) (s : Nat) : List AV := if -9223372036854775808 ≤ shN z s ∧ shN z s < 9223372036854775808 then [.int .i64 (shN z s), .bool true] else [.int .i64 0, .bool false]
theorem shN_bounds {z : Int} {s : Nat} (hz : -170141183460469231731687303715884105728 ≤ z ∧ z < 170141183460469231722463931679029329920) (hs : s ≤ 62) : -170141183460469231731687303715884105728 ≤ shN z s ∧ shN z s < 170141183460469231731687303715884105728 := by
  unfold shN
  split
  · omega
  · rename_i h0
    have hp : (2 : Int) ^ (s - 1) ≤ 2305843009213693952 := by
      have : (2 : Nat) ^ (s - 1) ≤ 2 ^ 61 := Nat.pow_le_pow_right (by decide) (by omega)
      rw [pow_nat]; omega
    have hp0 : (0 : Int) < 2 ^ (s - 1) := by
      have : 0 < (2 : Nat) ^ (s - 1) := Nat.pow_pos (by decide)
      rw [pow_nat]; omega
    have hps0 : (0 : Int) < 2 ^ s := by
      have : 0 < (2 : Nat) ^ s := Nat.pow_pos (by decide)
      rw [pow_nat]; omega
    constructor
    · rw [Int.le_ediv_iff_mul_le hps0]
      have : -170141183460469231731687303715884105728 * (2 : Int) ^ s ≤ -170141183460469231731687303715884105728 * 1 := Int.mul_le_mul_of_nonpos_left (by omega) (by omega)
      omega
    · rw [Int.ediv_lt_iff_lt_mul hps0]
      have : 170141183460469231731687303715884105728 * 1 ≤ 170141183460469231731687303715884105728 * (2 : Int) ^ s := Int.mul_le_mul_of_nonneg_left (by omega) (by omega)
      omega

theorem dotN_closed (z : Int) (s : Nat) : ClosedL (dotN z s) := by unfold dotN; split <;> simp [ClosedL, Closed]
theorem mul_i64 {a b : Int} (ha : I64 a) (hb : I64 b) : -85070591730234615856620279821087277056 ≤ a * b ∧ a * b ≤ 85070591730234615865843651857942052864 := by
  obtain ⟨a1, a2⟩ := ha
  obtain ⟨b1, b2⟩ := hb
  have e := natAbs_prod a b
  have p := prod_bound (b := 9223372036854775808) (x := (a.natAbs : Int)) (y := (b.natAbs : Int)) (by omega) (by omega)
  rw [e] at p
  rcases Int.lt_or_le a 0 with h1 | h1 <;> rcases Int.lt_or_le b 0 with h2 | h2
  · have := Int.mul_nonneg_of_nonpos_of_nonpos (by omega : a ≤ 0) (by omega : b ≤ 0)
    simp only [h1, h2] at p; simp at p; omega
  · have q : -a * b ≤ 9223372036854775808 * 9223372036854775807 := Int.mul_le_mul (by omega) (by omega) h2 (by omega)
    have := Int.mul_nonneg (by omega : 0 ≤ -a) h2
    rw [Int.neg_mul] at q this; omega
  · have q : a * -b ≤ 9223372036854775807 * 9223372036854775808 := Int.mul_le_mul (by omega) (by omega) (by omega) (by omega)
    have := Int.mul_nonneg h1 (by omega : 0 ≤ -b)
    rw [Int.mul_neg] at q this; omega
  · have := Int.mul_nonneg h1 h2
    have q : a * b ≤ 9223372036854775807 * 9223372036854775807 := Int.mul_le_mul (by omega) (by omega) h2 (by omega)
    omega
set_option maxRecDepth 100000 in
/-- Dot, where the sum of the products isn't at the very end of what 128 bits hold -/
theorem c_dot (a b c d : Int) (s : Nat) (ha : I64 a) (hb : I64 b) (hc : I64 c) (hd : I64 d) (hs : s ≤ 62) (hz : a * b + c * d < 170141183460469231722463931679029329920) : ACalls seat 29 [.int .i64 a, .int .i64 b, .int .i64 c, .int .i64 d, .int .i64 s] [] (fun r _ => r = .ret (.tup (dotN (a * b + c * d) s))) := by
  refine ACalls.body seat_ok Tryd.func29 rfl rfl ?_
  have hm1 := mul_i64 ha hb
  have hm2 := mul_i64 hc hd
  have hz' : -170141183460469231731687303715884105728 ≤ a * b + c * d ∧ a * b + c * d < 170141183460469231722463931679029329920 := ⟨by omega, hz⟩
  have hne : ¬ (a = -9223372036854775808 ∧ b = a ∧ c = a ∧ d = a) := by
    rintro ⟨rfl, rfl, rfl, rfl⟩; omega
  conv => whnf
  repeat' (first | (first | (refine WrapH.quo (by omega) (by omega) (by omega) ?_; conv => whnf) | (refine WrapH.quoU (by omega) (by omega) (by omega) ?_; conv => whnf) | (refine NumH.rem (by omega) ?_; conv => whnf) | (refine WrapH.is _ (wrap_i64 (by omega) (by omega)) ?_; conv => whnf) | (refine WrapH.is _ (wrap_u64 (by omega) (by omega)) ?_; conv => whnf) | (refine WrapH.is _ wrap_u64m ?_; conv => whnf) | (refine Req.mk (by omega) ?_; conv => whnf) | (refine Req.mk (by dsimp only; omega) ?_; conv => whnf) | (refine Req.mk ⟨rfl, rfl, rfl, by simp [ci_length, *], rfl, by simp [okCell], by dsimp only; omega, by omega, by decide⟩ ?_; conv => whnf) | (refine Req.mk (show pendP _ _ by repeat' constructor) ?_; conv => whnf) | ((with_reducible refine brT ?_ ?_); (next => assumption); (conv => whnf)) | ((with_reducible refine brF ?_ ?_); (next => assumption); (conv => whnf)) | ((with_reducible refine brDT ?_ ?_); (next => omega); (conv => whnf)) | ((with_reducible refine brDF ?_ ?_); (next => omega); (conv => whnf)) | ((with_reducible refine brET ?_ ?_); (next => omega); (conv => whnf)) | ((with_reducible refine brEF ?_ ?_); (next => omega); (conv => whnf)) | ((with_reducible refine brNET ?_ ?_); (next => omega); (conv => whnf)) | ((with_reducible refine brNEF ?_ ?_); (next => omega); (conv => whnf)) | (with_reducible refine brNot ?_)) | (first | ((with_reducible refine brD (fun _ => ?_) (fun _ => ?_)) <;> (conv => whnf)) | ((with_reducible refine brE (fun _ => ?_) (fun _ => ?_)) <;> (conv => whnf)) | ((with_reducible refine brNE (fun _ => ?_) (fun _ => ?_)) <;> (conv => whnf)) | ((with_reducible refine brI (fun _ => ?_) (fun _ => ?_)) <;> (conv => whnf))))
  all_goals (try (exfalso; omega))
  all_goals
    refine CallH.lift seat_g (c_times a b ha hb) (by simp [ClosedL, Closed]) (bg_closed _) ?_
    conv => whnf
    refine CallH.lift seat_g (c_times c d hc hd) (by simp [ClosedL, Closed]) (bg_closed _) ?_
    conv => whnf
    refine CallH.lift seat_g (c_wadd _ _) ⟨bg_closed _, bg_closed _, trivial⟩ (bg_closed _) ?_
    conv => whnf
    refine CallH.lift seat_g (c_shifted _ s hz' hs) (by simp [ClosedL, Closed, bg_closed]) (bg_closed _) ?_
    conv => whnf
    refine CallH.lift seat_g (c_plain _ (shN_bounds hz' hs)) ⟨bg_closed _, trivial⟩ (dotN_closed _ s) ?_
    unfold dotN
    by_cases hf : -9223372036854775808 ≤ shN (a * b + c * d) s ∧ shN (a * b + c * d) s < 9223372036854775808
    · rw [if_pos hf]
      conv => whnf
      rfl
    · rw [if_neg hf]
      conv => whnf
      rfl
end Go.Proofs.YteiedieeebjklaaDoor
