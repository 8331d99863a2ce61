/- A division by 10^17. Conditions: the dividend's bound. -/
import Derived.Test.YtelgbnjagbleoaaDoorBits
set_option linter.unusedSimpArgs false
set_option linter.unusedVariables false
set_option linter.deprecated false
namespace Go.Proofs.YtelgbnjagbleoaaDoor
open Go.Abs
theorem div_fin {A B1 B0 q X : Int} (hX : X = A * 4294967296 + B1) (b3 : 0 ≤ B0) (b4 : B0 < 4294967296) (hm : (A * 18446744073709551616 + (B1 * 4294967296 + B0)) % 128 = 0) (h1 : q * 12800000000000000000 ≤ X * 4294967296 + B0) (h2 : X * 4294967296 + B0 < q * 12800000000000000000 + 12800000000000000000) :
    q = (A * 18446744073709551616 + (B1 * 4294967296 + B0)) / 128 / 100000000000000000 ∧ (X * 4294967296 % 18446744073709551616 + B0 - q * 12800000000000000000 % 18446744073709551616) % 18446744073709551616 / 128 = (A * 18446744073709551616 + (B1 * 4294967296 + B0)) / 128 % 100000000000000000 ∧ (X * 4294967296 + B0 - q * 12800000000000000000) / 128 = (A * 18446744073709551616 + (B1 * 4294967296 + B0)) / 128 % 100000000000000000 := by
  have hT : A * 18446744073709551616 + (B1 * 4294967296 + B0) = X * 4294967296 + B0 := by omega
  rw [hT] at hm ⊢
  clear hT hX
  have e : (X * 4294967296 % 18446744073709551616 + B0 - q * 12800000000000000000 % 18446744073709551616) % 18446744073709551616 = X * 4294967296 + B0 - q * 12800000000000000000 := by
    have e1 : (X * 4294967296 % 18446744073709551616 + B0 - q * 12800000000000000000 % 18446744073709551616) % 18446744073709551616 = (X * 4294967296 + B0 - q * 12800000000000000000) % 18446744073709551616 := by omega
    rw [e1, Int.emod_eq_of_lt (by omega) (by omega)]
  rw [e]
  clear e
  generalize X * 4294967296 + B0 = T at *
  have e2 : T / 128 * 128 = T := by omega
  generalize T / 128 = N at *
  subst e2
  refine ⟨?_, ?_, ?_⟩ <;> omega
set_option maxRecDepth 20000 in
set_option maxHeartbeats 1000000 in
theorem c_div17 (hi lo : Int) (hh : 0 ≤ hi ∧ hi ≤ 400) (hl : U64 lo) : ACalls seat 34 [.int .u64 hi, .int .u64 lo, .int .u64 100000000000000000] [] (fun x _ => x = .ret (.tup [.int .u64 ((hi * 18446744073709551616 + lo) / 100000000000000000), .int .u64 ((hi * 18446744073709551616 + lo) % 100000000000000000)])) := by
  refine ACalls.body seat_ok Tryd.func34 rfl rfl ?_
  obtain ⟨l1, l2⟩ := hl
  obtain ⟨h1, h2⟩ := hh
  by_cases g : hi = 0
  · subst g
    rw [show (0 : Int) * 18446744073709551616 + lo = lo by omega]
    conv => whnf
    repeat' ((first | refine zq1 (by omega) ?_ | refine zq2 (by omega) ?_ | refine NumH.rem (by omega) ?_ | refine zq4 (by omega) ?_ | refine zq5 (by omega) ?_ | refine zq6 ?_ | refine Req.mk (by omega) ?_ | refine Req.mk (by dsimp only; omega) ?_ | refine Req.mk ⟨rfl, rfl, rfl, by simp [ci_length, *], rfl, by simp [okCell], by dsimp only; omega, by omega, by decide⟩ ?_ | refine Req.mk (show pendP _ _ by repeat' constructor) ?_ | (with_reducible refine brT ?_ ?_; next => assumption) | (with_reducible refine brF ?_ ?_; next => assumption) | (with_reducible refine brDT ?_ ?_; next => omega) | (with_reducible refine brDF ?_ ?_; next => omega) | (with_reducible refine brET ?_ ?_; next => omega) | (with_reducible refine brEF ?_ ?_; next => omega) | (with_reducible refine brNET ?_ ?_; next => omega) | (with_reducible refine brNEF ?_ ?_; next => omega) | with_reducible refine brNot ?_); conv => whnf)
    refine DrawH.plan seat_ok (.take 0 (.take 1 (.take 2 (.take 3 (.take 4 (.take 5 (.take 6 (.take 7 Plan.done)))))))) 0 (by kernel_rfl) ?_
    conv => whnf
    repeat' (first | exact rfl | ((first | refine zq1 (by omega) ?_ | refine zq2 (by omega) ?_ | refine NumH.rem (by omega) ?_ | refine zq4 (by omega) ?_ | refine zq5 (by omega) ?_ | refine zq6 ?_ | refine Req.mk (by omega) ?_ | refine Req.mk (by dsimp only; omega) ?_ | refine Req.mk ⟨rfl, rfl, rfl, by simp [ci_length, *], rfl, by simp [okCell], by dsimp only; omega, by omega, by decide⟩ ?_ | refine Req.mk (show pendP _ _ by repeat' constructor) ?_ | (with_reducible refine brT ?_ ?_; next => assumption) | (with_reducible refine brF ?_ ?_; next => assumption) | (with_reducible refine brDT ?_ ?_; next => omega) | (with_reducible refine brDF ?_ ?_; next => omega) | (with_reducible refine brET ?_ ?_; next => omega) | (with_reducible refine brEF ?_ ?_; next => omega) | (with_reducible refine brNET ?_ ?_; next => omega) | (with_reducible refine brNEF ?_ ?_; next => omega) | with_reducible refine brNot ?_); conv => whnf) | (refine And.intro ?_ ?_ <;> (conv => whnf)))
  have hor : IntKind.wrap .u64 ((BitVec.ofInt (IntKind.bits .u64) (hi * 128) ||| BitVec.ofInt (IntKind.bits .u64) (lo / 144115188075855872)).toNat : Int) = hi * 128 + lo / 144115188075855872 := by
    have := or_u64 (a := hi) (b := lo / 144115188075855872) (k := 7) h1 (by omega) (by omega)
    rw [show (2 : Int) ^ 7 * hi = hi * 128 by omega] at this
    exact this
  conv => whnf
  repeat' (first | (refine CallH.lift seat_g c_len17 (by simp [Closed, ClosedL]) (by simp [Closed]) ?_; conv => whnf) | (refine Req.mk (by decide) ?_; refine WrapH.is 12800000000000000000 (by decide) ?_; conv => whnf) | ((first | refine zq1 (by omega) ?_ | refine zq2 (by omega) ?_ | refine NumH.rem (by omega) ?_ | refine zq4 (by omega) ?_ | refine zq5 (by omega) ?_ | refine zq6 ?_ | refine Req.mk (by omega) ?_ | refine Req.mk (by dsimp only; omega) ?_ | refine Req.mk ⟨rfl, rfl, rfl, by simp [ci_length, *], rfl, by simp [okCell], by dsimp only; omega, by omega, by decide⟩ ?_ | refine Req.mk (show pendP _ _ by repeat' constructor) ?_ | (with_reducible refine brT ?_ ?_; next => assumption) | (with_reducible refine brF ?_ ?_; next => assumption) | (with_reducible refine brDT ?_ ?_; next => omega) | (with_reducible refine brDF ?_ ?_; next => omega) | (with_reducible refine brET ?_ ?_; next => omega) | (with_reducible refine brEF ?_ ?_; next => omega) | (with_reducible refine brNET ?_ ?_; next => omega) | (with_reducible refine brNEF ?_ ?_; next => omega) | with_reducible refine brNot ?_); conv => whnf))
  refine NumH.is 2980232238 (by decide) ?_
  conv => whnf
  refine WrapH.is 3305111552 (by decide) ?_
  conv => whnf
  refine Req.mk (by decide) ?_
  conv => whnf
  refine WrapH.is (hi * 128) (wrap_u64 (n := hi * 128) (by omega) (by omega)) ?_
  conv => whnf
  repeat' ((first | refine zq1 (by omega) ?_ | refine zq2 (by omega) ?_ | refine NumH.rem (by omega) ?_ | refine zq4 (by omega) ?_ | refine zq5 (by omega) ?_ | refine zq6 ?_ | refine Req.mk (by omega) ?_ | refine Req.mk (by dsimp only; omega) ?_ | refine Req.mk ⟨rfl, rfl, rfl, by simp [ci_length, *], rfl, by simp [okCell], by dsimp only; omega, by omega, by decide⟩ ?_ | refine Req.mk (show pendP _ _ by repeat' constructor) ?_ | (with_reducible refine brT ?_ ?_; next => assumption) | (with_reducible refine brF ?_ ?_; next => assumption) | (with_reducible refine brDT ?_ ?_; next => omega) | (with_reducible refine brDF ?_ ?_; next => omega) | (with_reducible refine brET ?_ ?_; next => omega) | (with_reducible refine brEF ?_ ?_; next => omega) | (with_reducible refine brNET ?_ ?_; next => omega) | (with_reducible refine brNEF ?_ ?_; next => omega) | with_reducible refine brNot ?_); conv => whnf)
  refine NumH.is (lo / 144115188075855872) (fdiv_is (c := 144115188075855872) (by decide) (by decide)) ?_
  conv => whnf
  refine WrapH.is _ hor ?_
  conv => whnf
  refine Req.mk (by decide) ?_
  conv => whnf
  refine WrapH.is (lo * 128 % 18446744073709551616) (wrap_u64m (n := lo * 128)) ?_
  conv => whnf
  refine Req.mk (by decide) ?_
  conv => whnf
  have eN : hi * 18446744073709551616 + lo = ((hi * 128 + lo / 144115188075855872) * 18446744073709551616 + lo * 128 % 18446744073709551616) / 128 := by omega
  have eN2 : ((hi * 128 + lo / 144115188075855872) * 18446744073709551616 + lo * 128 % 18446744073709551616) % 128 = 0 := by omega
  rw [eN]
  have hA : 0 ≤ hi * 128 + lo / 144115188075855872 ∧ hi * 128 + lo / 144115188075855872 ≤ 51400 := by omega
  have hB : 0 ≤ lo * 128 % 18446744073709551616 ∧ lo * 128 % 18446744073709551616 < 18446744073709551616 := by omega
  clear hor eN
  generalize hi * 128 + lo / 144115188075855872 = A at *
  generalize lo * 128 % 18446744073709551616 = B at *
  clear g h1 h2 l1 l2
  refine NumH.is (B / 4294967296) (fdiv_is (c := 4294967296) (by decide) (by decide)) ?_
  conv => whnf
  refine WrapH.is _ and_u64' ?_
  conv => whnf
  have hq1 : IntKind.wrap .u64 (A.tdiv 2980232238) = 0 := by
    rw [Int.tdiv_eq_ediv_of_nonneg hA.1, Int.ediv_eq_zero_of_lt hA.1 (by omega)]; rfl
  have hB1 : B / 4294967296 * 4294967296 + B % 4294967296 = B := by omega
  have hB2 : 0 ≤ B / 4294967296 ∧ B / 4294967296 < 4294967296 ∧ 0 ≤ B % 4294967296 ∧ B % 4294967296 < 4294967296 := by omega
  generalize B / 4294967296 = B1 at *
  generalize B % 4294967296 = B0 at *
  subst hB1
  obtain ⟨b1, b2, b3, b4⟩ := hB2
  clear hB
  repeat' ((first | refine zq1 (by omega) ?_ | refine zq2 (by omega) ?_ | refine NumH.rem (by omega) ?_ | refine zq4 (by omega) ?_ | refine zq5 (by omega) ?_ | refine zq6 ?_ | refine Req.mk (by omega) ?_ | refine Req.mk (by dsimp only; omega) ?_ | refine Req.mk ⟨rfl, rfl, rfl, by simp [ci_length, *], rfl, by simp [okCell], by dsimp only; omega, by omega, by decide⟩ ?_ | refine Req.mk (show pendP _ _ by repeat' constructor) ?_ | (with_reducible refine brT ?_ ?_; next => assumption) | (with_reducible refine brF ?_ ?_; next => assumption) | (with_reducible refine brDT ?_ ?_; next => omega) | (with_reducible refine brDF ?_ ?_; next => omega) | (with_reducible refine brET ?_ ?_; next => omega) | (with_reducible refine brEF ?_ ?_; next => omega) | (with_reducible refine brNET ?_ ?_; next => omega) | (with_reducible refine brNEF ?_ ?_; next => omega) | with_reducible refine brNot ?_); conv => whnf)
  refine Sat.unroll seat_ok 1 ?_
  conv => whnf
  repeat' ((first | refine zq1 (by omega) ?_ | refine zq2 (by omega) ?_ | refine NumH.rem (by omega) ?_ | refine zq4 (by omega) ?_ | refine zq5 (by omega) ?_ | refine zq6 ?_ | refine Req.mk (by omega) ?_ | refine Req.mk (by dsimp only; omega) ?_ | refine Req.mk ⟨rfl, rfl, rfl, by simp [ci_length, *], rfl, by simp [okCell], by dsimp only; omega, by omega, by decide⟩ ?_ | refine Req.mk (show pendP _ _ by repeat' constructor) ?_ | (with_reducible refine brT ?_ ?_; next => assumption) | (with_reducible refine brF ?_ ?_; next => assumption) | (with_reducible refine brDT ?_ ?_; next => omega) | (with_reducible refine brDF ?_ ?_; next => omega) | (with_reducible refine brET ?_ ?_; next => omega) | (with_reducible refine brEF ?_ ?_; next => omega) | (with_reducible refine brNET ?_ ?_; next => omega) | (with_reducible refine brNEF ?_ ?_; next => omega) | with_reducible refine brNot ?_); conv => whnf)
  have hX : A * 4294967296 + B1 - A / 2980232238 * 12800000000000000000 = A * 4294967296 + B1 := by omega
  by_cases c : (A * 4294967296 + B1 - A / 2980232238 * 12800000000000000000) / 2980232238 * 3305111552 > 4294967296 * ((A * 4294967296 + B1 - A / 2980232238 * 12800000000000000000) - (A * 4294967296 + B1 - A / 2980232238 * 12800000000000000000) / 2980232238 * 2980232238) + B0
  · by_cases d : (A * 4294967296 + B1 - A / 2980232238 * 12800000000000000000) - (A * 4294967296 + B1 - A / 2980232238 * 12800000000000000000) / 2980232238 * 2980232238 + 2980232238 ≥ 4294967296
    · refine Sat.unroll seat_ok 1 ?_
      conv => whnf
      repeat' ((first | refine zq1 (by omega) ?_ | refine zq2 (by omega) ?_ | refine NumH.rem (by omega) ?_ | refine zq4 (by omega) ?_ | refine zq5 (by omega) ?_ | refine zq6 ?_ | refine Req.mk (by omega) ?_ | refine Req.mk (by dsimp only; omega) ?_ | refine Req.mk ⟨rfl, rfl, rfl, by simp [ci_length, *], rfl, by simp [okCell], by dsimp only; omega, by omega, by decide⟩ ?_ | refine Req.mk (show pendP _ _ by repeat' constructor) ?_ | (with_reducible refine brT ?_ ?_; next => assumption) | (with_reducible refine brF ?_ ?_; next => assumption) | (with_reducible refine brDT ?_ ?_; next => omega) | (with_reducible refine brDF ?_ ?_; next => omega) | (with_reducible refine brET ?_ ?_; next => omega) | (with_reducible refine brEF ?_ ?_; next => omega) | (with_reducible refine brNET ?_ ?_; next => omega) | (with_reducible refine brNEF ?_ ?_; next => omega) | with_reducible refine brNot ?_); conv => whnf)
      repeat' (first | (refine NumH.is _ (fdiv_is (c := 128) (by decide) (by decide)) ?_; conv => whnf) | ((first | refine zq1 (by omega) ?_ | refine zq2 (by omega) ?_ | refine NumH.rem (by omega) ?_ | refine zq4 (by omega) ?_ | refine zq5 (by omega) ?_ | refine zq6 ?_ | refine Req.mk (by omega) ?_ | refine Req.mk (by dsimp only; omega) ?_ | refine Req.mk ⟨rfl, rfl, rfl, by simp [ci_length, *], rfl, by simp [okCell], by dsimp only; omega, by omega, by decide⟩ ?_ | refine Req.mk (show pendP _ _ by repeat' constructor) ?_ | (with_reducible refine brT ?_ ?_; next => assumption) | (with_reducible refine brF ?_ ?_; next => assumption) | (with_reducible refine brDT ?_ ?_; next => omega) | (with_reducible refine brDF ?_ ?_; next => omega) | (with_reducible refine brET ?_ ?_; next => omega) | (with_reducible refine brEF ?_ ?_; next => omega) | (with_reducible refine brNET ?_ ?_; next => omega) | (with_reducible refine brNEF ?_ ?_; next => omega) | with_reducible refine brNot ?_); conv => whnf))
      refine congrArg AEnd.ret (congrArg AV.tup ?_)
      have f := div_fin (X := (A * 4294967296 + B1 - A / 2980232238 * 12800000000000000000)) (q := (A * 4294967296 + B1 - A / 2980232238 * 12800000000000000000) / 2980232238 - 1) (by omega) b3 b4 eN2 (by omega) (by omega)
      exact List.cons_eq_cons.2 ⟨congrArg (AV.int .u64) (by rw [← f.1]; omega), List.cons_eq_cons.2 ⟨congrArg (AV.int .u64) (by first | exact f.2.1 | exact f.2.2), rfl⟩⟩
    · refine Sat.unroll seat_ok 2 ?_
      conv => whnf
      repeat' ((first | refine zq1 (by omega) ?_ | refine zq2 (by omega) ?_ | refine NumH.rem (by omega) ?_ | refine zq4 (by omega) ?_ | refine zq5 (by omega) ?_ | refine zq6 ?_ | refine Req.mk (by omega) ?_ | refine Req.mk (by dsimp only; omega) ?_ | refine Req.mk ⟨rfl, rfl, rfl, by simp [ci_length, *], rfl, by simp [okCell], by dsimp only; omega, by omega, by decide⟩ ?_ | refine Req.mk (show pendP _ _ by repeat' constructor) ?_ | (with_reducible refine brT ?_ ?_; next => assumption) | (with_reducible refine brF ?_ ?_; next => assumption) | (with_reducible refine brDT ?_ ?_; next => omega) | (with_reducible refine brDF ?_ ?_; next => omega) | (with_reducible refine brET ?_ ?_; next => omega) | (with_reducible refine brEF ?_ ?_; next => omega) | (with_reducible refine brNET ?_ ?_; next => omega) | (with_reducible refine brNEF ?_ ?_; next => omega) | with_reducible refine brNot ?_); conv => whnf)
      repeat' (first | (refine NumH.is _ (fdiv_is (c := 128) (by decide) (by decide)) ?_; conv => whnf) | ((first | refine zq1 (by omega) ?_ | refine zq2 (by omega) ?_ | refine NumH.rem (by omega) ?_ | refine zq4 (by omega) ?_ | refine zq5 (by omega) ?_ | refine zq6 ?_ | refine Req.mk (by omega) ?_ | refine Req.mk (by dsimp only; omega) ?_ | refine Req.mk ⟨rfl, rfl, rfl, by simp [ci_length, *], rfl, by simp [okCell], by dsimp only; omega, by omega, by decide⟩ ?_ | refine Req.mk (show pendP _ _ by repeat' constructor) ?_ | (with_reducible refine brT ?_ ?_; next => assumption) | (with_reducible refine brF ?_ ?_; next => assumption) | (with_reducible refine brDT ?_ ?_; next => omega) | (with_reducible refine brDF ?_ ?_; next => omega) | (with_reducible refine brET ?_ ?_; next => omega) | (with_reducible refine brEF ?_ ?_; next => omega) | (with_reducible refine brNET ?_ ?_; next => omega) | (with_reducible refine brNEF ?_ ?_; next => omega) | with_reducible refine brNot ?_); conv => whnf))
      refine congrArg AEnd.ret (congrArg AV.tup ?_)
      have f := div_fin (X := (A * 4294967296 + B1 - A / 2980232238 * 12800000000000000000)) (q := (A * 4294967296 + B1 - A / 2980232238 * 12800000000000000000) / 2980232238 - 1) (by omega) b3 b4 eN2 (by omega) (by omega)
      exact List.cons_eq_cons.2 ⟨congrArg (AV.int .u64) (by rw [← f.1]; omega), List.cons_eq_cons.2 ⟨congrArg (AV.int .u64) (by first | exact f.2.1 | exact f.2.2), rfl⟩⟩
  · refine Sat.unroll seat_ok 1 ?_
    conv => whnf
    repeat' ((first | refine zq1 (by omega) ?_ | refine zq2 (by omega) ?_ | refine NumH.rem (by omega) ?_ | refine zq4 (by omega) ?_ | refine zq5 (by omega) ?_ | refine zq6 ?_ | refine Req.mk (by omega) ?_ | refine Req.mk (by dsimp only; omega) ?_ | refine Req.mk ⟨rfl, rfl, rfl, by simp [ci_length, *], rfl, by simp [okCell], by dsimp only; omega, by omega, by decide⟩ ?_ | refine Req.mk (show pendP _ _ by repeat' constructor) ?_ | (with_reducible refine brT ?_ ?_; next => assumption) | (with_reducible refine brF ?_ ?_; next => assumption) | (with_reducible refine brDT ?_ ?_; next => omega) | (with_reducible refine brDF ?_ ?_; next => omega) | (with_reducible refine brET ?_ ?_; next => omega) | (with_reducible refine brEF ?_ ?_; next => omega) | (with_reducible refine brNET ?_ ?_; next => omega) | (with_reducible refine brNEF ?_ ?_; next => omega) | with_reducible refine brNot ?_); conv => whnf)
    repeat' (first | (refine NumH.is _ (fdiv_is (c := 128) (by decide) (by decide)) ?_; conv => whnf) | ((first | refine zq1 (by omega) ?_ | refine zq2 (by omega) ?_ | refine NumH.rem (by omega) ?_ | refine zq4 (by omega) ?_ | refine zq5 (by omega) ?_ | refine zq6 ?_ | refine Req.mk (by omega) ?_ | refine Req.mk (by dsimp only; omega) ?_ | refine Req.mk ⟨rfl, rfl, rfl, by simp [ci_length, *], rfl, by simp [okCell], by dsimp only; omega, by omega, by decide⟩ ?_ | refine Req.mk (show pendP _ _ by repeat' constructor) ?_ | (with_reducible refine brT ?_ ?_; next => assumption) | (with_reducible refine brF ?_ ?_; next => assumption) | (with_reducible refine brDT ?_ ?_; next => omega) | (with_reducible refine brDF ?_ ?_; next => omega) | (with_reducible refine brET ?_ ?_; next => omega) | (with_reducible refine brEF ?_ ?_; next => omega) | (with_reducible refine brNET ?_ ?_; next => omega) | (with_reducible refine brNEF ?_ ?_; next => omega) | with_reducible refine brNot ?_); conv => whnf))
    refine congrArg AEnd.ret (congrArg AV.tup ?_)
    have f := div_fin (X := (A * 4294967296 + B1 - A / 2980232238 * 12800000000000000000)) (q := (A * 4294967296 + B1 - A / 2980232238 * 12800000000000000000) / 2980232238) (by omega) b3 b4 eN2 (by omega) (by omega)
    exact List.cons_eq_cons.2 ⟨congrArg (AV.int .u64) (by rw [← f.1]; omega), List.cons_eq_cons.2 ⟨congrArg (AV.int .u64) (by first | exact f.2.1 | exact f.2.2), rfl⟩⟩
end Go.Proofs.YtelgbnjagbleoaaDoor
