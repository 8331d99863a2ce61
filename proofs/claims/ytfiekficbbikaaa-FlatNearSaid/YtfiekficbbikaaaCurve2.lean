/- More contracts of the curve's functions. Conditions: the numbers within the bounds that each line names. -/
import Derived.Test.YtfiekficbbikaaaCurve
set_option linter.unusedSimpArgs false
set_option linter.unusedVariables false
set_option linter.deprecated false
namespace Go.Proofs.Ytfiekficbbikaaa
open Go.Abs

theorem c_in (n : Int) : ACalls seat 45 [.int .i64 n] [] (fun x _ => x = .ret (.bool (decide (-1099511627776 ≤ n ∧ n ≤ 1099511627776)))) := by
  refine ACalls.body seat_ok Try.func45 rfl rfl ?_
  by_cases g : n ≥ -1099511627776
  · have e : decide (-1099511627776 ≤ n ∧ n ≤ 1099511627776) = decide (n ≤ 1099511627776) := decide_eq_decide.2 ⟨fun h => h.2, fun h => ⟨g, h⟩⟩
    rw [e]
    conv => whnf
    repeat' (first | (refine WrapH.quo (by omega) (by omega) (by omega) ?_; conv => whnf) | (refine NumH.rem (by omega) ?_; conv => whnf) | (refine WrapH.is _ (wrap_i64 (by omega) (by omega)) ?_; conv => whnf) | (refine WrapH.is _ (wrap_u64 (by omega) (by omega)) ?_; conv => whnf) | (refine WrapH.is _ wrap_u64m ?_; conv => whnf) | (refine Req.mk (by omega) ?_; conv => whnf) | (refine Req.mk (by dsimp only; omega) ?_; conv => whnf) | (refine Req.mk ⟨rfl, rfl, rfl, by simp [ci_length, *], rfl, by simp [okCell], by dsimp only; omega, by omega, by decide⟩ ?_; conv => whnf) | (refine Req.mk (show pendP _ _ by repeat' constructor) ?_; conv => whnf) | ((with_reducible refine brT ?_ ?_); (next => assumption); (conv => whnf)) | ((with_reducible refine brF ?_ ?_); (next => assumption); (conv => whnf)) | ((with_reducible refine brDT ?_ ?_); (next => omega); (conv => whnf)) | ((with_reducible refine brDF ?_ ?_); (next => omega); (conv => whnf)) | ((with_reducible refine brET ?_ ?_); (next => omega); (conv => whnf)) | ((with_reducible refine brEF ?_ ?_); (next => omega); (conv => whnf)) | ((with_reducible refine brNET ?_ ?_); (next => omega); (conv => whnf)) | ((with_reducible refine brNEF ?_ ?_); (next => omega); (conv => whnf)) | (with_reducible refine brNot ?_))
    rfl
  · rw [show decide (-1099511627776 ≤ n ∧ n ≤ 1099511627776) = false from decide_eq_false fun h => g h.1]
    conv => whnf
    repeat' (first | (refine WrapH.quo (by omega) (by omega) (by omega) ?_; conv => whnf) | (refine NumH.rem (by omega) ?_; conv => whnf) | (refine WrapH.is _ (wrap_i64 (by omega) (by omega)) ?_; conv => whnf) | (refine WrapH.is _ (wrap_u64 (by omega) (by omega)) ?_; conv => whnf) | (refine WrapH.is _ wrap_u64m ?_; conv => whnf) | (refine Req.mk (by omega) ?_; conv => whnf) | (refine Req.mk (by dsimp only; omega) ?_; conv => whnf) | (refine Req.mk ⟨rfl, rfl, rfl, by simp [ci_length, *], rfl, by simp [okCell], by dsimp only; omega, by omega, by decide⟩ ?_; conv => whnf) | (refine Req.mk (show pendP _ _ by repeat' constructor) ?_; conv => whnf) | ((with_reducible refine brT ?_ ?_); (next => assumption); (conv => whnf)) | ((with_reducible refine brF ?_ ?_); (next => assumption); (conv => whnf)) | ((with_reducible refine brDT ?_ ?_); (next => omega); (conv => whnf)) | ((with_reducible refine brDF ?_ ?_); (next => omega); (conv => whnf)) | ((with_reducible refine brET ?_ ?_); (next => omega); (conv => whnf)) | ((with_reducible refine brEF ?_ ?_); (next => omega); (conv => whnf)) | ((with_reducible refine brNET ?_ ?_); (next => omega); (conv => whnf)) | ((with_reducible refine brNEF ?_ ?_); (next => omega); (conv => whnf)) | (with_reducible refine brNot ?_))
    rfl
theorem c_point (p : Pt) : ACalls seat 30 [p.a] [] (fun x _ => x = .ret (.bool (decide (p.in 1099511627776)))) := by
  refine ACalls.body seat_ok Try.func30 rfl rfl ?_
  have c1 := c_in p.x
  have c2 := c_in p.y
  by_cases g : -1099511627776 ≤ p.x ∧ p.x ≤ 1099511627776
  · rw [decide_eq_true g] at c1
    rw [show decide (p.in 1099511627776) = decide (-1099511627776 ≤ p.y ∧ p.y ≤ 1099511627776) from decide_eq_decide.2 ⟨fun h => h.2, fun h => ⟨g, h⟩⟩]
    generalize decide (-1099511627776 ≤ p.y ∧ p.y ≤ 1099511627776) = b at *
    conv => whnf
    refine CallH.lift seat_g c1 (by simp [ClosedL, Closed]) (by simp [Closed]) ?_
    conv => whnf
    refine CallH.lift seat_g c2 (by simp [ClosedL, Closed]) (by simp [Closed]) ?_
    conv => whnf
    rfl
  · rw [decide_eq_false g] at c1
    rw [show decide (p.in 1099511627776) = false from decide_eq_false fun h => g h.1]
    conv => whnf
    refine CallH.lift seat_g c1 (by simp [ClosedL, Closed]) (by simp [Closed]) ?_
    conv => whnf
    rfl
theorem c_right (c : Cv) : ACalls seat 13 [c.a] [] (fun x _ => x = .ret (.bool (decide (c.in 1099511627776)))) := by
  refine ACalls.body seat_ok Try.func13 rfl rfl ?_
  have c1 := c_point c.p
  have c2 := c_point c.q
  have c3 := c_point c.r
  have c4 := c_point c.s
  by_cases g1 : c.p.in 1099511627776
  case neg =>
    rw [decide_eq_false g1] at c1
    rw [show decide (c.in 1099511627776) = false from decide_eq_false fun h => g1 h.1.1]
    conv => whnf
    refine CallH.lift seat_g c1 ⟨Pt.closed _, trivial⟩ (by simp [Closed]) ?_
    conv => whnf
    rfl
  rw [decide_eq_true g1] at c1
  by_cases g2 : c.q.in 1099511627776
  case neg =>
    rw [decide_eq_false g2] at c2
    rw [show decide (c.in 1099511627776) = false from decide_eq_false fun h => g2 h.1.2]
    conv => whnf
    refine CallH.lift seat_g c1 ⟨Pt.closed _, trivial⟩ (by simp [Closed]) ?_
    conv => whnf
    refine CallH.lift seat_g c2 ⟨Pt.closed _, trivial⟩ (by simp [Closed]) ?_
    conv => whnf
    rfl
  rw [decide_eq_true g2] at c2
  by_cases g3 : c.r.in 1099511627776
  case neg =>
    rw [decide_eq_false g3] at c3
    rw [show decide (c.in 1099511627776) = false from decide_eq_false fun h => g3 h.2.1]
    conv => whnf
    refine CallH.lift seat_g c1 ⟨Pt.closed _, trivial⟩ (by simp [Closed]) ?_
    conv => whnf
    refine CallH.lift seat_g c2 ⟨Pt.closed _, trivial⟩ (by simp [Closed]) ?_
    conv => whnf
    refine CallH.lift seat_g c3 ⟨Pt.closed _, trivial⟩ (by simp [Closed]) ?_
    conv => whnf
    rfl
  rw [decide_eq_true g3] at c3
  rw [show decide (c.in 1099511627776) = decide (c.s.in 1099511627776) from decide_eq_decide.2 ⟨fun h => h.2.2, fun h => ⟨⟨g1, g2⟩, g3, h⟩⟩]
  generalize decide (c.s.in 1099511627776) = b at *
  conv => whnf
  refine CallH.lift seat_g c1 ⟨Pt.closed _, trivial⟩ (by simp [Closed]) ?_
  conv => whnf
  refine CallH.lift seat_g c2 ⟨Pt.closed _, trivial⟩ (by simp [Closed]) ?_
  conv => whnf
  refine CallH.lift seat_g c3 ⟨Pt.closed _, trivial⟩ (by simp [Closed]) ?_
  conv => whnf
  refine CallH.lift seat_g c4 ⟨Pt.closed _, trivial⟩ (by simp [Closed]) ?_
  conv => whnf
  rfl
/-- the four points, as an array -/
theorem c_cof (c : Cv) : ACalls seat 33 [c.a] [] (fun x _ => x = .ret (.agg c.c)) := by
  refine ACalls.body seat_ok Try.func33 rfl rfl ?_
  conv => whnf
  rfl
/-- an array of four points, as a curve -/
theorem c_curve (c : Cv) : ACalls seat 38 [.agg c.c] [] (fun x _ => x = .ret c.a) := by
  refine ACalls.body seat_ok Try.func38 rfl rfl ?_
  conv => whnf
  repeat' (first | (refine WrapH.quo (by omega) (by omega) (by omega) ?_; conv => whnf) | (refine NumH.rem (by omega) ?_; conv => whnf) | (refine WrapH.is _ (wrap_i64 (by omega) (by omega)) ?_; conv => whnf) | (refine WrapH.is _ (wrap_u64 (by omega) (by omega)) ?_; conv => whnf) | (refine WrapH.is _ wrap_u64m ?_; conv => whnf) | (refine Req.mk (by omega) ?_; conv => whnf) | (refine Req.mk (by dsimp only; omega) ?_; conv => whnf) | (refine Req.mk ⟨rfl, rfl, rfl, by simp [ci_length, *], rfl, by simp [okCell], by dsimp only; omega, by omega, by decide⟩ ?_; conv => whnf) | (refine Req.mk (show pendP _ _ by repeat' constructor) ?_; conv => whnf) | ((with_reducible refine brT ?_ ?_); (next => assumption); (conv => whnf)) | ((with_reducible refine brF ?_ ?_); (next => assumption); (conv => whnf)) | ((with_reducible refine brDT ?_ ?_); (next => omega); (conv => whnf)) | ((with_reducible refine brDF ?_ ?_); (next => omega); (conv => whnf)) | ((with_reducible refine brET ?_ ?_); (next => omega); (conv => whnf)) | ((with_reducible refine brEF ?_ ?_); (next => omega); (conv => whnf)) | ((with_reducible refine brNET ?_ ?_); (next => omega); (conv => whnf)) | ((with_reducible refine brNEF ?_ ?_); (next => omega); (conv => whnf)) | (with_reducible refine brNot ?_))
  rfl
end Go.Proofs.Ytfiekficbbikaaa
