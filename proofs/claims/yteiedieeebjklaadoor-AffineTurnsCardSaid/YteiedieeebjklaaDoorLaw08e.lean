/- The law AffineTurns answers true. No condition but that the arguments are numbers of the machine. -/
import Derived.Test.YteiedieeebjklaaDoorLaw08d
set_option linter.unusedSimpArgs false
set_option linter.unusedVariables false
set_option linter.deprecated false
namespace Go.Proofs.YteiedieeebjklaaDoor
open Go.Abs
def turnM : Mx := ⟨0, 65536, -65536, 0, 0, 0⟩
def halfM : Mx := ⟨-65536, 0, 0, -65536, 0, 0⟩
theorem turn_at (p : Pt) : turnM.at' p = ⟨-p.y, p.x⟩ := by
  unfold Mx.at' turnM numZ
  simp only [Pt.mk.injEq]; omega
theorem half_at (p : Pt) : halfM.at' p = ⟨-p.x, -p.y⟩ := by
  unfold Mx.at' halfM numZ
  simp only [Pt.mk.injEq]; omega
set_option maxRecDepth 20000 in
theorem l_affineTurns (p : Pt) : ACalls seat 7 [p.a] [] (fun x _ => x = .ret (.bool true)) := by
  refine ACalls.body seat_ok Tryd.func7 rfl rfl ?_
  have ix := c_in p.x
  have iy := c_in p.y
  have c1 := c_apply turnM p
  have c2 := c_then turnM turnM
  have c3 := c_then halfM halfM
  have c4 := c_apply halfM p
  by_cases g1 : IB p.x
  case neg =>
    rw [decide_eq_false g1] at ix
    clear c1 c2 c3 c4 iy
    conv => whnf
    repeat' (first | exact rfl | (refine CallH.lift seat_g c_wakes trivial (by simp [Closed]) ?_; conv => whnf) | (refine CallH.lift seat_g ix (by simp [Closed, ClosedL]) (by simp [Closed]) ?_; conv => whnf) | (first | (refine WrapH.quo (by omega) (by omega) (by omega) ?_; conv => whnf) | (refine WrapH.quoU (by omega) (by omega) (by omega) ?_; conv => whnf) | (refine NumH.rem (by omega) ?_; conv => whnf) | (refine WrapH.is _ (wrap_i64 (by omega) (by omega)) ?_; conv => whnf) | (refine WrapH.is _ (wrap_u64 (by omega) (by omega)) ?_; conv => whnf) | (refine WrapH.is _ wrap_u64m ?_; conv => whnf) | (refine Req.mk (by omega) ?_; conv => whnf) | (refine Req.mk (by dsimp only; omega) ?_; conv => whnf) | (refine Req.mk ⟨rfl, rfl, rfl, by simp [ci_length, *], rfl, by simp [okCell], by dsimp only; omega, by omega, by decide⟩ ?_; conv => whnf) | (refine Req.mk (show pendP _ _ by repeat' constructor) ?_; conv => whnf) | ((with_reducible refine brT ?_ ?_); (next => assumption); (conv => whnf)) | ((with_reducible refine brF ?_ ?_); (next => assumption); (conv => whnf)) | ((with_reducible refine brDT ?_ ?_); (next => omega); (conv => whnf)) | ((with_reducible refine brDF ?_ ?_); (next => omega); (conv => whnf)) | ((with_reducible refine brET ?_ ?_); (next => omega); (conv => whnf)) | ((with_reducible refine brEF ?_ ?_); (next => omega); (conv => whnf)) | ((with_reducible refine brNET ?_ ?_); (next => omega); (conv => whnf)) | ((with_reducible refine brNEF ?_ ?_); (next => omega); (conv => whnf)) | (with_reducible refine brNot ?_)))
  rw [decide_eq_true g1] at ix
  by_cases g2 : IB p.y
  case neg =>
    rw [decide_eq_false g2] at iy
    clear c1 c2 c3 c4
    conv => whnf
    repeat' (first | exact rfl | (refine CallH.lift seat_g c_wakes trivial (by simp [Closed]) ?_; conv => whnf) | (refine CallH.lift seat_g ix (by simp [Closed, ClosedL]) (by simp [Closed]) ?_; conv => whnf) | (refine CallH.lift seat_g iy (by simp [Closed, ClosedL]) (by simp [Closed]) ?_; conv => whnf) | (first | (refine WrapH.quo (by omega) (by omega) (by omega) ?_; conv => whnf) | (refine WrapH.quoU (by omega) (by omega) (by omega) ?_; conv => whnf) | (refine NumH.rem (by omega) ?_; conv => whnf) | (refine WrapH.is _ (wrap_i64 (by omega) (by omega)) ?_; conv => whnf) | (refine WrapH.is _ (wrap_u64 (by omega) (by omega)) ?_; conv => whnf) | (refine WrapH.is _ wrap_u64m ?_; conv => whnf) | (refine Req.mk (by omega) ?_; conv => whnf) | (refine Req.mk (by dsimp only; omega) ?_; conv => whnf) | (refine Req.mk ⟨rfl, rfl, rfl, by simp [ci_length, *], rfl, by simp [okCell], by dsimp only; omega, by omega, by decide⟩ ?_; conv => whnf) | (refine Req.mk (show pendP _ _ by repeat' constructor) ?_; conv => whnf) | ((with_reducible refine brT ?_ ?_); (next => assumption); (conv => whnf)) | ((with_reducible refine brF ?_ ?_); (next => assumption); (conv => whnf)) | ((with_reducible refine brDT ?_ ?_); (next => omega); (conv => whnf)) | ((with_reducible refine brDF ?_ ?_); (next => omega); (conv => whnf)) | ((with_reducible refine brET ?_ ?_); (next => omega); (conv => whnf)) | ((with_reducible refine brEF ?_ ?_); (next => omega); (conv => whnf)) | ((with_reducible refine brNET ?_ ?_); (next => omega); (conv => whnf)) | ((with_reducible refine brNEF ?_ ?_); (next => omega); (conv => whnf)) | (with_reducible refine brNot ?_)))
  rw [decide_eq_true g2] at iy
  have n1 : IB (-p.x) := by unfold IB at g1 ⊢; omega
  have n2 : IB (-p.y) := by unfold IB at g2 ⊢; omega
  rw [applyV0 ⟨by decide, g1, g2⟩ (by rw [turn_at]; exact ⟨n2, g1⟩), turn_at] at c1
  rw [applyV0 ⟨by decide, g1, g2⟩ (by rw [half_at]; exact ⟨n1, n2⟩), half_at] at c4
  rw [thenV0 ⟨by decide, by decide⟩ (by decide), show thenM turnM turnM = halfM from rfl] at c2
  rw [thenV0 ⟨by decide, by decide⟩ (by decide), show thenM halfM halfM = same from rfl] at c3
  unfold IB at g1 g2
  have hb1 : (-p.y == 0 - p.y && (p.x == p.x && true)) = true := by simp
  have hb2 : (-p.x == 0 - p.x && (-p.y == 0 - p.y && true)) = true := by simp
  conv => whnf
  refine CallH.lift seat_g c_wakes trivial (by simp [Closed]) ?_
  conv => whnf
  repeat' (first | (refine CallH.lift seat_g ix (by simp [Closed, ClosedL]) (by simp [Closed]) ?_; conv => whnf) | (refine CallH.lift seat_g iy (by simp [Closed, ClosedL]) (by simp [Closed]) ?_; conv => whnf) | (first | (refine WrapH.quo (by omega) (by omega) (by omega) ?_; conv => whnf) | (refine WrapH.quoU (by omega) (by omega) (by omega) ?_; conv => whnf) | (refine NumH.rem (by omega) ?_; conv => whnf) | (refine WrapH.is _ (wrap_i64 (by omega) (by omega)) ?_; conv => whnf) | (refine WrapH.is _ (wrap_u64 (by omega) (by omega)) ?_; conv => whnf) | (refine WrapH.is _ wrap_u64m ?_; conv => whnf) | (refine Req.mk (by omega) ?_; conv => whnf) | (refine Req.mk (by dsimp only; omega) ?_; conv => whnf) | (refine Req.mk ⟨rfl, rfl, rfl, by simp [ci_length, *], rfl, by simp [okCell], by dsimp only; omega, by omega, by decide⟩ ?_; conv => whnf) | (refine Req.mk (show pendP _ _ by repeat' constructor) ?_; conv => whnf) | ((with_reducible refine brT ?_ ?_); (next => assumption); (conv => whnf)) | ((with_reducible refine brF ?_ ?_); (next => assumption); (conv => whnf)) | ((with_reducible refine brDT ?_ ?_); (next => omega); (conv => whnf)) | ((with_reducible refine brDF ?_ ?_); (next => omega); (conv => whnf)) | ((with_reducible refine brET ?_ ?_); (next => omega); (conv => whnf)) | ((with_reducible refine brEF ?_ ?_); (next => omega); (conv => whnf)) | ((with_reducible refine brNET ?_ ?_); (next => omega); (conv => whnf)) | ((with_reducible refine brNEF ?_ ?_); (next => omega); (conv => whnf)) | (with_reducible refine brNot ?_)))
  refine CallH.lift seat_g c1 ⟨Mx.closed _, Pt.closed _, trivial⟩ (by simp [Closed, ClosedL, Pt.a, Pt.c]) ?_
  conv => whnf
  refine CallH.lift seat_g c2 ⟨Mx.closed _, Mx.closed _, trivial⟩ (by simp [Closed, ClosedL, Mx.closed]) ?_
  conv => whnf
  refine CallH.lift seat_g c3 ⟨Mx.closed _, Mx.closed _, trivial⟩ (by simp [Closed, ClosedL, Mx.closed]) ?_
  conv => whnf
  refine CallH.lift seat_g c4 ⟨Mx.closed _, Pt.closed _, trivial⟩ (by simp [Closed, ClosedL, Pt.a, Pt.c]) ?_
  conv => whnf
  refine DrawH.plan seat_ok (.take 0 (.take 1 (.take 2 (.take 3 (.take 4 (.take 5 (.take 6 (.take 7 (.take 8 (.take 9 (.take 10 (.take 11 (.take 12 (.take 13 (.take 14 (.take 15 (.take 16 (.take 17 (.take 18 (.take 19 (.take 20 (.take 21 (.take 22 (.take 23 (.take 24 (.take 25 (.take 26 (.take 27 (.take 28 (.take 29 (.take 30 (.take 31 (.take 32 (.take 33 (.take 34 (.take 35 (.take 36 (.perform 37 none (.take 38 (.take 39 (.take 40 Plan.done))))))))))))))))))))))))))))))))))))))))) 0 (by kernel_rfl) ?_
  conv => whnf
  repeat' (first | exact rfl | (refine brT hb1 ?_; conv => whnf) | (refine brT hb2 ?_; conv => whnf) | (refine CallH.lift seat_g c_asame (by simp [Closed, ClosedL]) (Mx.closed _) ?_; conv => whnf) | (first | (refine WrapH.quo (by omega) (by omega) (by omega) ?_; conv => whnf) | (refine WrapH.quoU (by omega) (by omega) (by omega) ?_; conv => whnf) | (refine NumH.rem (by omega) ?_; conv => whnf) | (refine WrapH.is _ (wrap_i64 (by omega) (by omega)) ?_; conv => whnf) | (refine WrapH.is _ (wrap_u64 (by omega) (by omega)) ?_; conv => whnf) | (refine WrapH.is _ wrap_u64m ?_; conv => whnf) | (refine Req.mk (by omega) ?_; conv => whnf) | (refine Req.mk (by dsimp only; omega) ?_; conv => whnf) | (refine Req.mk ⟨rfl, rfl, rfl, by simp [ci_length, *], rfl, by simp [okCell], by dsimp only; omega, by omega, by decide⟩ ?_; conv => whnf) | (refine Req.mk (show pendP _ _ by repeat' constructor) ?_; conv => whnf) | ((with_reducible refine brT ?_ ?_); (next => assumption); (conv => whnf)) | ((with_reducible refine brF ?_ ?_); (next => assumption); (conv => whnf)) | ((with_reducible refine brDT ?_ ?_); (next => omega); (conv => whnf)) | ((with_reducible refine brDF ?_ ?_); (next => omega); (conv => whnf)) | ((with_reducible refine brET ?_ ?_); (next => omega); (conv => whnf)) | ((with_reducible refine brEF ?_ ?_); (next => omega); (conv => whnf)) | ((with_reducible refine brNET ?_ ?_); (next => omega); (conv => whnf)) | ((with_reducible refine brNEF ?_ ?_); (next => omega); (conv => whnf)) | (with_reducible refine brNot ?_)) | (refine And.intro ?_ ?_ <;> (conv => whnf)))
end Go.Proofs.YteiedieeebjklaaDoor
