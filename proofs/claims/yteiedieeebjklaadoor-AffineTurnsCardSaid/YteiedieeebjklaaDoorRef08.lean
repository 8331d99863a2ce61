/- The document's affine answers. No condition. -/
import Derived.Test.YteiedieeebjklaaDoorApply
import Derived.Test.YteiedieeebjklaaDoorNear01
set_option linter.unusedSimpArgs false
set_option linter.unusedVariables false
set_option linter.deprecated false
namespace Go.Proofs.YteiedieeebjklaaDoor
open Go.Abs
theorem c_in (n : Int) : ACalls seat 14 [.int .i64 n] [] (fun x _ => x = .ret (.bool (decide (IB n)))) := by
  refine ACalls.body seat_ok Tryd.func14 rfl rfl ?_
  by_cases h : -4294967296 < n
  · rw [show decide (IB n) = decide (n < 4294967296) from decide_eq_decide.2 ⟨fun g => g.2, fun g => ⟨h, g⟩⟩]
    conv => whnf
    repeat' (first | (refine WrapH.quo (by omega) (by omega) (by omega) ?_; conv => whnf) | (refine WrapH.quoU (by omega) (by omega) (by omega) ?_; conv => whnf) | (refine NumH.rem (by omega) ?_; conv => whnf) | (refine WrapH.is _ (wrap_i64 (by omega) (by omega)) ?_; conv => whnf) | (refine WrapH.is _ (wrap_u64 (by omega) (by omega)) ?_; conv => whnf) | (refine WrapH.is _ wrap_u64m ?_; conv => whnf) | (refine Req.mk (by omega) ?_; conv => whnf) | (refine Req.mk (by dsimp only; omega) ?_; conv => whnf) | (refine Req.mk ⟨rfl, rfl, rfl, by simp [ci_length, *], rfl, by simp [okCell], by dsimp only; omega, by omega, by decide⟩ ?_; conv => whnf) | (refine Req.mk (show pendP _ _ by repeat' constructor) ?_; conv => whnf) | ((with_reducible refine brT ?_ ?_); (next => assumption); (conv => whnf)) | ((with_reducible refine brF ?_ ?_); (next => assumption); (conv => whnf)) | ((with_reducible refine brDT ?_ ?_); (next => omega); (conv => whnf)) | ((with_reducible refine brDF ?_ ?_); (next => omega); (conv => whnf)) | ((with_reducible refine brET ?_ ?_); (next => omega); (conv => whnf)) | ((with_reducible refine brEF ?_ ?_); (next => omega); (conv => whnf)) | ((with_reducible refine brNET ?_ ?_); (next => omega); (conv => whnf)) | ((with_reducible refine brNEF ?_ ?_); (next => omega); (conv => whnf)) | (with_reducible refine brNot ?_))
    rfl
  · rw [show decide (IB n) = false from decide_eq_false (fun g => h g.1)]
    conv => whnf
    repeat' (first | (refine WrapH.quo (by omega) (by omega) (by omega) ?_; conv => whnf) | (refine WrapH.quoU (by omega) (by omega) (by omega) ?_; conv => whnf) | (refine NumH.rem (by omega) ?_; conv => whnf) | (refine WrapH.is _ (wrap_i64 (by omega) (by omega)) ?_; conv => whnf) | (refine WrapH.is _ (wrap_u64 (by omega) (by omega)) ?_; conv => whnf) | (refine WrapH.is _ wrap_u64m ?_; conv => whnf) | (refine Req.mk (by omega) ?_; conv => whnf) | (refine Req.mk (by dsimp only; omega) ?_; conv => whnf) | (refine Req.mk ⟨rfl, rfl, rfl, by simp [ci_length, *], rfl, by simp [okCell], by dsimp only; omega, by omega, by decide⟩ ?_; conv => whnf) | (refine Req.mk (show pendP _ _ by repeat' constructor) ?_; conv => whnf) | ((with_reducible refine brT ?_ ?_); (next => assumption); (conv => whnf)) | ((with_reducible refine brF ?_ ?_); (next => assumption); (conv => whnf)) | ((with_reducible refine brDT ?_ ?_); (next => omega); (conv => whnf)) | ((with_reducible refine brDF ?_ ?_); (next => omega); (conv => whnf)) | ((with_reducible refine brET ?_ ?_); (next => omega); (conv => whnf)) | ((with_reducible refine brEF ?_ ?_); (next => omega); (conv => whnf)) | ((with_reducible refine brNET ?_ ?_); (next => omega); (conv => whnf)) | ((with_reducible refine brNEF ?_ ?_); (next => omega); (conv => whnf)) | (with_reducible refine brNot ?_))
    rfl
set_option maxRecDepth 20000 in
theorem c_rright (m : Mx) : ACalls seat 13 [m.av] [] (fun x _ => x = .ret (.bool (decide m.ok))) := by
  refine ACalls.body seat_ok Tryd.func13 rfl rfl ?_
  have c1 := c_in m.a
  have c2 := c_in m.b
  have c3 := c_in m.c
  have c4 := c_in m.d
  have c5 := c_in m.e
  have c6 := c_in m.f
  have he : decide m.ok = (((((decide (IB m.a) && decide (IB m.b)) && decide (IB m.c)) && decide (IB m.d)) && decide (IB m.e)) && decide (IB m.f)) := by
    unfold Mx.ok
    by_cases h1 : IB m.a <;> by_cases h2 : IB m.b <;> by_cases h3 : IB m.c <;> by_cases h4 : IB m.d <;> by_cases h5 : IB m.e <;> by_cases h6 : IB m.f <;> simp [h1, h2, h3, h4, h5, h6]
  rw [he]
  generalize decide (IB m.a) = b1 at *
  generalize decide (IB m.b) = b2 at *
  generalize decide (IB m.c) = b3 at *
  generalize decide (IB m.d) = b4 at *
  generalize decide (IB m.e) = b5 at *
  generalize decide (IB m.f) = b6 at *
  cases b1
  case false =>
    conv => whnf
    refine CallH.lift seat_g c1 (by simp [Closed, ClosedL]) (by simp [Closed]) ?_
    conv => whnf
    rfl
  cases b2
  case false =>
    conv => whnf
    repeat' (first | exact rfl | (refine CallH.lift seat_g c1 (by simp [Closed, ClosedL]) (by simp [Closed]) ?_; conv => whnf) | (refine CallH.lift seat_g c2 (by simp [Closed, ClosedL]) (by simp [Closed]) ?_; conv => whnf))
  cases b3
  case false =>
    conv => whnf
    repeat' (first | exact rfl | (refine CallH.lift seat_g c1 (by simp [Closed, ClosedL]) (by simp [Closed]) ?_; conv => whnf) | (refine CallH.lift seat_g c2 (by simp [Closed, ClosedL]) (by simp [Closed]) ?_; conv => whnf) | (refine CallH.lift seat_g c3 (by simp [Closed, ClosedL]) (by simp [Closed]) ?_; conv => whnf))
  cases b4
  case false =>
    conv => whnf
    repeat' (first | exact rfl | (refine CallH.lift seat_g c1 (by simp [Closed, ClosedL]) (by simp [Closed]) ?_; conv => whnf) | (refine CallH.lift seat_g c2 (by simp [Closed, ClosedL]) (by simp [Closed]) ?_; conv => whnf) | (refine CallH.lift seat_g c3 (by simp [Closed, ClosedL]) (by simp [Closed]) ?_; conv => whnf) | (refine CallH.lift seat_g c4 (by simp [Closed, ClosedL]) (by simp [Closed]) ?_; conv => whnf))
  cases b5
  case false =>
    conv => whnf
    repeat' (first | exact rfl | (refine CallH.lift seat_g c1 (by simp [Closed, ClosedL]) (by simp [Closed]) ?_; conv => whnf) | (refine CallH.lift seat_g c2 (by simp [Closed, ClosedL]) (by simp [Closed]) ?_; conv => whnf) | (refine CallH.lift seat_g c3 (by simp [Closed, ClosedL]) (by simp [Closed]) ?_; conv => whnf) | (refine CallH.lift seat_g c4 (by simp [Closed, ClosedL]) (by simp [Closed]) ?_; conv => whnf) | (refine CallH.lift seat_g c5 (by simp [Closed, ClosedL]) (by simp [Closed]) ?_; conv => whnf))
  conv => whnf
  repeat' (first | exact rfl | (refine CallH.lift seat_g c1 (by simp [Closed, ClosedL]) (by simp [Closed]) ?_; conv => whnf) | (refine CallH.lift seat_g c2 (by simp [Closed, ClosedL]) (by simp [Closed]) ?_; conv => whnf) | (refine CallH.lift seat_g c3 (by simp [Closed, ClosedL]) (by simp [Closed]) ?_; conv => whnf) | (refine CallH.lift seat_g c4 (by simp [Closed, ClosedL]) (by simp [Closed]) ?_; conv => whnf) | (refine CallH.lift seat_g c5 (by simp [Closed, ClosedL]) (by simp [Closed]) ?_; conv => whnf) | (refine CallH.lift seat_g c6 (by simp [Closed, ClosedL]) (by simp [Closed]) ?_; conv => whnf))
theorem IB.i64 {n : Int} (h : IB n) : I64 n := by unfold IB at h; unfold I64; omega
theorem c_sum (a x b y c : Int) (ha : IB a) (hx : IB x) (hb : IB b) (hy : IB y) (hc : IB c) : ACalls seat 22 [.int .i64 a, .int .i64 x, .int .i64 b, .int .i64 y, .int .i64 c] [] (fun r _ => r = .ret (.int .i64 (numZ a x b y c))) := by
  refine ACalls.body seat_ok Tryd.func22 rfl rfl ?_
  have hv := num_bounds ha hx hb hy hc
  have cd := c_rdot16 a x b y ha.i64 hx.i64 hb.i64 hy.i64 (by omega)
  unfold numZ
  unfold IB at hc
  generalize (a * x + b * y + 32768) / 65536 = v at *
  conv => whnf
  refine CallH.lift seat_g cd (by simp [Closed, ClosedL]) (by simp [Closed, ClosedL]) ?_
  conv => whnf
  repeat' (first | (refine WrapH.quo (by omega) (by omega) (by omega) ?_; conv => whnf) | (refine WrapH.quoU (by omega) (by omega) (by omega) ?_; conv => whnf) | (refine NumH.rem (by omega) ?_; conv => whnf) | (refine WrapH.is _ (wrap_i64 (by omega) (by omega)) ?_; conv => whnf) | (refine WrapH.is _ (wrap_u64 (by omega) (by omega)) ?_; conv => whnf) | (refine WrapH.is _ wrap_u64m ?_; conv => whnf) | (refine Req.mk (by omega) ?_; conv => whnf) | (refine Req.mk (by dsimp only; omega) ?_; conv => whnf) | (refine Req.mk ⟨rfl, rfl, rfl, by simp [ci_length, *], rfl, by simp [okCell], by dsimp only; omega, by omega, by decide⟩ ?_; conv => whnf) | (refine Req.mk (show pendP _ _ by repeat' constructor) ?_; conv => whnf) | ((with_reducible refine brT ?_ ?_); (next => assumption); (conv => whnf)) | ((with_reducible refine brF ?_ ?_); (next => assumption); (conv => whnf)) | ((with_reducible refine brDT ?_ ?_); (next => omega); (conv => whnf)) | ((with_reducible refine brDF ?_ ?_); (next => omega); (conv => whnf)) | ((with_reducible refine brET ?_ ?_); (next => omega); (conv => whnf)) | ((with_reducible refine brEF ?_ ?_); (next => omega); (conv => whnf)) | ((with_reducible refine brNET ?_ ?_); (next => omega); (conv => whnf)) | ((with_reducible refine brNEF ?_ ?_); (next => omega); (conv => whnf)) | (with_reducible refine brNot ?_))
  rfl
set_option maxRecDepth 20000 in
theorem c_rapply (m : Mx) (p : Pt) : ACalls seat 10 [m.av, p.a] [] (fun x _ => x = .ret (applyV m p)) := by
  refine ACalls.body seat_ok Tryd.func10 rfl rfl ?_
  have cr := c_rright m
  have ix := c_in p.x
  have iy := c_in p.y
  by_cases g1 : m.ok
  case neg =>
    rw [decide_eq_false g1] at cr
    rw [applyV1 (fun h => g1 h.1)]
    conv => whnf
    refine CallH.lift seat_g cr ⟨Mx.closed _, trivial⟩ (by simp [Closed]) ?_
    conv => whnf
    rfl
  rw [decide_eq_true g1] at cr
  by_cases g2 : IB p.x
  case neg =>
    rw [decide_eq_false g2] at ix
    rw [applyV1 (fun h => g2 h.2.1)]
    conv => whnf
    repeat' (first | exact rfl | (refine CallH.lift seat_g cr ⟨Mx.closed _, trivial⟩ (by simp [Closed]) ?_; conv => whnf) | (refine CallH.lift seat_g ix (by simp [Closed, ClosedL]) (by simp [Closed]) ?_; conv => whnf))
  rw [decide_eq_true g2] at ix
  by_cases g3 : IB p.y
  case neg =>
    rw [decide_eq_false g3] at iy
    rw [applyV1 (fun h => g3 h.2.2)]
    conv => whnf
    repeat' (first | exact rfl | (refine CallH.lift seat_g cr ⟨Mx.closed _, trivial⟩ (by simp [Closed]) ?_; conv => whnf) | (refine CallH.lift seat_g ix (by simp [Closed, ClosedL]) (by simp [Closed]) ?_; conv => whnf) | (refine CallH.lift seat_g iy (by simp [Closed, ClosedL]) (by simp [Closed]) ?_; conv => whnf))
  rw [decide_eq_true g3] at iy
  have n1 := c_sum m.a p.x m.c p.y m.e g1.1.1 g2 g1.1.2.2 g3 g1.2.2.1
  have n2 := c_sum m.b p.x m.d p.y m.f g1.1.2.1 g2 g1.2.1 g3 g1.2.2.2
  have e1 := @applyV2 m p ⟨g1, g2, g3⟩
  have e2 := @applyV0 m p ⟨g1, g2, g3⟩
  unfold ptOK Mx.at' at e1 e2
  simp only at e1 e2
  generalize numZ m.a p.x m.c p.y m.e = u at *
  generalize numZ m.b p.x m.d p.y m.f = v at *
  have iu := c_in u
  have iv := c_in v
  by_cases g4 : IB u
  case neg =>
    rw [decide_eq_false g4] at iu
    rw [e1 (fun h => g4 h.1)]
    conv => whnf
    repeat' (first | (refine CallH.lift seat_g cr ⟨Mx.closed _, trivial⟩ (by simp [Closed]) ?_; conv => whnf) | (refine CallH.lift seat_g ix (by simp [Closed, ClosedL]) (by simp [Closed]) ?_; conv => whnf) | (refine CallH.lift seat_g iy (by simp [Closed, ClosedL]) (by simp [Closed]) ?_; conv => whnf) | (refine CallH.lift seat_g n1 (by simp [Closed, ClosedL]) (by simp [Closed]) ?_; conv => whnf) | (refine CallH.lift seat_g n2 (by simp [Closed, ClosedL]) (by simp [Closed]) ?_; conv => whnf) | (refine CallH.lift seat_g iu (by simp [Closed, ClosedL]) (by simp [Closed]) ?_; conv => whnf) | (refine CallH.lift seat_g iv (by simp [Closed, ClosedL]) (by simp [Closed]) ?_; conv => whnf) | (first | (refine WrapH.quo (by omega) (by omega) (by omega) ?_; conv => whnf) | (refine WrapH.quoU (by omega) (by omega) (by omega) ?_; conv => whnf) | (refine NumH.rem (by omega) ?_; conv => whnf) | (refine WrapH.is _ (wrap_i64 (by omega) (by omega)) ?_; conv => whnf) | (refine WrapH.is _ (wrap_u64 (by omega) (by omega)) ?_; conv => whnf) | (refine WrapH.is _ wrap_u64m ?_; conv => whnf) | (refine Req.mk (by omega) ?_; conv => whnf) | (refine Req.mk (by dsimp only; omega) ?_; conv => whnf) | (refine Req.mk ⟨rfl, rfl, rfl, by simp [ci_length, *], rfl, by simp [okCell], by dsimp only; omega, by omega, by decide⟩ ?_; conv => whnf) | (refine Req.mk (show pendP _ _ by repeat' constructor) ?_; conv => whnf) | ((with_reducible refine brT ?_ ?_); (next => assumption); (conv => whnf)) | ((with_reducible refine brF ?_ ?_); (next => assumption); (conv => whnf)) | ((with_reducible refine brDT ?_ ?_); (next => omega); (conv => whnf)) | ((with_reducible refine brDF ?_ ?_); (next => omega); (conv => whnf)) | ((with_reducible refine brET ?_ ?_); (next => omega); (conv => whnf)) | ((with_reducible refine brEF ?_ ?_); (next => omega); (conv => whnf)) | ((with_reducible refine brNET ?_ ?_); (next => omega); (conv => whnf)) | ((with_reducible refine brNEF ?_ ?_); (next => omega); (conv => whnf)) | (with_reducible refine brNot ?_)))
    refine DrawH.plan seat_ok (.take 0 (.take 1 (.take 2 (.take 3 (.take 4 (.take 5 (.take 6 (.take 7 (.take 8 (.take 9 (.take 11 (.take 12 (.take 13 (.take 14 (.take 15 (.take 16 (.take 17 (.take 18 (.take 19 (.take 20 (.both (.perform 10 none (.both (.perform 21 none (.take 22 (.perform 23 (some 3) (.perform 24 none Plan.done)))) (.perform 23 (some 3) (.perform 21 none (.take 22 (.perform 24 none Plan.done)))))) (.perform 23 (some 3) (.perform 10 none (.perform 21 none (.take 22 (.perform 24 none Plan.done)))))))))))))))))))))))))) 1 (by kernel_rfl) ?_
    conv => whnf
    repeat' (first | exact rfl | (refine CallH.lift seat_g cr ⟨Mx.closed _, trivial⟩ (by simp [Closed]) ?_; conv => whnf) | (refine CallH.lift seat_g ix (by simp [Closed, ClosedL]) (by simp [Closed]) ?_; conv => whnf) | (refine CallH.lift seat_g iy (by simp [Closed, ClosedL]) (by simp [Closed]) ?_; conv => whnf) | (refine CallH.lift seat_g n1 (by simp [Closed, ClosedL]) (by simp [Closed]) ?_; conv => whnf) | (refine CallH.lift seat_g n2 (by simp [Closed, ClosedL]) (by simp [Closed]) ?_; conv => whnf) | (refine CallH.lift seat_g iu (by simp [Closed, ClosedL]) (by simp [Closed]) ?_; conv => whnf) | (refine CallH.lift seat_g iv (by simp [Closed, ClosedL]) (by simp [Closed]) ?_; conv => whnf) | (first | (refine WrapH.quo (by omega) (by omega) (by omega) ?_; conv => whnf) | (refine WrapH.quoU (by omega) (by omega) (by omega) ?_; conv => whnf) | (refine NumH.rem (by omega) ?_; conv => whnf) | (refine WrapH.is _ (wrap_i64 (by omega) (by omega)) ?_; conv => whnf) | (refine WrapH.is _ (wrap_u64 (by omega) (by omega)) ?_; conv => whnf) | (refine WrapH.is _ wrap_u64m ?_; conv => whnf) | (refine Req.mk (by omega) ?_; conv => whnf) | (refine Req.mk (by dsimp only; omega) ?_; conv => whnf) | (refine Req.mk ⟨rfl, rfl, rfl, by simp [ci_length, *], rfl, by simp [okCell], by dsimp only; omega, by omega, by decide⟩ ?_; conv => whnf) | (refine Req.mk (show pendP _ _ by repeat' constructor) ?_; conv => whnf) | ((with_reducible refine brT ?_ ?_); (next => assumption); (conv => whnf)) | ((with_reducible refine brF ?_ ?_); (next => assumption); (conv => whnf)) | ((with_reducible refine brDT ?_ ?_); (next => omega); (conv => whnf)) | ((with_reducible refine brDF ?_ ?_); (next => omega); (conv => whnf)) | ((with_reducible refine brET ?_ ?_); (next => omega); (conv => whnf)) | ((with_reducible refine brEF ?_ ?_); (next => omega); (conv => whnf)) | ((with_reducible refine brNET ?_ ?_); (next => omega); (conv => whnf)) | ((with_reducible refine brNEF ?_ ?_); (next => omega); (conv => whnf)) | (with_reducible refine brNot ?_)) | (refine And.intro ?_ ?_ <;> (conv => whnf)))
  rw [decide_eq_true g4] at iu
  by_cases g5 : IB v
  case neg =>
    rw [decide_eq_false g5] at iv
    rw [e1 (fun h => g5 h.2)]
    conv => whnf
    repeat' (first | (refine CallH.lift seat_g cr ⟨Mx.closed _, trivial⟩ (by simp [Closed]) ?_; conv => whnf) | (refine CallH.lift seat_g ix (by simp [Closed, ClosedL]) (by simp [Closed]) ?_; conv => whnf) | (refine CallH.lift seat_g iy (by simp [Closed, ClosedL]) (by simp [Closed]) ?_; conv => whnf) | (refine CallH.lift seat_g n1 (by simp [Closed, ClosedL]) (by simp [Closed]) ?_; conv => whnf) | (refine CallH.lift seat_g n2 (by simp [Closed, ClosedL]) (by simp [Closed]) ?_; conv => whnf) | (refine CallH.lift seat_g iu (by simp [Closed, ClosedL]) (by simp [Closed]) ?_; conv => whnf) | (refine CallH.lift seat_g iv (by simp [Closed, ClosedL]) (by simp [Closed]) ?_; conv => whnf) | (first | (refine WrapH.quo (by omega) (by omega) (by omega) ?_; conv => whnf) | (refine WrapH.quoU (by omega) (by omega) (by omega) ?_; conv => whnf) | (refine NumH.rem (by omega) ?_; conv => whnf) | (refine WrapH.is _ (wrap_i64 (by omega) (by omega)) ?_; conv => whnf) | (refine WrapH.is _ (wrap_u64 (by omega) (by omega)) ?_; conv => whnf) | (refine WrapH.is _ wrap_u64m ?_; conv => whnf) | (refine Req.mk (by omega) ?_; conv => whnf) | (refine Req.mk (by dsimp only; omega) ?_; conv => whnf) | (refine Req.mk ⟨rfl, rfl, rfl, by simp [ci_length, *], rfl, by simp [okCell], by dsimp only; omega, by omega, by decide⟩ ?_; conv => whnf) | (refine Req.mk (show pendP _ _ by repeat' constructor) ?_; conv => whnf) | ((with_reducible refine brT ?_ ?_); (next => assumption); (conv => whnf)) | ((with_reducible refine brF ?_ ?_); (next => assumption); (conv => whnf)) | ((with_reducible refine brDT ?_ ?_); (next => omega); (conv => whnf)) | ((with_reducible refine brDF ?_ ?_); (next => omega); (conv => whnf)) | ((with_reducible refine brET ?_ ?_); (next => omega); (conv => whnf)) | ((with_reducible refine brEF ?_ ?_); (next => omega); (conv => whnf)) | ((with_reducible refine brNET ?_ ?_); (next => omega); (conv => whnf)) | ((with_reducible refine brNEF ?_ ?_); (next => omega); (conv => whnf)) | (with_reducible refine brNot ?_)))
    refine DrawH.plan seat_ok (.take 0 (.take 1 (.take 2 (.take 3 (.take 4 (.take 5 (.take 6 (.take 7 (.take 8 (.take 9 (.take 11 (.take 12 (.take 13 (.take 14 (.take 15 (.take 16 (.take 17 (.take 18 (.take 19 (.take 20 (.both (.perform 10 none (.both (.perform 21 none (.take 22 (.perform 23 (some 3) (.perform 24 none Plan.done)))) (.perform 23 (some 3) (.perform 21 none (.take 22 (.perform 24 none Plan.done)))))) (.perform 23 (some 3) (.perform 10 none (.perform 21 none (.take 22 (.perform 24 none Plan.done)))))))))))))))))))))))))) 1 (by kernel_rfl) ?_
    conv => whnf
    repeat' (first | exact rfl | (refine CallH.lift seat_g cr ⟨Mx.closed _, trivial⟩ (by simp [Closed]) ?_; conv => whnf) | (refine CallH.lift seat_g ix (by simp [Closed, ClosedL]) (by simp [Closed]) ?_; conv => whnf) | (refine CallH.lift seat_g iy (by simp [Closed, ClosedL]) (by simp [Closed]) ?_; conv => whnf) | (refine CallH.lift seat_g n1 (by simp [Closed, ClosedL]) (by simp [Closed]) ?_; conv => whnf) | (refine CallH.lift seat_g n2 (by simp [Closed, ClosedL]) (by simp [Closed]) ?_; conv => whnf) | (refine CallH.lift seat_g iu (by simp [Closed, ClosedL]) (by simp [Closed]) ?_; conv => whnf) | (refine CallH.lift seat_g iv (by simp [Closed, ClosedL]) (by simp [Closed]) ?_; conv => whnf) | (first | (refine WrapH.quo (by omega) (by omega) (by omega) ?_; conv => whnf) | (refine WrapH.quoU (by omega) (by omega) (by omega) ?_; conv => whnf) | (refine NumH.rem (by omega) ?_; conv => whnf) | (refine WrapH.is _ (wrap_i64 (by omega) (by omega)) ?_; conv => whnf) | (refine WrapH.is _ (wrap_u64 (by omega) (by omega)) ?_; conv => whnf) | (refine WrapH.is _ wrap_u64m ?_; conv => whnf) | (refine Req.mk (by omega) ?_; conv => whnf) | (refine Req.mk (by dsimp only; omega) ?_; conv => whnf) | (refine Req.mk ⟨rfl, rfl, rfl, by simp [ci_length, *], rfl, by simp [okCell], by dsimp only; omega, by omega, by decide⟩ ?_; conv => whnf) | (refine Req.mk (show pendP _ _ by repeat' constructor) ?_; conv => whnf) | ((with_reducible refine brT ?_ ?_); (next => assumption); (conv => whnf)) | ((with_reducible refine brF ?_ ?_); (next => assumption); (conv => whnf)) | ((with_reducible refine brDT ?_ ?_); (next => omega); (conv => whnf)) | ((with_reducible refine brDF ?_ ?_); (next => omega); (conv => whnf)) | ((with_reducible refine brET ?_ ?_); (next => omega); (conv => whnf)) | ((with_reducible refine brEF ?_ ?_); (next => omega); (conv => whnf)) | ((with_reducible refine brNET ?_ ?_); (next => omega); (conv => whnf)) | ((with_reducible refine brNEF ?_ ?_); (next => omega); (conv => whnf)) | (with_reducible refine brNot ?_)) | (refine And.intro ?_ ?_ <;> (conv => whnf)))
  case pos =>
    rw [decide_eq_true g5] at iv
    rw [e2 ⟨g4, g5⟩]
    conv => whnf
    repeat' (first | (refine CallH.lift seat_g cr ⟨Mx.closed _, trivial⟩ (by simp [Closed]) ?_; conv => whnf) | (refine CallH.lift seat_g ix (by simp [Closed, ClosedL]) (by simp [Closed]) ?_; conv => whnf) | (refine CallH.lift seat_g iy (by simp [Closed, ClosedL]) (by simp [Closed]) ?_; conv => whnf) | (refine CallH.lift seat_g n1 (by simp [Closed, ClosedL]) (by simp [Closed]) ?_; conv => whnf) | (refine CallH.lift seat_g n2 (by simp [Closed, ClosedL]) (by simp [Closed]) ?_; conv => whnf) | (refine CallH.lift seat_g iu (by simp [Closed, ClosedL]) (by simp [Closed]) ?_; conv => whnf) | (refine CallH.lift seat_g iv (by simp [Closed, ClosedL]) (by simp [Closed]) ?_; conv => whnf) | (first | (refine WrapH.quo (by omega) (by omega) (by omega) ?_; conv => whnf) | (refine WrapH.quoU (by omega) (by omega) (by omega) ?_; conv => whnf) | (refine NumH.rem (by omega) ?_; conv => whnf) | (refine WrapH.is _ (wrap_i64 (by omega) (by omega)) ?_; conv => whnf) | (refine WrapH.is _ (wrap_u64 (by omega) (by omega)) ?_; conv => whnf) | (refine WrapH.is _ wrap_u64m ?_; conv => whnf) | (refine Req.mk (by omega) ?_; conv => whnf) | (refine Req.mk (by dsimp only; omega) ?_; conv => whnf) | (refine Req.mk ⟨rfl, rfl, rfl, by simp [ci_length, *], rfl, by simp [okCell], by dsimp only; omega, by omega, by decide⟩ ?_; conv => whnf) | (refine Req.mk (show pendP _ _ by repeat' constructor) ?_; conv => whnf) | ((with_reducible refine brT ?_ ?_); (next => assumption); (conv => whnf)) | ((with_reducible refine brF ?_ ?_); (next => assumption); (conv => whnf)) | ((with_reducible refine brDT ?_ ?_); (next => omega); (conv => whnf)) | ((with_reducible refine brDF ?_ ?_); (next => omega); (conv => whnf)) | ((with_reducible refine brET ?_ ?_); (next => omega); (conv => whnf)) | ((with_reducible refine brEF ?_ ?_); (next => omega); (conv => whnf)) | ((with_reducible refine brNET ?_ ?_); (next => omega); (conv => whnf)) | ((with_reducible refine brNEF ?_ ?_); (next => omega); (conv => whnf)) | (with_reducible refine brNot ?_)))
    refine DrawH.plan seat_ok (.take 0 (.take 1 (.take 2 (.take 3 (.take 4 (.take 5 (.take 6 (.take 7 (.take 8 (.take 9 (.take 11 (.take 12 (.take 13 (.take 14 (.take 15 (.take 16 (.take 17 (.take 18 (.take 19 (.take 20 (.both (.perform 10 none (.both (.perform 21 none (.take 22 (.perform 23 (some 3) (.perform 24 none Plan.done)))) (.perform 23 (some 3) (.perform 21 none (.take 22 (.perform 24 none Plan.done)))))) (.perform 23 (some 3) (.perform 10 none (.perform 21 none (.take 22 (.perform 24 none Plan.done)))))))))))))))))))))))))) 1 (by kernel_rfl) ?_
    conv => whnf
    repeat' (first | exact rfl | (refine CallH.lift seat_g cr ⟨Mx.closed _, trivial⟩ (by simp [Closed]) ?_; conv => whnf) | (refine CallH.lift seat_g ix (by simp [Closed, ClosedL]) (by simp [Closed]) ?_; conv => whnf) | (refine CallH.lift seat_g iy (by simp [Closed, ClosedL]) (by simp [Closed]) ?_; conv => whnf) | (refine CallH.lift seat_g n1 (by simp [Closed, ClosedL]) (by simp [Closed]) ?_; conv => whnf) | (refine CallH.lift seat_g n2 (by simp [Closed, ClosedL]) (by simp [Closed]) ?_; conv => whnf) | (refine CallH.lift seat_g iu (by simp [Closed, ClosedL]) (by simp [Closed]) ?_; conv => whnf) | (refine CallH.lift seat_g iv (by simp [Closed, ClosedL]) (by simp [Closed]) ?_; conv => whnf) | (first | (refine WrapH.quo (by omega) (by omega) (by omega) ?_; conv => whnf) | (refine WrapH.quoU (by omega) (by omega) (by omega) ?_; conv => whnf) | (refine NumH.rem (by omega) ?_; conv => whnf) | (refine WrapH.is _ (wrap_i64 (by omega) (by omega)) ?_; conv => whnf) | (refine WrapH.is _ (wrap_u64 (by omega) (by omega)) ?_; conv => whnf) | (refine WrapH.is _ wrap_u64m ?_; conv => whnf) | (refine Req.mk (by omega) ?_; conv => whnf) | (refine Req.mk (by dsimp only; omega) ?_; conv => whnf) | (refine Req.mk ⟨rfl, rfl, rfl, by simp [ci_length, *], rfl, by simp [okCell], by dsimp only; omega, by omega, by decide⟩ ?_; conv => whnf) | (refine Req.mk (show pendP _ _ by repeat' constructor) ?_; conv => whnf) | ((with_reducible refine brT ?_ ?_); (next => assumption); (conv => whnf)) | ((with_reducible refine brF ?_ ?_); (next => assumption); (conv => whnf)) | ((with_reducible refine brDT ?_ ?_); (next => omega); (conv => whnf)) | ((with_reducible refine brDF ?_ ?_); (next => omega); (conv => whnf)) | ((with_reducible refine brET ?_ ?_); (next => omega); (conv => whnf)) | ((with_reducible refine brEF ?_ ?_); (next => omega); (conv => whnf)) | ((with_reducible refine brNET ?_ ?_); (next => omega); (conv => whnf)) | ((with_reducible refine brNEF ?_ ?_); (next => omega); (conv => whnf)) | (with_reducible refine brNot ?_)) | (refine And.intro ?_ ?_ <;> (conv => whnf)))
end Go.Proofs.YteiedieeebjklaaDoor
