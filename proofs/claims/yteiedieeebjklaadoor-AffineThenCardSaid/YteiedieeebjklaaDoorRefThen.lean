/- The document's Then. No condition. -/
import Derived.Test.YteiedieeebjklaaDoorThen
set_option linter.unusedSimpArgs false
set_option linter.unusedVariables false
set_option linter.deprecated false
namespace Go.Proofs.YteiedieeebjklaaDoor
open Go.Abs
set_option maxRecDepth 20000 in
set_option maxHeartbeats 4000000 in
theorem c_rthen (m n : Mx) : ACalls seat 18 [m.av, n.av] [] (fun x _ => x = .ret (thenV m n)) := by
  refine ACalls.body seat_ok Tryd.func18 rfl rfl ?_
  have r1 := c_rright m
  have r2 := c_rright n
  by_cases g1 : m.ok
  case neg =>
    rw [decide_eq_false g1] at r1
    rw [thenV1 (fun h => g1 h.1)]
    conv => whnf
    repeat' (first | exact rfl | (refine CallH.lift seat_g r1 ⟨Mx.closed _, trivial⟩ (by simp [Closed, ClosedL]) ?_; conv => whnf) | (refine CallH.lift seat_g r2 ⟨Mx.closed _, trivial⟩ (by simp [Closed, ClosedL]) ?_; conv => whnf) | (first | (refine WrapH.quo (by omega) (by omega) (by omega) ?_; conv => whnf) | (refine WrapH.quoU (by omega) (by omega) (by omega) ?_; conv => whnf) | (refine NumH.rem (by omega) ?_; conv => whnf) | (refine WrapH.is _ (wrap_i64 (by omega) (by omega)) ?_; conv => whnf) | (refine WrapH.is _ (wrap_u64 (by omega) (by omega)) ?_; conv => whnf) | (refine WrapH.is _ wrap_u64m ?_; conv => whnf) | (refine Req.mk (by omega) ?_; conv => whnf) | (refine Req.mk (by dsimp only; omega) ?_; conv => whnf) | (refine Req.mk ⟨rfl, rfl, rfl, by simp [ci_length, *], rfl, by simp [okCell], by dsimp only; omega, by omega, by decide⟩ ?_; conv => whnf) | (refine Req.mk (show pendP _ _ by repeat' constructor) ?_; conv => whnf) | ((with_reducible refine brT ?_ ?_); (next => assumption); (conv => whnf)) | ((with_reducible refine brF ?_ ?_); (next => assumption); (conv => whnf)) | ((with_reducible refine brDT ?_ ?_); (next => omega); (conv => whnf)) | ((with_reducible refine brDF ?_ ?_); (next => omega); (conv => whnf)) | ((with_reducible refine brET ?_ ?_); (next => omega); (conv => whnf)) | ((with_reducible refine brEF ?_ ?_); (next => omega); (conv => whnf)) | ((with_reducible refine brNET ?_ ?_); (next => omega); (conv => whnf)) | ((with_reducible refine brNEF ?_ ?_); (next => omega); (conv => whnf)) | (with_reducible refine brNot ?_)))
  rw [decide_eq_true g1] at r1
  by_cases g2 : n.ok
  case neg =>
    rw [decide_eq_false g2] at r2
    rw [thenV1 (fun h => g2 h.2)]
    conv => whnf
    repeat' (first | exact rfl | (refine CallH.lift seat_g r1 ⟨Mx.closed _, trivial⟩ (by simp [Closed, ClosedL]) ?_; conv => whnf) | (refine CallH.lift seat_g r2 ⟨Mx.closed _, trivial⟩ (by simp [Closed, ClosedL]) ?_; conv => whnf) | (first | (refine WrapH.quo (by omega) (by omega) (by omega) ?_; conv => whnf) | (refine WrapH.quoU (by omega) (by omega) (by omega) ?_; conv => whnf) | (refine NumH.rem (by omega) ?_; conv => whnf) | (refine WrapH.is _ (wrap_i64 (by omega) (by omega)) ?_; conv => whnf) | (refine WrapH.is _ (wrap_u64 (by omega) (by omega)) ?_; conv => whnf) | (refine WrapH.is _ wrap_u64m ?_; conv => whnf) | (refine Req.mk (by omega) ?_; conv => whnf) | (refine Req.mk (by dsimp only; omega) ?_; conv => whnf) | (refine Req.mk ⟨rfl, rfl, rfl, by simp [ci_length, *], rfl, by simp [okCell], by dsimp only; omega, by omega, by decide⟩ ?_; conv => whnf) | (refine Req.mk (show pendP _ _ by repeat' constructor) ?_; conv => whnf) | ((with_reducible refine brT ?_ ?_); (next => assumption); (conv => whnf)) | ((with_reducible refine brF ?_ ?_); (next => assumption); (conv => whnf)) | ((with_reducible refine brDT ?_ ?_); (next => omega); (conv => whnf)) | ((with_reducible refine brDF ?_ ?_); (next => omega); (conv => whnf)) | ((with_reducible refine brET ?_ ?_); (next => omega); (conv => whnf)) | ((with_reducible refine brEF ?_ ?_); (next => omega); (conv => whnf)) | ((with_reducible refine brNET ?_ ?_); (next => omega); (conv => whnf)) | ((with_reducible refine brNEF ?_ ?_); (next => omega); (conv => whnf)) | (with_reducible refine brNot ?_)))
  rw [decide_eq_true g2] at r2
  have e2 := @thenV2 m n ⟨g1, g2⟩
  have e0 := @thenV0 m n ⟨g1, g2⟩
  obtain ⟨⟨ma, mb, mc⟩, md, me, mf⟩ := g1
  obtain ⟨⟨na, nb, nc⟩, nd, ne, nf⟩ := g2
  have z : IB 0 := by decide
  have n1 := c_sum n.a m.a n.c m.b 0 na ma nc mb z
  have n2 := c_sum n.b m.a n.d m.b 0 nb ma nd mb z
  have n3 := c_sum n.a m.c n.c m.d 0 na mc nc md z
  have n4 := c_sum n.b m.c n.d m.d 0 nb mc nd md z
  have n5 := c_sum n.a m.e n.c m.f n.e na me nc mf ne
  have n6 := c_sum n.b m.e n.d m.f n.f nb me nd mf nf
  have r3 := c_rright (thenM m n)
  clear ma mb mc md me mf na nb nc nd ne nf z
  obtain ⟨t, ht⟩ : ∃ t, t = thenM m n := ⟨_, rfl⟩
  have t1 : numZ n.a m.a n.c m.b 0 = t.a := by rw [ht]; rfl
  have t2 : numZ n.b m.a n.d m.b 0 = t.b := by rw [ht]; rfl
  have t3 : numZ n.a m.c n.c m.d 0 = t.c := by rw [ht]; rfl
  have t4 : numZ n.b m.c n.d m.d 0 = t.d := by rw [ht]; rfl
  have t5 : numZ n.a m.e n.c m.f n.e = t.e := by rw [ht]; rfl
  have t6 : numZ n.b m.e n.d m.f n.f = t.f := by rw [ht]; rfl
  rw [t1] at n1
  rw [t2] at n2
  rw [t3] at n3
  rw [t4] at n4
  rw [t5] at n5
  rw [t6] at n6
  rw [← ht] at e0 e2 r3
  clear t1 t2 t3 t4 t5 t6 ht
  conv => whnf
  repeat' (first | (refine CallH.lift seat_g r1 ⟨Mx.closed _, trivial⟩ (by simp [Closed, ClosedL]) ?_; conv => whnf) | (refine CallH.lift seat_g r2 ⟨Mx.closed _, trivial⟩ (by simp [Closed, ClosedL]) ?_; conv => whnf) | (first | (refine WrapH.quo (by omega) (by omega) (by omega) ?_; conv => whnf) | (refine WrapH.quoU (by omega) (by omega) (by omega) ?_; conv => whnf) | (refine NumH.rem (by omega) ?_; conv => whnf) | (refine WrapH.is _ (wrap_i64 (by omega) (by omega)) ?_; conv => whnf) | (refine WrapH.is _ (wrap_u64 (by omega) (by omega)) ?_; conv => whnf) | (refine WrapH.is _ wrap_u64m ?_; conv => whnf) | (refine Req.mk (by omega) ?_; conv => whnf) | (refine Req.mk (by dsimp only; omega) ?_; conv => whnf) | (refine Req.mk ⟨rfl, rfl, rfl, by simp [ci_length, *], rfl, by simp [okCell], by dsimp only; omega, by omega, by decide⟩ ?_; conv => whnf) | (refine Req.mk (show pendP _ _ by repeat' constructor) ?_; conv => whnf) | ((with_reducible refine brT ?_ ?_); (next => assumption); (conv => whnf)) | ((with_reducible refine brF ?_ ?_); (next => assumption); (conv => whnf)) | ((with_reducible refine brDT ?_ ?_); (next => omega); (conv => whnf)) | ((with_reducible refine brDF ?_ ?_); (next => omega); (conv => whnf)) | ((with_reducible refine brET ?_ ?_); (next => omega); (conv => whnf)) | ((with_reducible refine brEF ?_ ?_); (next => omega); (conv => whnf)) | ((with_reducible refine brNET ?_ ?_); (next => omega); (conv => whnf)) | ((with_reducible refine brNEF ?_ ?_); (next => omega); (conv => whnf)) | (with_reducible refine brNot ?_)))
  refine DrawH.cut (AV.undef :: AV.undef :: AV.undef :: AV.undef :: .ptr 2 0 :: .int .i64 0 :: .ptr 3 0 :: AV.undef :: AV.undef :: AV.undef :: AV.undef :: AV.undef :: AV.undef :: AV.undef :: AV.undef :: AV.undef :: AV.undef :: AV.undef :: AV.undef :: AV.undef :: AV.undef :: AV.undef :: AV.undef :: AV.undef :: AV.undef :: AV.undef :: AV.undef :: AV.undef :: AV.undef :: AV.undef :: AV.undef :: AV.undef :: AV.undef :: AV.undef :: AV.undef :: AV.undef :: AV.undef :: AV.undef :: AV.undef :: AV.undef :: AV.undef :: AV.undef :: AV.undef :: AV.undef :: AV.undef :: AV.undef :: AV.undef :: AV.undef :: AV.undef :: AV.undef :: AV.undef :: AV.undef :: AV.undef :: AV.undef :: AV.undef :: AV.undef :: AV.undef :: AV.undef :: AV.undef :: AV.undef :: AV.undef :: AV.undef :: AV.undef :: AV.undef :: AV.undef :: AV.undef :: AV.undef :: AV.undef :: AV.undef :: AV.undef :: AV.undef :: AV.undef :: AV.undef :: AV.undef :: AV.undef :: AV.undef :: AV.undef :: AV.undef :: AV.undef :: AV.undef :: []) [.var m.c' 23, .var n.c' 23, .var zeroM.c' 23, .var t.c' 23] ?_ ?_
  · clear e0 e2 r1 r2 r3
    refine DrawH.plan seat_ok (.take 0 (.take 1 (.take 2 (.take 3 (.take 4 (.take 5 (.take 6 (.take 7 (.take 9 (.take 10 (.take 11 (.take 12 (.take 13 (.take 14 (.take 15 (.take 16 (.take 18 (.take 19 (.take 20 (.take 21 (.take 22 (.take 23 (.take 24 (.take 25 (.take 27 (.take 28 (.take 29 (.take 30 (.take 31 (.take 32 (.take 33 (.take 34 (.take 36 (.take 37 (.take 38 (.take 39 (.take 40 (.take 41 (.take 42 (.take 43 (.take 44 (.take 45 (.take 47 (.take 48 (.take 49 (.take 50 (.take 51 (.take 52 (.take 53 (.take 54 (.take 55 (.take 56 (.both (.perform 8 none (.both (.perform 17 none (.both (.perform 26 none (.both (.perform 35 none (.both (.perform 46 none (.both (.perform 57 none (.take 58 (.perform 59 (some 3) (.perform 60 none Plan.done)))) (.perform 59 (some 3) (.perform 57 none (.take 58 (.perform 60 none Plan.done)))))) (.perform 59 (some 3) (.perform 46 none (.perform 57 none (.take 58 (.perform 60 none Plan.done))))))) (.perform 59 (some 3) (.perform 35 none (.perform 46 none (.perform 57 none (.take 58 (.perform 60 none Plan.done)))))))) (.perform 59 (some 3) (.perform 26 none (.perform 35 none (.perform 46 none (.perform 57 none (.take 58 (.perform 60 none Plan.done))))))))) (.perform 59 (some 3) (.perform 17 none (.perform 26 none (.perform 35 none (.perform 46 none (.perform 57 none (.take 58 (.perform 60 none Plan.done)))))))))) (.perform 59 (some 3) (.perform 8 none (.perform 17 none (.perform 26 none (.perform 35 none (.perform 46 none (.perform 57 none (.take 58 (.perform 60 none Plan.done)))))))))))))))))))))))))))))))))))))))))))))))))))))))))))))) 1 (by kernel_rfl) ?_
    conv => whnf
    repeat' (first | exact ⟨rfl, keepT_weak (maskOf 80 [4, 5, 6]) _, rfl⟩ | (refine CallH.lift seat_g n1 (by simp [Closed, ClosedL]) (by simp [Closed, ClosedL]) ?_; conv => whnf) | (refine CallH.lift seat_g n2 (by simp [Closed, ClosedL]) (by simp [Closed, ClosedL]) ?_; conv => whnf) | (refine CallH.lift seat_g n3 (by simp [Closed, ClosedL]) (by simp [Closed, ClosedL]) ?_; conv => whnf) | (refine CallH.lift seat_g n4 (by simp [Closed, ClosedL]) (by simp [Closed, ClosedL]) ?_; conv => whnf) | (refine CallH.lift seat_g n5 (by simp [Closed, ClosedL]) (by simp [Closed, ClosedL]) ?_; conv => whnf) | (refine CallH.lift seat_g n6 (by simp [Closed, ClosedL]) (by simp [Closed, ClosedL]) ?_; conv => whnf) | (first | (refine WrapH.quo (by omega) (by omega) (by omega) ?_; conv => whnf) | (refine WrapH.quoU (by omega) (by omega) (by omega) ?_; conv => whnf) | (refine NumH.rem (by omega) ?_; conv => whnf) | (refine WrapH.is _ (wrap_i64 (by omega) (by omega)) ?_; conv => whnf) | (refine WrapH.is _ (wrap_u64 (by omega) (by omega)) ?_; conv => whnf) | (refine WrapH.is _ wrap_u64m ?_; conv => whnf) | (refine Req.mk (by omega) ?_; conv => whnf) | (refine Req.mk (by dsimp only; omega) ?_; conv => whnf) | (refine Req.mk ⟨rfl, rfl, rfl, by simp [ci_length, *], rfl, by simp [okCell], by dsimp only; omega, by omega, by decide⟩ ?_; conv => whnf) | (refine Req.mk (show pendP _ _ by repeat' constructor) ?_; conv => whnf) | ((with_reducible refine brT ?_ ?_); (next => assumption); (conv => whnf)) | ((with_reducible refine brF ?_ ?_); (next => assumption); (conv => whnf)) | ((with_reducible refine brDT ?_ ?_); (next => omega); (conv => whnf)) | ((with_reducible refine brDF ?_ ?_); (next => omega); (conv => whnf)) | ((with_reducible refine brET ?_ ?_); (next => omega); (conv => whnf)) | ((with_reducible refine brEF ?_ ?_); (next => omega); (conv => whnf)) | ((with_reducible refine brNET ?_ ?_); (next => omega); (conv => whnf)) | ((with_reducible refine brNEF ?_ ?_); (next => omega); (conv => whnf)) | (with_reducible refine brNot ?_)) | (refine And.intro ?_ ?_ <;> (conv => whnf)))
  by_cases g3 : t.ok
  · rw [decide_eq_true g3] at r3
    rw [e0 g3]
    conv => whnf
    refine CallH.lift seat_g r3 ⟨Mx.closed _, trivial⟩ (by simp [Closed, ClosedL]) ?_
    conv => whnf
    rfl
  · rw [decide_eq_false g3] at r3
    rw [e2 g3]
    conv => whnf
    refine CallH.lift seat_g r3 ⟨Mx.closed _, trivial⟩ (by simp [Closed, ClosedL]) ?_
    conv => whnf
    rfl
end Go.Proofs.YteiedieeebjklaaDoor
