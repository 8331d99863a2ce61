/- The law AffineMoves answers true. Conditions: the distance is two numbers of 32 bits. -/
import Derived.Test.YteiedieeebjklaaDoorLaw08a
set_option linter.unusedSimpArgs false
set_option linter.unusedVariables false
set_option linter.deprecated false
namespace Go.Proofs.YteiedieeebjklaaDoor
open Go.Abs
def moveM (e f : Int) : Mx := ⟨65536, 0, 0, 65536, e, f⟩
theorem move_at (e f : Int) (p : Pt) : (moveM e f).at' p = ⟨p.x + e, p.y + f⟩ := by
  unfold Mx.at' moveM numZ
  simp only [Pt.mk.injEq]; omega
theorem move_ok {e f : Int} (he : IB e) (hf : IB f) : (moveM e f).ok := ⟨⟨by show IB 65536; decide, by show IB 0; decide, by show IB 0; decide⟩, by show IB 65536; decide, he, hf⟩
theorem applyV_bad {m : Mx} {p : Pt} (h : ¬ ((m.ok ∧ ptOK p) ∧ ptOK (m.at' p))) : ∃ k : Int, k ≠ 0 ∧ applyV m p = .tup [Pt.a ⟨0, 0⟩, .int .i64 k] := by
  by_cases g1 : m.ok ∧ ptOK p
  · exact ⟨2, by decide, applyV2 g1 (fun g => h ⟨g1, g⟩)⟩
  · exact ⟨1, by decide, applyV1 g1⟩
set_option maxRecDepth 20000 in
theorem l_affineMoves (p q : Pt) (e f : Int) (he : -2147483648 ≤ e ∧ e ≤ 2147483647) (hf : -2147483648 ≤ f ∧ f ≤ 2147483647) : ACalls seat 4 [p.a, q.a, .agg [.int .i32 e, .int .i32 f]] [] (fun x _ => x = .ret (.bool true)) := by
  refine ACalls.body seat_ok Tryd.func4 rfl rfl ?_
  have ie : IB e := by unfold IB; omega
  have jf : IB f := by unfold IB; omega
  have c1 := c_apply (moveM e f) p
  have c2 := c_apply (moveM e f) q
  by_cases g1 : ((moveM e f).ok ∧ ptOK p) ∧ ptOK ((moveM e f).at' p)
  case neg =>
    obtain ⟨k, hk, hv⟩ := applyV_bad g1
    obtain ⟨q2, e2, hv2⟩ := applyV_ex (moveM e f) q
    have hcl := applyV_closed (moveM e f) q
    rw [hv] at c1
    rw [hv2] at c2 hcl
    clear hv hv2 g1
    conv => whnf
    refine CallH.lift seat_g c_wakes trivial (by simp [Closed]) ?_
    conv => whnf
    refine CallH.lift seat_g c_asame trivial (Mx.closed _) ?_
    conv => whnf
    refine DrawH.plan seat_ok (.take 0 (.take 1 (.take 2 (.take 3 (.take 4 (.take 5 (.take 6 (.perform 7 none (.take 8 (.perform 9 none Plan.done)))))))))) 0 (by kernel_rfl) ?_
    conv => whnf
    repeat' (first | exact rfl | (refine CallH.lift seat_g c1 ⟨Mx.closed _, Pt.closed _, trivial⟩ (by simp [Closed, ClosedL, Pt.a, Pt.c]) ?_; conv => whnf) | (refine CallH.lift seat_g c2 ⟨Mx.closed _, Pt.closed _, trivial⟩ hcl ?_; conv => whnf) | (first | (refine WrapH.quo (by omega) (by omega) (by omega) ?_; conv => whnf) | (refine WrapH.quoU (by omega) (by omega) (by omega) ?_; conv => whnf) | (refine NumH.rem (by omega) ?_; conv => whnf) | (refine WrapH.is _ (wrap_i64 (by omega) (by omega)) ?_; conv => whnf) | (refine WrapH.is _ (wrap_u64 (by omega) (by omega)) ?_; conv => whnf) | (refine WrapH.is _ wrap_u64m ?_; conv => whnf) | (refine Req.mk (by omega) ?_; conv => whnf) | (refine Req.mk (by dsimp only; omega) ?_; conv => whnf) | (refine Req.mk ⟨rfl, rfl, rfl, by simp [ci_length, *], rfl, by simp [okCell], by dsimp only; omega, by omega, by decide⟩ ?_; conv => whnf) | (refine Req.mk (show pendP _ _ by repeat' constructor) ?_; conv => whnf) | ((with_reducible refine brT ?_ ?_); (next => assumption); (conv => whnf)) | ((with_reducible refine brF ?_ ?_); (next => assumption); (conv => whnf)) | ((with_reducible refine brDT ?_ ?_); (next => omega); (conv => whnf)) | ((with_reducible refine brDF ?_ ?_); (next => omega); (conv => whnf)) | ((with_reducible refine brET ?_ ?_); (next => omega); (conv => whnf)) | ((with_reducible refine brEF ?_ ?_); (next => omega); (conv => whnf)) | ((with_reducible refine brNET ?_ ?_); (next => omega); (conv => whnf)) | ((with_reducible refine brNEF ?_ ?_); (next => omega); (conv => whnf)) | (with_reducible refine brNot ?_)) | (refine And.intro ?_ ?_ <;> (conv => whnf)))
  by_cases g2 : ((moveM e f).ok ∧ ptOK q) ∧ ptOK ((moveM e f).at' q)
  case neg =>
    obtain ⟨k, hk, hv2⟩ := applyV_bad g2
    obtain ⟨q2, e2, hv⟩ := applyV_ex (moveM e f) p
    have hcl := applyV_closed (moveM e f) p
    rw [hv] at c1 hcl
    rw [hv2] at c2
    rw [applyV0 g1.1 g1.2] at hv
    simp only [AV.tup.injEq, List.cons.injEq, AV.int.injEq, true_and, and_true] at hv
    obtain ⟨-, rfl⟩ := hv
    clear hv2 g1 g2
    conv => whnf
    refine CallH.lift seat_g c_wakes trivial (by simp [Closed]) ?_
    conv => whnf
    refine CallH.lift seat_g c_asame trivial (Mx.closed _) ?_
    conv => whnf
    refine DrawH.plan seat_ok (.take 0 (.take 1 (.take 2 (.take 3 (.take 4 (.take 5 (.take 6 (.perform 7 none (.take 8 (.perform 9 none Plan.done)))))))))) 0 (by kernel_rfl) ?_
    conv => whnf
    repeat' (first | exact rfl | (refine CallH.lift seat_g c1 ⟨Mx.closed _, Pt.closed _, trivial⟩ hcl ?_; conv => whnf) | (refine CallH.lift seat_g c2 ⟨Mx.closed _, Pt.closed _, trivial⟩ (by simp [Closed, ClosedL, Pt.a, Pt.c]) ?_; conv => whnf) | (first | (refine WrapH.quo (by omega) (by omega) (by omega) ?_; conv => whnf) | (refine WrapH.quoU (by omega) (by omega) (by omega) ?_; conv => whnf) | (refine NumH.rem (by omega) ?_; conv => whnf) | (refine WrapH.is _ (wrap_i64 (by omega) (by omega)) ?_; conv => whnf) | (refine WrapH.is _ (wrap_u64 (by omega) (by omega)) ?_; conv => whnf) | (refine WrapH.is _ wrap_u64m ?_; conv => whnf) | (refine Req.mk (by omega) ?_; conv => whnf) | (refine Req.mk (by dsimp only; omega) ?_; conv => whnf) | (refine Req.mk ⟨rfl, rfl, rfl, by simp [ci_length, *], rfl, by simp [okCell], by dsimp only; omega, by omega, by decide⟩ ?_; conv => whnf) | (refine Req.mk (show pendP _ _ by repeat' constructor) ?_; conv => whnf) | ((with_reducible refine brT ?_ ?_); (next => assumption); (conv => whnf)) | ((with_reducible refine brF ?_ ?_); (next => assumption); (conv => whnf)) | ((with_reducible refine brDT ?_ ?_); (next => omega); (conv => whnf)) | ((with_reducible refine brDF ?_ ?_); (next => omega); (conv => whnf)) | ((with_reducible refine brET ?_ ?_); (next => omega); (conv => whnf)) | ((with_reducible refine brEF ?_ ?_); (next => omega); (conv => whnf)) | ((with_reducible refine brNET ?_ ?_); (next => omega); (conv => whnf)) | ((with_reducible refine brNEF ?_ ?_); (next => omega); (conv => whnf)) | (with_reducible refine brNot ?_)) | (refine And.intro ?_ ?_ <;> (conv => whnf)))
  case pos =>
    rw [applyV0 g1.1 g1.2, move_at] at c1
    rw [applyV0 g2.1 g2.2, move_at] at c2
    have g3 := g1.2
    rw [move_at] at g3
    have hb : (moveM (0 - e) (0 - f)).at' ⟨p.x + e, p.y + f⟩ = p := by
      rw [move_at]; cases p; simp only [Pt.mk.injEq]; omega
    have c3 := c_apply (moveM (0 - e) (0 - f)) ⟨p.x + e, p.y + f⟩
    rw [applyV0 ⟨move_ok (by unfold IB; omega) (by unfold IB; omega), g3⟩ (by rw [hb]; exact g1.1.2), hb] at c3
    obtain ⟨⟨-, ⟨a1, a2⟩⟩, -⟩ := g1
    obtain ⟨⟨-, ⟨a3, a4⟩⟩, -⟩ := g2
    unfold IB at a1 a2 a3 a4
    have hb2 : (p.x == p.x && (p.y == p.y && true)) = true := by simp
    obtain ⟨u, hu, hux, huy⟩ : ∃ u : Pt, (⟨p.x + e, p.y + f⟩ : Pt) = u ∧ u.x = p.x + e ∧ u.y = p.y + f := ⟨_, rfl, rfl, rfl⟩
    obtain ⟨v, hv, hvx, hvy⟩ : ∃ u : Pt, (⟨q.x + e, q.y + f⟩ : Pt) = u ∧ u.x = q.x + e ∧ u.y = q.y + f := ⟨_, rfl, rfl, rfl⟩
    rw [hu] at c1 c3
    rw [hv] at c2
    clear hb g3 hu hv
    conv => whnf
    refine CallH.lift seat_g c_wakes trivial (by simp [Closed]) ?_
    conv => whnf
    refine CallH.lift seat_g c_asame trivial (Mx.closed _) ?_
    conv => whnf
    refine DrawH.plan seat_ok (.take 0 (.take 1 (.take 2 (.take 3 (.take 4 (.take 5 (.take 6 (.perform 7 none (.take 8 (.perform 9 none Plan.done)))))))))) 0 (by kernel_rfl) ?_
    conv => whnf
    repeat' (first | exact rfl | exact congrArg AEnd.ret (congrArg AV.bool hb2) | (refine CallH.lift seat_g c1 ⟨Mx.closed _, Pt.closed _, trivial⟩ (by simp [Closed, ClosedL, Pt.a, Pt.c]) ?_; conv => whnf) | (refine CallH.lift seat_g c2 ⟨Mx.closed _, Pt.closed _, trivial⟩ (by simp [Closed, ClosedL, Pt.a, Pt.c]) ?_; conv => whnf) | (refine CallH.lift seat_g c3 ⟨Mx.closed _, Pt.closed _, trivial⟩ (by simp [Closed, ClosedL, Pt.a, Pt.c]) ?_; conv => whnf) | (refine brT hb2 ?_; conv => whnf) | (first | (refine WrapH.quo (by omega) (by omega) (by omega) ?_; conv => whnf) | (refine WrapH.quoU (by omega) (by omega) (by omega) ?_; conv => whnf) | (refine NumH.rem (by omega) ?_; conv => whnf) | (refine WrapH.is _ (wrap_i64 (by omega) (by omega)) ?_; conv => whnf) | (refine WrapH.is _ (wrap_u64 (by omega) (by omega)) ?_; conv => whnf) | (refine WrapH.is _ wrap_u64m ?_; conv => whnf) | (refine Req.mk (by omega) ?_; conv => whnf) | (refine Req.mk (by dsimp only; omega) ?_; conv => whnf) | (refine Req.mk ⟨rfl, rfl, rfl, by simp [ci_length, *], rfl, by simp [okCell], by dsimp only; omega, by omega, by decide⟩ ?_; conv => whnf) | (refine Req.mk (show pendP _ _ by repeat' constructor) ?_; conv => whnf) | ((with_reducible refine brT ?_ ?_); (next => assumption); (conv => whnf)) | ((with_reducible refine brF ?_ ?_); (next => assumption); (conv => whnf)) | ((with_reducible refine brDT ?_ ?_); (next => omega); (conv => whnf)) | ((with_reducible refine brDF ?_ ?_); (next => omega); (conv => whnf)) | ((with_reducible refine brET ?_ ?_); (next => omega); (conv => whnf)) | ((with_reducible refine brEF ?_ ?_); (next => omega); (conv => whnf)) | ((with_reducible refine brNET ?_ ?_); (next => omega); (conv => whnf)) | ((with_reducible refine brNEF ?_ ?_); (next => omega); (conv => whnf)) | (with_reducible refine brNot ?_)) | (refine And.intro ?_ ?_ <;> (conv => whnf)))
end Go.Proofs.YteiedieeebjklaaDoor
