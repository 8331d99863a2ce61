/- The example of layer 12. No condition. -/
import Derived.Test.YtfiekficbbikaaaRefCh
set_option linter.unusedSimpArgs false
set_option linter.unusedVariables false
set_option linter.deprecated false
namespace Go.Proofs.Ytfiekficbbikaaa
open Go.Abs
def wakesC : Cv := ⟨⟨0, 0⟩, ⟨100, 0⟩, ⟨200, 0⟩, ⟨300, 0⟩⟩
set_option maxRecDepth 20000 in
theorem c_wakes : ACalls seat 8 [] [] (fun x _ => x = .ret (.bool true)) := by
  refine ACalls.body seat_ok Try.func8 rfl rfl ?_
  have hin : wakesC.in 4398046511104 := by decide
  have hp : pieces 20 wakesC = [wakesC] := by show pieces (19 + 1) wakesC = _; rw [pieces]; exact if_pos (by decide)
  have c1 := c_told wakesC hin 9 (by decide)
  have c2 := c_count wakesC hin
  rw [hp] at c1 c2
  rw [show List.take 9 [wakesC] = [wakesC] from rfl] at c1
  rw [show min [wakesC].length 4096 = 1 from rfl] at c2
  conv => whnf
  refine CallH.lift seat_g c1 (by simp [Closed, ClosedL, Cv.a, Cv.c]) (cvl_closed _) ?_
  conv => whnf
  refine DrawH.plan seat_ok (.take 0 (.take 1 (.take 2 (.take 3 (.take 4 (.take 5 (.take 6 (.take 7 (.take 8 (.take 9 (.take 10 (.take 11 (.perform 12 none (.take 13 (.take 14 (.take 15 Plan.done)))))))))))))))) 0 (by kernel_rfl) ?_
  conv => whnf
  repeat' (first | exact rfl | (refine Req.mk (by decide) ?_; conv => whnf) | (refine CallH.lift seat_g c2 (by simp [Closed, ClosedL, Cv.a, Cv.c]) (by simp [Closed]) ?_; conv => whnf) | (first | (refine WrapH.quo (by omega) (by omega) (by omega) ?_; conv => whnf) | (refine NumH.rem (by omega) ?_; conv => whnf) | (refine WrapH.is _ (wrap_i64 (by omega) (by omega)) ?_; conv => whnf) | (refine WrapH.is _ (wrap_u64 (by omega) (by omega)) ?_; conv => whnf) | (refine WrapH.is _ wrap_u64m ?_; conv => whnf) | (refine Req.mk (by omega) ?_; conv => whnf) | (refine Req.mk (by dsimp only; omega) ?_; conv => whnf) | (refine Req.mk ⟨rfl, rfl, rfl, by simp [ci_length, *], rfl, by simp [okCell], by dsimp only; omega, by omega, by decide⟩ ?_; conv => whnf) | (refine Req.mk (show pendP _ _ by repeat' constructor) ?_; conv => whnf) | ((with_reducible refine brT ?_ ?_); (next => assumption); (conv => whnf)) | ((with_reducible refine brF ?_ ?_); (next => assumption); (conv => whnf)) | ((with_reducible refine brDT ?_ ?_); (next => omega); (conv => whnf)) | ((with_reducible refine brDF ?_ ?_); (next => omega); (conv => whnf)) | ((with_reducible refine brET ?_ ?_); (next => omega); (conv => whnf)) | ((with_reducible refine brEF ?_ ?_); (next => omega); (conv => whnf)) | ((with_reducible refine brNET ?_ ?_); (next => omega); (conv => whnf)) | ((with_reducible refine brNEF ?_ ?_); (next => omega); (conv => whnf)) | (with_reducible refine brNot ?_)) | (refine ⟨?_, ?_⟩ <;> (conv => whnf)))
end Go.Proofs.Ytfiekficbbikaaa
