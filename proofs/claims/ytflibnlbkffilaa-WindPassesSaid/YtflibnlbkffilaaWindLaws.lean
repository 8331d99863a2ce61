/- The laws of wind, as contracts: each returns true. No condition but that the arguments are numbers of the machine. -/
import Derived.Test.YtflibnlbkffilaaWind
import Derived.Test.YtflibnlbkffilaaRow
set_option linter.unusedSimpArgs false
set_option linter.unusedVariables false
set_option linter.deprecated false
namespace Go.Proofs.Ytflibnlbkffilaa
open Go Go.Abs

theorem allIn_one (e : Ed) (m : Int) : allIn m [e] ↔ e.in m := ⟨fun h => h e (by simp), fun h x hx => by simp at hx; subst hx; exact h⟩

set_option maxRecDepth 20000 in
theorem l_passes (e : Ed) (p : Pt) : ACalls seat 3 [e.a, p.a] [] (fun x _ => x = .ret (.bool true)) := by
  refine ACalls.body seat_ok Try.func3 rfl rfl ?_
  have cs1 := c_small [e] 17179869184 (by omega) (by simp)
  have hall : (decide (allIn 17179869184 [e])) = decide (e.in 17179869184) := decide_eq_decide.2 (allIn_one e _)
  rw [hall] at cs1
  conv => whnf
  refine CallH.lift seat_g c_wakes (by simp [ClosedL]) (by simp [Closed]) ?_
  conv => whnf
  refine CallH.weakA (args' := [elv [e], .int .i64 17179869184]) (WeakL.cons Weak.tok (WeakL.refl _)) ?_
  refine CallH.lift seat_g cs1 ⟨elv_closed _, by simp [Closed], trivial⟩ (by simp [Closed]) ?_
  by_cases he : e.in 17179869184
  · rw [decide_eq_true he]
    conv => whnf
    refine CallH.lift seat_g (c_pin p) ⟨Pt.closed _, trivial⟩ (by simp [Closed]) ?_
    by_cases hp : p.in 17179869184
    · rw [decide_eq_true hp]
      have c1 := c_passes e p he hp
      have c2 := c_rpasses e p he hp
      have c3 := c_passes ⟨e.q, e.p⟩ p ⟨he.2, he.1⟩ hp
      have hr := passN_rev e p
      have hb := passN_bound e p
      rw [hr] at c3
      generalize passN e p = n at *
      conv => whnf
      refine CallH.lift seat_g c1 ⟨Ed.closed _, Pt.closed _, trivial⟩ (by simp [Closed]) ?_
      conv => whnf
      refine CallH.lift seat_g c2 ⟨Ed.closed _, Pt.closed _, trivial⟩ (by simp [Closed]) ?_
      conv => whnf
      repeat' (first | (refine WrapH.quo (by omega) (by omega) (by omega) ?_; conv => whnf) | (refine NumH.rem (by omega) ?_; conv => whnf) | (refine WrapH.is _ (wrap_i64 (by omega) (by omega)) ?_; conv => whnf) | (refine WrapH.is _ (wrap_u64 (by omega) (by omega)) ?_; conv => whnf) | (refine WrapH.is _ wrap_u64m ?_; conv => whnf) | (refine Req.mk (by omega) ?_; conv => whnf) | (refine Req.mk (by dsimp only; omega) ?_; conv => whnf) | (refine Req.mk ⟨rfl, rfl, rfl, by simp [ci_length, *], rfl, by simp [okCell], by dsimp only; omega, by omega, by decide⟩ ?_; conv => whnf) | (refine Req.mk (show pendP _ _ by repeat' constructor) ?_; conv => whnf) | ((with_reducible refine brT ?_ ?_); (next => assumption); (conv => whnf)) | ((with_reducible refine brF ?_ ?_); (next => assumption); (conv => whnf)) | ((with_reducible refine brDT ?_ ?_); (next => omega); (conv => whnf)) | ((with_reducible refine brDF ?_ ?_); (next => omega); (conv => whnf)) | ((with_reducible refine brET ?_ ?_); (next => omega); (conv => whnf)) | ((with_reducible refine brEF ?_ ?_); (next => omega); (conv => whnf)) | ((with_reducible refine brNET ?_ ?_); (next => omega); (conv => whnf)) | ((with_reducible refine brNEF ?_ ?_); (next => omega); (conv => whnf)) | (with_reducible refine brNot ?_))
      refine CallH.lift seat_g c3 ⟨Ed.closed _, Pt.closed _, trivial⟩ (by simp [Closed]) ?_
      conv => whnf
      repeat' (first | (refine WrapH.quo (by omega) (by omega) (by omega) ?_; conv => whnf) | (refine NumH.rem (by omega) ?_; conv => whnf) | (refine WrapH.is _ (wrap_i64 (by omega) (by omega)) ?_; conv => whnf) | (refine WrapH.is _ (wrap_u64 (by omega) (by omega)) ?_; conv => whnf) | (refine WrapH.is _ wrap_u64m ?_; conv => whnf) | (refine Req.mk (by omega) ?_; conv => whnf) | (refine Req.mk (by dsimp only; omega) ?_; conv => whnf) | (refine Req.mk ⟨rfl, rfl, rfl, by simp [ci_length, *], rfl, by simp [okCell], by dsimp only; omega, by omega, by decide⟩ ?_; conv => whnf) | (refine Req.mk (show pendP _ _ by repeat' constructor) ?_; conv => whnf) | ((with_reducible refine brT ?_ ?_); (next => assumption); (conv => whnf)) | ((with_reducible refine brF ?_ ?_); (next => assumption); (conv => whnf)) | ((with_reducible refine brDT ?_ ?_); (next => omega); (conv => whnf)) | ((with_reducible refine brDF ?_ ?_); (next => omega); (conv => whnf)) | ((with_reducible refine brET ?_ ?_); (next => omega); (conv => whnf)) | ((with_reducible refine brEF ?_ ?_); (next => omega); (conv => whnf)) | ((with_reducible refine brNET ?_ ?_); (next => omega); (conv => whnf)) | ((with_reducible refine brNEF ?_ ?_); (next => omega); (conv => whnf)) | (with_reducible refine brNot ?_))
      rw [show (0 - n) = -n by omega]
      simp [retK]
    · rw [decide_eq_false hp]
      conv => whnf
      rfl
  · rw [decide_eq_false he]
    conv => whnf
    rfl
end Go.Proofs.Ytflibnlbkffilaa
