/- The laws of the rule: what they answer. No condition. -/
import Derived.Test.YtegmdgoljckfjaaCalls
import Derived.Test.YtegmdgoljckfjaaAbs19
namespace Go.Proofs.Ytegmdgoljckfjaa
open Go.Abs

theorem c_wakes : ACalls seat 7 [] [] (fun x _ => x = .ret (.bool true)) := by
  refine ACalls.body seat_ok Try.func7 rfl rfl ?_
  conv => whnf
  repeat' (first
    | (refine CallH.lift seat_g (c_cov _ _ (by unfold I64; omega)) (by simp [ClosedL, Closed]) (by simp [Closed]) ?_; conv => whnf)
    | (refine brT (by decide) ?_; conv => whnf))
  rfl

theorem l_shares (r a : Int) (ha : I64 a) : ACalls seat 3 [.int .i64 r, .int .i64 a] [] (fun x _ => x = .ret (.bool true)) := by
  refine ACalls.body seat_ok Try.func3 rfl rfl ?_
  conv => whnf
  refine CallH.lift seat_g c_wakes (by simp [ClosedL]) (by simp [Closed]) ?_
  conv => whnf
  refine CallH.liftG (fun s => .int .i64 s) seat_g (c_share r a ha) (by simp [ClosedL, Closed]) (by simp [Closed]) (fun s1 h1 => ?_)
  conv => whnf
  refine CallH.liftG (fun s => .int .i64 s) seat_g (c_refshare r a ha) (by simp [ClosedL, Closed]) (by simp [Closed]) (fun s2 h2 => ?_)
  obtain rfl := h1.trans h2.symm
  conv => whnf
  repeat' (first
    | (refine brT (beq_self_eq_true _) ?_; conv => whnf)
    | (refine brT (by assumption) ?_; conv => whnf)
    | (refine brF (by assumption) ?_; conv => whnf))
  refine CallH.liftG (fun s => .int .u8 s) seat_g (c_cov r a ha) (by simp [ClosedL, Closed]) (by simp [Closed]) (fun s3 h3 => ?_)
  conv => whnf
  repeat' (first
    | (refine brT (beq_self_eq_true _) ?_; conv => whnf)
    | (refine brT (by assumption) ?_; conv => whnf)
    | (refine brF (by assumption) ?_; conv => whnf))
  refine CallH.liftG (fun s => .int .u8 s) seat_g (c_refcov r a ha) (by simp [ClosedL, Closed]) (by simp [Closed]) (fun s4 h4 => ?_)
  obtain rfl := h3.trans h4.symm
  conv => whnf
  repeat' (first
    | (refine brT (beq_self_eq_true _) ?_; conv => whnf)
    | (refine CallH.liftG (fun s => .bool s) seat_g (c_right r) (by simp [ClosedL, Closed]) (by simp [Closed]) (fun b hb => ?_); conv => whnf)
    | (refine brT (by assumption) ?_; conv => whnf)
    | (refine brF (by assumption) ?_; conv => whnf)
    | (refine brI (fun _ => ?_) (fun _ => ?_) <;> conv => whnf))
  all_goals (simp only [retK, AEnd.ret.injEq, AV.bool.injEq, beq_iff_eq, beq_eq_false_iff_ne, ne_eq] at *)
  all_goals first | (simp_all; done) | (by_cases h1 : r = 1 <;> simp_all)

theorem l_near (r a : Int) (ha : I64 a) : ACalls seat 5 [.int .u8 r, .int .i64 a] [] (fun x _ => x = .ret (.bool true)) := by
  refine ACalls.body seat_ok Try.func5 rfl rfl ?_
  conv => whnf
  refine CallH.lift seat_g c_wakes (by simp [ClosedL]) (by simp [Closed]) ?_
  conv => whnf
  refine Req.mk (by decide) ?_
  conv => whnf
  generalize (IntKind.wrap .i64 r).tmod 2 = p
  refine CallH.liftG (fun s => .int .i64 s) seat_g (c_share p a ha) (by simp [ClosedL, Closed]) (by simp [Closed]) (fun s hs => ?_)
  conv => whnf
  refine CallH.liftG (fun s => .int .u8 s) seat_g (c_cov p a ha) (by simp [ClosedL, Closed]) (by simp [Closed]) (fun c hc => ?_)
  conv => whnf
  have h1 := shr_range p a
  have h2 := cov_range p a
  have h3 : cov p a = (255 * shr p a + 4294967296) / 8589934592 := rfl
  rw [← hs, ← hc] at h3
  rw [← hs] at h1
  rw [← hc] at h2
  have e1 : IntKind.wrap .i64 (510 * s) = 510 * s := wrap_i64 (by omega) (by omega)
  have e2 : IntKind.wrap .i64 c = c := wrap_i64 (by omega) (by omega)
  have e3 : IntKind.wrap .i64 (2 * c) = 2 * c := wrap_i64 (by omega) (by omega)
  have e4 : IntKind.wrap .i64 (2 * c * 8589934592) = 2 * c * 8589934592 := wrap_i64 (by omega) (by omega)
  have e5 : IntKind.wrap .i64 (510 * s - 2 * c * 8589934592) = 510 * s - 2 * c * 8589934592 := wrap_i64 (by omega) (by omega)
  have e6 : 510 * s - 2 * c * 8589934592 < 8589934592 ∧ 510 * s - 2 * c * 8589934592 ≥ -8589934592 := by omega
  rw [e1, e2, e3, e4, e5]
  repeat' (first
    | (refine brT (by assumption) ?_; conv => whnf)
    | (refine brT (decide_eq_true e6.1) ?_; conv => whnf))
  rw [decide_eq_true e6.2]
  rfl
end Go.Proofs.Ytegmdgoljckfjaa
