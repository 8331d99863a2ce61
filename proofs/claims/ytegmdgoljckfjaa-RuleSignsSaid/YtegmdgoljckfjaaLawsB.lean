/- Two of the rule's laws. No condition. -/
import Derived.Test.YtegmdgoljckfjaaLaws
namespace Go.Proofs.Ytegmdgoljckfjaa
open Go.Abs
theorem shr_near (r a b d : Int) (h1 : a - b ≤ d) (h2 : b - a ≤ d) : shr r a - shr r b ≤ d ∧ -d ≤ shr r a - shr r b := by
  unfold shr sh0 sh1; (repeat' split) <;> omega

set_option maxHeartbeats 4000000 in
set_option maxRecDepth 100000 in
theorem l_steps (a b : Int) (ha : I64 a) (hb : I64 b) : ACalls seat 6 [.int .i64 a, .int .i64 b] [] (fun x _ => x = .ret (.bool true)) := by
  refine ACalls.body seat_ok Try.func6 rfl rfl ?_
  conv => whnf
  refine CallH.lift seat_g c_wakes (by simp [ClosedL]) (by simp [Closed]) ?_
  conv => whnf
  repeat' (first
    | (refine brT (by assumption) ?_; conv => whnf)
    | (refine brF (by assumption) ?_; conv => whnf)
    | (refine brI (fun _ => ?_) (fun _ => ?_) <;> conv => whnf)
    | (refine Sat.unroll seat_ok 3 ?_; conv => whnf))
  all_goals first | rfl | skip
  rename_i g1 g2 g3 g4
  have k1 := of_decide_eq_false g1
  have k2 := of_decide_eq_false g2
  have k3 := of_decide_eq_false g3
  have k4 := of_decide_eq_false g4
  have e1 : IntKind.wrap .i64 (b - a) = b - a := wrap_i64 (by omega) (by omega)
  have e2 : IntKind.wrap .i64 (a - b) = a - b := wrap_i64 (by omega) (by omega)
  rw [e1, e2]
  have hd1 : a - b ≤ (if b - a > a - b then b - a else a - b) := by split <;> omega
  have hd2 : b - a ≤ (if b - a > a - b then b - a else a - b) := by split <;> omega
  have hd3 : (if b - a > a - b then b - a else a - b) ≤ 4611686018427387904 := by split <;> omega
  generalize (if b - a > a - b then b - a else a - b) = d at *
  have q0 := shr_near 0 a b d hd1 hd2
  have q1 := shr_near 1 a b d hd1 hd2
  have r0 := shr_range 0 a
  have r1 := shr_range 1 a
  have r2 := shr_range 0 b
  have r3 := shr_range 1 b
  have e3 : IntKind.wrap .i64 (0 - d) = 0 - d := wrap_i64 (by omega) (by omega)
  refine CallH.liftG (fun s => .int .i64 s) seat_g (c_share 0 a ha) (by simp [ClosedL, Closed]) (by simp [Closed]) (fun s1 h1 => ?_)
  conv => whnf
  refine CallH.liftG (fun s => .int .i64 s) seat_g (c_share 0 b hb) (by simp [ClosedL, Closed]) (by simp [Closed]) (fun s2 h2 => ?_)
  conv => whnf
  rw [← h1, ← h2] at q0
  rw [← h1] at r0
  rw [← h2] at r2
  have e4 : IntKind.wrap .i64 (s1 - s2) = s1 - s2 := wrap_i64 (by omega) (by omega)
  rw [e4]
  have f1 : decide (s1 - s2 > d) = false := decide_eq_false (by omega)
  have f2 : decide (s1 - s2 < IntKind.wrap .i64 (0 - d)) = false := by rw [e3]; exact decide_eq_false (by omega)
  repeat' (first
    | (refine brF f1 ?_; conv => whnf)
    | (refine brF f2 ?_; conv => whnf))
  refine CallH.liftG (fun s => .int .i64 s) seat_g (c_share 1 a ha) (by simp [ClosedL, Closed]) (by simp [Closed]) (fun s3 h3 => ?_)
  conv => whnf
  refine CallH.liftG (fun s => .int .i64 s) seat_g (c_share 1 b hb) (by simp [ClosedL, Closed]) (by simp [Closed]) (fun s4 h4 => ?_)
  conv => whnf
  rw [← h3, ← h4] at q1
  rw [← h3] at r1
  rw [← h4] at r3
  have e6 : IntKind.wrap .i64 (s3 - s4) = s3 - s4 := wrap_i64 (by omega) (by omega)
  rw [e6]
  have f3 : decide (s3 - s4 > d) = false := decide_eq_false (by omega)
  have f4 : decide (s3 - s4 < IntKind.wrap .i64 (0 - d)) = false := by rw [e3]; exact decide_eq_false (by omega)
  repeat' (first
    | (refine brF f3 ?_; conv => whnf)
    | (refine brF f4 ?_; conv => whnf))
  rfl
end Go.Proofs.Ytegmdgoljckfjaa
