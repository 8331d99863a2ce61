/- One of the rule's laws. No condition. -/
import Derived.Test.YtegmdgoljckfjaaLawsB
namespace Go.Proofs.Ytegmdgoljckfjaa
open Go.Abs
theorem shr_neg (r a : Int) : shr r (-a) = shr r a := by
  unfold shr sh0 sh1; (repeat' split) <;> omega
theorem sh1_more (a : Int) : shr 1 (a + 17179869184) = shr 1 a := by
  unfold shr sh1; simp
theorem shr_low (a : Int) (h1 : a ≤ 8589934592) (h2 : -8589934592 ≤ a) : shr 0 a = shr 1 a := by
  unfold shr sh0 sh1; (repeat' split) <;> omega
theorem sh0_mono (a b : Int) (h1 : a ≤ b) (h2 : 0 ≤ a) : shr 0 a ≤ shr 0 b := by
  unfold shr sh0; (repeat' split) <;> omega

set_option maxHeartbeats 4000000 in
set_option maxRecDepth 100000 in
theorem l_signs (a b : Int) (ha : I64 a) (hb : I64 b) : ACalls seat 4 [.int .i64 a, .int .i64 b] [] (fun x _ => x = .ret (.bool true)) := by
  refine ACalls.body seat_ok Try.func4 rfl rfl ?_
  conv => whnf
  refine CallH.lift seat_g c_wakes (by simp [ClosedL]) (by simp [Closed]) ?_
  conv => whnf
  repeat' (first
    | (refine brT (by assumption) ?_; conv => whnf)
    | (refine brF (by assumption) ?_; conv => whnf)
    | (refine brI (fun _ => ?_) (fun _ => ?_) <;> conv => whnf)
    | (refine Sat.unroll seat_ok 3 ?_; conv => whnf))
  all_goals first | rfl | skip
  rename_i g1 g2 g3 g4
  have k1 := of_decide_eq_false g1
  have k2 := of_decide_eq_false g2
  have k3 := of_decide_eq_false g3
  have k4 := of_decide_eq_false g4
  have e1 : IntKind.wrap .i64 (0 - a) = -a := by rw [wrap_i64 (by omega) (by omega)]; omega
  have e2 : IntKind.wrap .i64 (a + 17179869184) = a + 17179869184 := wrap_i64 (by omega) (by omega)
  have hn : I64 (IntKind.wrap .i64 (0 - a)) := by rw [e1]; unfold I64; omega
  have hm : I64 (IntKind.wrap .i64 (a + 17179869184)) := by rw [e2]; unfold I64; omega
  refine CallH.liftG (fun s => .int .i64 s) seat_g (c_share 0 a ha) (by simp [ClosedL, Closed]) (by simp [Closed]) (fun s1 h1 => ?_)
  conv => whnf
  refine CallH.liftG (fun s => .int .i64 s) seat_g (c_share 0 _ hn) (by simp [ClosedL, Closed]) (by simp [Closed]) (fun s2 h2 => ?_)
  conv => whnf
  rw [e1, shr_neg] at h2
  obtain rfl := h1.trans h2.symm
  have z1 : (s1 != s1) = false := by simp
  refine brF z1 ?_
  conv => whnf
  refine CallH.liftG (fun s => .int .i64 s) seat_g (c_share 1 a ha) (by simp [ClosedL, Closed]) (by simp [Closed]) (fun s3 h3 => ?_)
  conv => whnf
  refine CallH.liftG (fun s => .int .i64 s) seat_g (c_share 1 _ hn) (by simp [ClosedL, Closed]) (by simp [Closed]) (fun s4 h4 => ?_)
  conv => whnf
  rw [e1, shr_neg] at h4
  obtain rfl := h3.trans h4.symm
  have z2 : (s3 != s3) = false := by simp
  refine brF z2 ?_
  conv => whnf
  have m1 : a ≤ 8589934592 → -8589934592 ≤ a → shr 0 a = shr 1 a := shr_low a
  have m2 : a ≤ b → 0 ≤ a → shr 0 a ≤ shr 0 b := sh0_mono a b
  have m3 : shr 1 (IntKind.wrap .i64 (a + 17179869184)) = shr 1 a := by rw [e2]; exact sh1_more a
  clear h2 h4 z1 z2 e1 e2
  repeat' (first
    | (refine brT (by with_reducible assumption) ?_; conv => whnf)
    | (refine brF (by with_reducible assumption) ?_; conv => whnf)
    | (refine brI (fun _ => ?_) (fun _ => ?_) <;> conv => whnf)
    | (refine CallH.liftG (fun s => .int .i64 s) seat_g (c_share 0 a ha) (by simp [ClosedL, Closed]) (by simp [Closed]) (fun _ _ => ?_); conv => whnf)
    | (refine CallH.liftG (fun s => .int .i64 s) seat_g (c_share 0 b hb) (by simp [ClosedL, Closed]) (by simp [Closed]) (fun _ _ => ?_); conv => whnf)
    | (refine CallH.liftG (fun s => .int .i64 s) seat_g (c_share 1 a ha) (by simp [ClosedL, Closed]) (by simp [Closed]) (fun _ _ => ?_); conv => whnf)
    | (refine CallH.liftG (fun s => .int .i64 s) seat_g (c_share 1 _ hm) (by simp [ClosedL, Closed]) (by simp [Closed]) (fun _ _ => ?_); conv => whnf))
  all_goals (simp only [decide_eq_true_eq, decide_eq_false_iff_not, bne_iff_ne, ne_eq, bne_eq_false_iff_eq] at *)
  all_goals first
    | (exfalso; omega)
    | (simp only [retK, AEnd.ret.injEq, AV.bool.injEq, beq_iff_eq]; omega)
    | trace_state
end Go.Proofs.Ytegmdgoljckfjaa
