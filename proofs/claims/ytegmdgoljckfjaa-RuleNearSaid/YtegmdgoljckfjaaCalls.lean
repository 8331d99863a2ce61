/- The rule's functions: their contracts. No condition. -/
import Derived.Test.YtegmdgoljckfjaaSeat
import Derived.Test.YtegmdgoljckfjaaAbs18
namespace Go.Proofs.Ytegmdgoljckfjaa
open Go.Abs

theorem wrap_i64 {n : Int} (h1 : -9223372036854775808 ≤ n) (h2 : n < 9223372036854775808) : IntKind.wrap .i64 n = n := by
  have hb : IntKind.bits .i64 = 64 := rfl
  have hs : IntKind.signed .i64 = true := rfl
  unfold IntKind.wrap
  simp only [hb, hs, Bool.true_and, decide_eq_true_eq]
  split <;> omega
theorem wrap_u8 {n : Int} : IntKind.wrap .u8 n = n % 256 := by
  have hb : IntKind.bits .u8 = 8 := rfl
  have hs : IntKind.signed .u8 = false := rfl
  unfold IntKind.wrap
  simp [hb, hs]

def I64 (n : Int) : Prop := -9223372036854775808 ≤ n ∧ n < 9223372036854775808

/-- the share by the rule of what is not nought, and by that of what is odd -/
def sh0 (a : Int) : Int := if 8589934592 ≤ a then 8589934592 else if a ≤ -8589934592 then 8589934592 else if a < 0 then -a else a
def sh1 (a : Int) : Int := if a % 17179869184 ≤ 8589934592 then a % 17179869184 else 17179869184 - a % 17179869184
def shr (r a : Int) : Int := if r = 0 then sh0 a else if r = 1 then sh1 a else 0


theorem c_right (r : Int) : ACalls seat 12 [.int .i64 r] [] (fun x _ => x = .ret (.bool (decide (r = 0 ∨ r = 1)))) := by
  refine ACalls.body seat_ok Try.func12 rfl rfl ?_
  conv => whnf
  repeat' (first
    | (refine brT (by assumption) ?_; conv => whnf)
    | (refine brF (by assumption) ?_; conv => whnf)
    | (refine brI (fun _ => ?_) (fun _ => ?_) <;> conv => whnf)
    | (refine Req.mk (by decide) ?_; conv => whnf))
  all_goals (simp only [retK, AEnd.ret.injEq, AV.bool.injEq, decide_eq_true_eq, decide_eq_false_iff_not, decide_eq_decide, Bool.false_eq] at *)
  all_goals omega

theorem c_size (a : Int) (ha : I64 a) : ACalls seat 15 [.int .i64 a] [] (fun x _ => ∃ s, x = .ret (.int .i64 s) ∧ min s 8589934592 = sh0 a) := by
  refine ACalls.body seat_ok Try.func15 rfl rfl ?_
  conv => whnf
  have h0 : IntKind.wrap .i64 (a + 1) = a + 1 ∨ ¬ a < 0 := by
    by_cases h : a < 0
    · exact .inl (wrap_i64 (by have := ha.1; omega) (by omega))
    · exact .inr h
  obtain ⟨h1, h2⟩ := ha
  repeat' (first
    | (refine brT (by assumption) ?_; conv => whnf)
    | (refine brF (by assumption) ?_; conv => whnf)
    | (refine brI (fun _ => ?_) (fun _ => ?_) <;> conv => whnf)
    | (refine Req.mk (by decide) ?_; conv => whnf))
  all_goals (simp only [decide_eq_true_eq, decide_eq_false_iff_not] at *)
  all_goals refine ⟨_, rfl, ?_⟩
  · rename_i g1 g2
    rcases h0 with h0 | h0
    · rw [h0, wrap_i64 (n := 0 - (a + 1)) (by omega) (by omega)] at g2 ⊢
      rw [wrap_i64 (by omega) (by omega)]
      unfold sh0; split <;> (try split) <;> (try split) <;> omega
    · omega
  · rename_i g1 g2
    rcases h0 with h0 | h0
    · rw [h0, wrap_i64 (n := 0 - (a + 1)) (by omega) (by omega)] at g2 ⊢
      unfold sh0; split <;> (try split) <;> (try split) <;> omega
    · omega
  · unfold sh0; split <;> (try split) <;> (try split) <;> omega

theorem tmod_cases (a M : Int) : (0 ≤ a ∧ a.tmod M = a % M) ∨ (a < 0 ∧ a.tmod M = -((-a) % M)) := by
  by_cases h : 0 ≤ a
  · exact .inl ⟨h, Int.tmod_eq_emod_of_nonneg h⟩
  · right
    refine ⟨by omega, ?_⟩
    have : a = -(-a) := by omega
    rw [this, Int.neg_tmod, Int.tmod_eq_emod_of_nonneg (by omega)]
    simp

theorem c_refshare (r a : Int) (ha : I64 a) : ACalls seat 9 [.int .i64 r, .int .i64 a] [] (fun x _ => x = .ret (.int .i64 (shr r a))) := by
  refine ACalls.body seat_ok Try.func9 rfl rfl ?_
  conv => whnf
  obtain ⟨h1, h2⟩ := ha
  repeat' (first
    | (refine brT (by assumption) ?_; conv => whnf)
    | (refine brF (by assumption) ?_; conv => whnf)
    | (refine brI (fun _ => ?_) (fun _ => ?_) <;> conv => whnf)
    | (refine Req.mk (by decide) ?_; conv => whnf))
  all_goals (simp only [retK, AEnd.ret.injEq, AV.int.injEq, true_and, decide_eq_true_eq, decide_eq_false_iff_not, beq_iff_eq, beq_eq_false_iff_ne, ne_eq] at *)
  all_goals try (first | (have w1 : IntKind.wrap .i64 (0 - a) = 0 - a := wrap_i64 (by omega) (by omega)) | skip)
  all_goals try (have hm := tmod_cases a 17179869184; have w2 : IntKind.wrap .i64 (0 - a.tmod 17179869184) = 0 - a.tmod 17179869184 := wrap_i64 (by omega) (by omega); have w3 : IntKind.wrap .i64 (17179869184 - a.tmod 17179869184) = 17179869184 - a.tmod 17179869184 := wrap_i64 (by omega) (by omega); have w4 : IntKind.wrap .i64 (17179869184 - (0 - a.tmod 17179869184)) = 17179869184 - (0 - a.tmod 17179869184) := wrap_i64 (by omega) (by omega))
  all_goals (try rw [w2])
  all_goals (unfold shr sh0 sh1; (repeat' split) <;> omega)

theorem c_one (a : Int) (ha : I64 a) : ACalls seat 14 [.int .i64 a] [] (fun x _ => x = .ret (.int .i64 (sh0 a))) := by
  refine ACalls.body seat_ok Try.func14 rfl rfl ?_
  conv => whnf
  refine CallH.liftE (r := fun s => .int .i64 s) seat_g (c_size a ha) (by simp [ClosedL, Closed]) (by simp [Closed]) (fun s hs => ?_)
  conv => whnf
  simp only [retK, AEnd.ret.injEq, AV.int.injEq, true_and]
  split <;> omega

theorem c_two (a : Int) : ACalls seat 16 [.int .i64 a] [] (fun x _ => x = .ret (.int .i64 (sh1 a))) := by
  refine ACalls.body seat_ok Try.func16 rfl rfl ?_
  conv => whnf
  have e : IntKind.wrap .i64 ((BitVec.ofInt (IntKind.bits .i64) a &&& BitVec.ofInt (IntKind.bits .i64) 17179869183).toNat : Int) = a % 17179869184 := by
    show IntKind.wrap .i64 ((BitVec.ofInt 64 a &&& BitVec.ofInt 64 17179869183).toNat : Int) = a % 17179869184
    rw [and_low 34 (by decide) a 17179869183 17179869184 (by decide) (by decide)]
    exact wrap_i64 (by omega) (by omega)
  simp only [retK, AEnd.ret.injEq, AV.int.injEq, true_and]
  have e2 : IntKind.wrap .i64 (17179869184 - a % 17179869184) = 17179869184 - a % 17179869184 := wrap_i64 (by omega) (by omega)
  simp only [e, e2]
  unfold sh1
  repeat' split
  all_goals omega

theorem c_shares : ACalls seat 13 [] [] (fun x _ => x = .ret (.agg [.fn 14 [] [], .fn 16 [] []])) := by
  refine ACalls.body seat_ok Try.func13 rfl rfl ?_
  conv => whnf
  rfl

theorem c_share (r a : Int) (ha : I64 a) : ACalls seat 8 [.int .i64 r, .int .i64 a] [] (fun x _ => x = .ret (.int .i64 (shr r a))) := by
  refine ACalls.body seat_ok Try.func8 rfl rfl ?_
  conv => whnf
  refine CallH.lift seat_g (c_right r) (by simp [ClosedL, Closed]) (by simp [Closed]) ?_
  conv => whnf
  refine brI (fun g => ?_) (fun g => ?_)
  · conv => whnf
    simp only [retK, AEnd.ret.injEq, AV.int.injEq, true_and, Bool.not_eq_true', decide_eq_false_iff_not] at *
    unfold shr; repeat' split
    all_goals omega
  · simp only [Bool.not_eq_false', decide_eq_true_eq] at g
    rcases g with rfl | rfl
    · conv => whnf
      refine CallH.lift seat_g c_shares (by simp [ClosedL]) (by simp [ClosedL, Closed]) ?_
      conv => whnf
      refine Req.mk (by decide) ?_
      conv => whnf
      refine CallH.lift seat_g (c_one a ha) (by simp [ClosedL, Closed]) (by simp [Closed]) ?_
      conv => whnf
      simp [retK, shr]
    · conv => whnf
      refine CallH.lift seat_g c_shares (by simp [ClosedL]) (by simp [ClosedL, Closed]) ?_
      conv => whnf
      refine Req.mk (by decide) ?_
      conv => whnf
      refine CallH.lift seat_g (c_two a) (by simp [ClosedL, Closed]) (by simp [Closed]) ?_
      conv => whnf
      simp [retK, shr]

theorem shr_range (r a : Int) : 0 ≤ shr r a ∧ shr r a ≤ 8589934592 := by
  unfold shr sh0 sh1; (repeat' split) <;> omega

def cov (r a : Int) : Int := (255 * shr r a + 4294967296) / 8589934592
theorem cov_range (r a : Int) : 0 ≤ cov r a ∧ cov r a < 256 := by
  have := shr_range r a; unfold cov; omega

theorem c_cov (r a : Int) (ha : I64 a) : ACalls seat 10 [.int .i64 r, .int .i64 a] [] (fun x _ => x = .ret (.int .u8 (cov r a))) := by
  refine ACalls.body seat_ok Try.func10 rfl rfl ?_
  conv => whnf
  refine CallH.lift seat_g (c_share r a ha) (by simp [ClosedL, Closed]) (by simp [Closed]) ?_
  conv => whnf
  refine Req.mk (by decide) ?_
  conv => whnf
  have h := shr_range r a
  simp only [retK, AEnd.ret.injEq, AV.int.injEq, true_and]
  rw [wrap_i64 (n := 255 * shr r a) (by omega) (by omega), wrap_i64 (n := 255 * shr r a + 4294967296) (by omega) (by omega), Int.tdiv_eq_ediv_of_nonneg (by omega), wrap_i64 (by omega) (by omega), wrap_u8]
  have := cov_range r a; unfold cov at *; omega

theorem c_refcov (r a : Int) (ha : I64 a) : ACalls seat 11 [.int .i64 r, .int .i64 a] [] (fun x _ => x = .ret (.int .u8 (cov r a))) := by
  refine ACalls.body seat_ok Try.func11 rfl rfl ?_
  conv => whnf
  refine CallH.lift seat_g (c_refshare r a ha) (by simp [ClosedL, Closed]) (by simp [Closed]) ?_
  conv => whnf
  have h := shr_range r a
  generalize hs : shr r a = s at *
  refine Sat.invK seat_ok (maskOf 24 [5, 6]) (fun n => [.undef, .undef, .undef, .undef, .undef, .int .i64 (255 * s), .int .i64 n, .undef, .undef, .undef, .undef, .undef, .undef, .undef, .undef, .undef, .undef, .undef, .undef, .undef, .undef, .undef, .undef, .undef]) (fun _ => [])
    (fun n => 0 ≤ n ∧ n ≤ cov r a) (fun n => (255 - n).toNat) 0 ⟨by omega, (cov_range r a).1⟩ ?_ rfl ?_
  · rw [wrap_i64 (by omega) (by omega)]; rfl
  · rintro n ⟨g1, g2⟩
    have hc := cov_range r a
    have hcd : cov r a = (255 * s + 4294967296) / 8589934592 := by unfold cov; rw [hs]
    conv => whnf
    have w1 : IntKind.wrap .i64 (n * 8589934592) = n * 8589934592 := wrap_i64 (by omega) (by omega)
    have w2 : IntKind.wrap .i64 (255 * s - n * 8589934592) = 255 * s - n * 8589934592 := wrap_i64 (by omega) (by omega)
    have w3 : IntKind.wrap .i64 (n + 1) = n + 1 := wrap_i64 (by omega) (by omega)
    repeat' (first
      | (refine brT (by assumption) ?_; conv => whnf)
      | (refine brF (by assumption) ?_; conv => whnf)
      | (refine brI (fun _ => ?_) (fun _ => ?_) <;> conv => whnf))
    all_goals (try simp only [w1, w2, w3, decide_eq_true_eq, decide_eq_false_iff_not, retK, AEnd.ret.injEq, AV.int.injEq, true_and, wrap_u8] at *)
    all_goals first | omega | skip
    exact ⟨n + 1, ⟨by omega, by omega⟩, by omega, rfl, trivial⟩
end Go.Proofs.Ytegmdgoljckfjaa
