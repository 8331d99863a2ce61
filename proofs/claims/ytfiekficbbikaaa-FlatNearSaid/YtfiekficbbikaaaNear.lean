/- The document's points of a curve, and the law's nearness. Conditions: the numbers within the bounds that each line names. -/
import Derived.Test.YtfiekficbbikaaaNearGeo
import Derived.Test.YtfiekficbbikaaaRootRef
set_option linter.unusedSimpArgs false
set_option linter.unusedVariables false
set_option linter.deprecated false
namespace Go.Proofs.Ytfiekficbbikaaa
open Go.Abs
theorem c_floorF (a : Int) (ha : -70368744177664 ≤ a ∧ a ≤ 70368744177664) : ACalls seat 52 [.int .i64 a, .int .i64 131072] [] (fun x _ => x = .ret (.int .i64 (a / 131072))) := by
  refine ACalls.body seat_ok Try.func52 rfl rfl ?_
  have hq : (0 ≤ a ∧ a.tdiv 131072 = a / 131072 ∧ a.tmod 131072 = a % 131072) ∨ (a < 0 ∧ a.tdiv 131072 = -(-a / 131072) ∧ a.tmod 131072 = -(-a % 131072)) := by
    by_cases h : 0 ≤ a
    · exact .inl ⟨h, Int.tdiv_eq_ediv_of_nonneg h, Int.tmod_eq_emod_of_nonneg h⟩
    · refine .inr ⟨by omega, ?_, ?_⟩
      · have := Int.neg_tdiv (-a) 131072; rw [Int.neg_neg] at this; rw [this, Int.tdiv_eq_ediv_of_nonneg (by omega)]
      · have := Int.neg_tmod (-a) 131072; rw [Int.neg_neg] at this; rw [this, Int.tmod_eq_emod_of_nonneg (by omega)]
  by_cases g : a.tmod 131072 < 0
  · conv => whnf
    refine Req.mk (by decide) ?_
    conv => whnf
    refine WrapH.is _ (wrap_i64 (by omega) (by omega)) ?_
    conv => whnf
    refine Req.mk (by decide) ?_
    conv => whnf
    refine NumH.is _ rfl ?_
    conv => whnf
    repeat' (first | (refine WrapH.quo (by omega) (by omega) (by omega) ?_; conv => whnf) | (refine WrapH.quoU (by omega) (by omega) (by omega) ?_; conv => whnf) | (refine NumH.rem (by omega) ?_; conv => whnf) | (refine WrapH.is _ (wrap_i64 (by omega) (by omega)) ?_; conv => whnf) | (refine WrapH.is _ (wrap_u64 (by omega) (by omega)) ?_; conv => whnf) | (refine WrapH.is _ wrap_u64m ?_; conv => whnf) | (refine Req.mk (by omega) ?_; conv => whnf) | (refine Req.mk (by dsimp only; omega) ?_; conv => whnf) | (refine Req.mk ⟨rfl, rfl, rfl, by simp [ci_length, *], rfl, by simp [okCell], by dsimp only; omega, by omega, by decide⟩ ?_; conv => whnf) | (refine Req.mk (show pendP _ _ by repeat' constructor) ?_; conv => whnf) | ((with_reducible refine brT ?_ ?_); (next => assumption); (conv => whnf)) | ((with_reducible refine brF ?_ ?_); (next => assumption); (conv => whnf)) | ((with_reducible refine brDT ?_ ?_); (next => omega); (conv => whnf)) | ((with_reducible refine brDF ?_ ?_); (next => omega); (conv => whnf)) | ((with_reducible refine brET ?_ ?_); (next => omega); (conv => whnf)) | ((with_reducible refine brEF ?_ ?_); (next => omega); (conv => whnf)) | ((with_reducible refine brNET ?_ ?_); (next => omega); (conv => whnf)) | ((with_reducible refine brNEF ?_ ?_); (next => omega); (conv => whnf)) | (with_reducible refine brNot ?_))
    refine congrArg AEnd.ret (congrArg (AV.int .i64) ?_)
    omega
  · conv => whnf
    refine Req.mk (by decide) ?_
    conv => whnf
    refine WrapH.is _ (wrap_i64 (by omega) (by omega)) ?_
    conv => whnf
    refine Req.mk (by decide) ?_
    conv => whnf
    refine NumH.is _ rfl ?_
    conv => whnf
    repeat' (first | (refine WrapH.quo (by omega) (by omega) (by omega) ?_; conv => whnf) | (refine WrapH.quoU (by omega) (by omega) (by omega) ?_; conv => whnf) | (refine NumH.rem (by omega) ?_; conv => whnf) | (refine WrapH.is _ (wrap_i64 (by omega) (by omega)) ?_; conv => whnf) | (refine WrapH.is _ (wrap_u64 (by omega) (by omega)) ?_; conv => whnf) | (refine WrapH.is _ wrap_u64m ?_; conv => whnf) | (refine Req.mk (by omega) ?_; conv => whnf) | (refine Req.mk (by dsimp only; omega) ?_; conv => whnf) | (refine Req.mk ⟨rfl, rfl, rfl, by simp [ci_length, *], rfl, by simp [okCell], by dsimp only; omega, by omega, by decide⟩ ?_; conv => whnf) | (refine Req.mk (show pendP _ _ by repeat' constructor) ?_; conv => whnf) | ((with_reducible refine brT ?_ ?_); (next => assumption); (conv => whnf)) | ((with_reducible refine brF ?_ ?_); (next => assumption); (conv => whnf)) | ((with_reducible refine brDT ?_ ?_); (next => omega); (conv => whnf)) | ((with_reducible refine brDF ?_ ?_); (next => omega); (conv => whnf)) | ((with_reducible refine brET ?_ ?_); (next => omega); (conv => whnf)) | ((with_reducible refine brEF ?_ ?_); (next => omega); (conv => whnf)) | ((with_reducible refine brNET ?_ ?_); (next => omega); (conv => whnf)) | ((with_reducible refine brNEF ?_ ?_); (next => omega); (conv => whnf)) | (with_reducible refine brNot ?_))
    refine congrArg AEnd.ret (congrArg (AV.int .i64) ?_)
    omega
theorem c_nearF (a : Int) (ha : -8796093022208 ≤ a ∧ a ≤ 8796093022208) : ACalls seat 44 [.int .i64 a, .int .i64 65536] [] (fun x _ => x = .ret (.int .i64 ((2 * a + 65536) / 131072))) := by
  refine ACalls.body seat_ok Try.func44 rfl rfl ?_
  have c := c_floorF (2 * a + 65536) (by omega)
  conv => whnf
  repeat' (first | (refine WrapH.quo (by omega) (by omega) (by omega) ?_; conv => whnf) | (refine WrapH.quoU (by omega) (by omega) (by omega) ?_; conv => whnf) | (refine NumH.rem (by omega) ?_; conv => whnf) | (refine WrapH.is _ (wrap_i64 (by omega) (by omega)) ?_; conv => whnf) | (refine WrapH.is _ (wrap_u64 (by omega) (by omega)) ?_; conv => whnf) | (refine WrapH.is _ wrap_u64m ?_; conv => whnf) | (refine Req.mk (by omega) ?_; conv => whnf) | (refine Req.mk (by dsimp only; omega) ?_; conv => whnf) | (refine Req.mk ⟨rfl, rfl, rfl, by simp [ci_length, *], rfl, by simp [okCell], by dsimp only; omega, by omega, by decide⟩ ?_; conv => whnf) | (refine Req.mk (show pendP _ _ by repeat' constructor) ?_; conv => whnf) | ((with_reducible refine brT ?_ ?_); (next => assumption); (conv => whnf)) | ((with_reducible refine brF ?_ ?_); (next => assumption); (conv => whnf)) | ((with_reducible refine brDT ?_ ?_); (next => omega); (conv => whnf)) | ((with_reducible refine brDF ?_ ?_); (next => omega); (conv => whnf)) | ((with_reducible refine brET ?_ ?_); (next => omega); (conv => whnf)) | ((with_reducible refine brEF ?_ ?_); (next => omega); (conv => whnf)) | ((with_reducible refine brNET ?_ ?_); (next => omega); (conv => whnf)) | ((with_reducible refine brNEF ?_ ?_); (next => omega); (conv => whnf)) | (with_reducible refine brNot ?_))
  refine CallH.lift seat_g c (by simp [ClosedL, Closed]) (by simp [Closed]) ?_
  conv => whnf
  rfl
theorem c_between (a b : Pt) (t : Int) (ha : a.in 67108864) (hb : b.in 67108864) (ht : 1 ≤ t ∧ t ≤ 15) : ACalls seat 29 [a.a, b.a, .int .i64 (t * 4096)] [] (fun x _ => x = .ret (lerp a b t).a) := by
  refine ACalls.body seat_ok Try.func29 rfl rfl ?_
  obtain ⟨⟨a1, a2⟩, a3, a4⟩ := ha
  obtain ⟨⟨b1, b2⟩, b3, b4⟩ := hb
  have m1 := mulB (x := b.x - a.x) (e := t) (X := 134217728) (M := 15) (by omega) (by omega)
  have m2 := mulB (x := b.y - a.y) (e := t) (X := 134217728) (M := 15) (by omega) (by omega)
  have q1 : (b.x - a.x) * (t * 4096) = (b.x - a.x) * t * 4096 := (Int.mul_assoc _ _ _).symm
  have q2 : (b.y - a.y) * (t * 4096) = (b.y - a.y) * t * 4096 := (Int.mul_assoc _ _ _).symm
  have l1 : lerpZ a.x b.x t = a.x + ((b.x - a.x) * t + 8) / 16 := rfl
  have l2 : lerpZ a.y b.y t = a.y + ((b.y - a.y) * t + 8) / 16 := rfl
  have c1 := c_nearF ((b.x - a.x) * (t * 4096)) (by rw [q1]; omega)
  have c2 := c_nearF ((b.y - a.y) * (t * 4096)) (by rw [q2]; omega)
  have hr : (lerp a b t).a = .agg [.int .i64 (a.x + (2 * ((b.x - a.x) * (t * 4096)) + 65536) / 131072), .int .i64 (a.y + (2 * ((b.y - a.y) * (t * 4096)) + 65536) / 131072)] := by
    unfold lerp Pt.a Pt.c
    simp only
    rw [l1, l2, q1, q2]
    congr 3
    · omega
    · congr 2; omega
  rw [hr]
  have p1 : -2013265920 * 4096 ≤ (b.x - a.x) * (t * 4096) ∧ (b.x - a.x) * (t * 4096) ≤ 2013265920 * 4096 := by rw [q1]; omega
  have p2 : -2013265920 * 4096 ≤ (b.y - a.y) * (t * 4096) ∧ (b.y - a.y) * (t * 4096) ≤ 2013265920 * 4096 := by rw [q2]; omega
  obtain ⟨T, hT⟩ : ∃ T, T = t * 4096 := ⟨_, rfl⟩
  rw [← hT] at c1 c2 p1 p2 ⊢
  have w1 : IntKind.wrap .i64 ((b.x - a.x) * T) = (b.x - a.x) * T := wrap_i64 (by omega) (by omega)
  have w2 : IntKind.wrap .i64 ((b.y - a.y) * T) = (b.y - a.y) * T := wrap_i64 (by omega) (by omega)
  have d1 : -9000000000000000000 ≤ (2 * ((b.x - a.x) * T) + 65536) / 131072 ∧ (2 * ((b.x - a.x) * T) + 65536) / 131072 ≤ 9000000000000000000 := by omega
  have d2 : -9000000000000000000 ≤ (2 * ((b.y - a.y) * T) + 65536) / 131072 ∧ (2 * ((b.y - a.y) * T) + 65536) / 131072 ≤ 9000000000000000000 := by omega
  clear q1 q2 hr l1 l2
  conv => whnf
  refine DrawH.plan seat_ok (.take 0 (.take 1 (.take 2 (.take 3 (.take 4 (.take 5 (.take 6 (.take 7 (.take 8 (.take 11 (.take 12 (.take 13 (.take 14 (.take 15 (.take 16 (.take 17 (.take 18 (.take 19 (.perform 9 none (.take 10 (.perform 20 none (.take 21 (.take 22 (.perform 23 none Plan.done)))))))))))))))))))))))) 0 (by kernel_rfl) ?_
  conv => whnf
  repeat' (first | exact rfl | (refine WrapH.is _ w1 ?_; conv => whnf) | (refine WrapH.is _ w2 ?_; conv => whnf) | (refine CallH.lift seat_g c1 (by simp [Closed, ClosedL]) (by simp [Closed]) ?_; conv => whnf) | (refine CallH.lift seat_g c2 (by simp [Closed, ClosedL]) (by simp [Closed]) ?_; conv => whnf) | (first | (refine WrapH.quo (by omega) (by omega) (by omega) ?_; conv => whnf) | (refine WrapH.quoU (by omega) (by omega) (by omega) ?_; conv => whnf) | (refine NumH.rem (by omega) ?_; conv => whnf) | (refine WrapH.is _ (wrap_i64 (by omega) (by omega)) ?_; conv => whnf) | (refine WrapH.is _ (wrap_u64 (by omega) (by omega)) ?_; conv => whnf) | (refine WrapH.is _ wrap_u64m ?_; conv => whnf) | (refine Req.mk (by omega) ?_; conv => whnf) | (refine Req.mk (by dsimp only; omega) ?_; conv => whnf) | (refine Req.mk ⟨rfl, rfl, rfl, by simp [ci_length, *], rfl, by simp [okCell], by dsimp only; omega, by omega, by decide⟩ ?_; conv => whnf) | (refine Req.mk (show pendP _ _ by repeat' constructor) ?_; conv => whnf) | ((with_reducible refine brT ?_ ?_); (next => assumption); (conv => whnf)) | ((with_reducible refine brF ?_ ?_); (next => assumption); (conv => whnf)) | ((with_reducible refine brDT ?_ ?_); (next => omega); (conv => whnf)) | ((with_reducible refine brDF ?_ ?_); (next => omega); (conv => whnf)) | ((with_reducible refine brET ?_ ?_); (next => omega); (conv => whnf)) | ((with_reducible refine brEF ?_ ?_); (next => omega); (conv => whnf)) | ((with_reducible refine brNET ?_ ?_); (next => omega); (conv => whnf)) | ((with_reducible refine brNEF ?_ ?_); (next => omega); (conv => whnf)) | (with_reducible refine brNot ?_)) | (refine ⟨?_, ?_⟩ <;> (conv => whnf)))
set_option maxRecDepth 20000 in
theorem c_at (c : Cv) (t : Int) (hc : c.in 67108864) (ht : 1 ≤ t ∧ t ≤ 15) : ACalls seat 12 [c.a, .int .i64 (t * 4096)] [] (fun x _ => x = .ret (atP c t).a) := by
  refine ACalls.body seat_ok Try.func12 rfl rfl ?_
  obtain ⟨⟨hp, hq⟩, hr, hs⟩ := hc
  have ht' : 0 ≤ t ∧ t ≤ 16 := by omega
  have i1 := lerp_in hp hq ht'
  have i2 := lerp_in hq hr ht'
  have i3 := lerp_in hr hs ht'
  have i4 := lerp_in i1 i2 ht'
  have i5 := lerp_in i2 i3 ht'
  have c1 := c_between _ _ t hp hq ht
  have c2 := c_between _ _ t hq hr ht
  have c3 := c_between _ _ t hr hs ht
  have c4 := c_between _ _ t i1 i2 ht
  have c5 := c_between _ _ t i2 i3 ht
  have c6 := c_between _ _ t i4 i5 ht
  unfold atP
  generalize lerp (lerp (lerp c.p c.q t) (lerp c.q c.r t) t) (lerp (lerp c.q c.r t) (lerp c.r c.s t) t) t = g at *
  generalize lerp (lerp c.p c.q t) (lerp c.q c.r t) t = e at *
  generalize lerp (lerp c.q c.r t) (lerp c.r c.s t) t = f at *
  generalize lerp c.p c.q t = m1 at *
  generalize lerp c.q c.r t = m2 at *
  generalize lerp c.r c.s t = m3 at *
  obtain ⟨T, hT⟩ : ∃ T, T = t * 4096 := ⟨_, rfl⟩
  have hT2 : 0 ≤ T ∧ T ≤ 65536 := by omega
  rw [← hT] at c1 c2 c3 c4 c5 c6 ⊢
  conv => whnf
  repeat' (first | (refine WrapH.quo (by omega) (by omega) (by omega) ?_; conv => whnf) | (refine WrapH.quoU (by omega) (by omega) (by omega) ?_; conv => whnf) | (refine NumH.rem (by omega) ?_; conv => whnf) | (refine WrapH.is _ (wrap_i64 (by omega) (by omega)) ?_; conv => whnf) | (refine WrapH.is _ (wrap_u64 (by omega) (by omega)) ?_; conv => whnf) | (refine WrapH.is _ wrap_u64m ?_; conv => whnf) | (refine Req.mk (by omega) ?_; conv => whnf) | (refine Req.mk (by dsimp only; omega) ?_; conv => whnf) | (refine Req.mk ⟨rfl, rfl, rfl, by simp [ci_length, *], rfl, by simp [okCell], by dsimp only; omega, by omega, by decide⟩ ?_; conv => whnf) | (refine Req.mk (show pendP _ _ by repeat' constructor) ?_; conv => whnf) | ((with_reducible refine brT ?_ ?_); (next => assumption); (conv => whnf)) | ((with_reducible refine brF ?_ ?_); (next => assumption); (conv => whnf)) | ((with_reducible refine brDT ?_ ?_); (next => omega); (conv => whnf)) | ((with_reducible refine brDF ?_ ?_); (next => omega); (conv => whnf)) | ((with_reducible refine brET ?_ ?_); (next => omega); (conv => whnf)) | ((with_reducible refine brEF ?_ ?_); (next => omega); (conv => whnf)) | ((with_reducible refine brNET ?_ ?_); (next => omega); (conv => whnf)) | ((with_reducible refine brNEF ?_ ?_); (next => omega); (conv => whnf)) | (with_reducible refine brNot ?_))
  refine CallH.lift seat_g c1 ⟨Pt.closed _, Pt.closed _, by simp [Closed], trivial⟩ (Pt.closed _) ?_
  conv => whnf
  refine CallH.lift seat_g c2 ⟨Pt.closed _, Pt.closed _, by simp [Closed], trivial⟩ (Pt.closed _) ?_
  conv => whnf
  refine CallH.lift seat_g c3 ⟨Pt.closed _, Pt.closed _, by simp [Closed], trivial⟩ (Pt.closed _) ?_
  conv => whnf
  refine DrawH.plan seat_ok (.take 0 (.take 1 (.take 2 (.take 4 (.take 5 (.take 6 (.take 8 (.perform 3 none (.perform 7 none (.perform 9 none (.perform 10 none Plan.done))))))))))) 0 (by kernel_rfl) ?_
  conv => whnf
  repeat' (first | exact rfl | (refine CallH.lift seat_g c4 ⟨Pt.closed _, Pt.closed _, by simp [Closed], trivial⟩ (Pt.closed _) ?_; conv => whnf) | (refine CallH.lift seat_g c5 ⟨Pt.closed _, Pt.closed _, by simp [Closed], trivial⟩ (Pt.closed _) ?_; conv => whnf) | (refine CallH.lift seat_g c6 ⟨Pt.closed _, Pt.closed _, by simp [Closed], trivial⟩ (Pt.closed _) ?_; conv => whnf) | (first | (refine WrapH.quo (by omega) (by omega) (by omega) ?_; conv => whnf) | (refine WrapH.quoU (by omega) (by omega) (by omega) ?_; conv => whnf) | (refine NumH.rem (by omega) ?_; conv => whnf) | (refine WrapH.is _ (wrap_i64 (by omega) (by omega)) ?_; conv => whnf) | (refine WrapH.is _ (wrap_u64 (by omega) (by omega)) ?_; conv => whnf) | (refine WrapH.is _ wrap_u64m ?_; conv => whnf) | (refine Req.mk (by omega) ?_; conv => whnf) | (refine Req.mk (by dsimp only; omega) ?_; conv => whnf) | (refine Req.mk ⟨rfl, rfl, rfl, by simp [ci_length, *], rfl, by simp [okCell], by dsimp only; omega, by omega, by decide⟩ ?_; conv => whnf) | (refine Req.mk (show pendP _ _ by repeat' constructor) ?_; conv => whnf) | ((with_reducible refine brT ?_ ?_); (next => assumption); (conv => whnf)) | ((with_reducible refine brF ?_ ?_); (next => assumption); (conv => whnf)) | ((with_reducible refine brDT ?_ ?_); (next => omega); (conv => whnf)) | ((with_reducible refine brDF ?_ ?_); (next => omega); (conv => whnf)) | ((with_reducible refine brET ?_ ?_); (next => omega); (conv => whnf)) | ((with_reducible refine brEF ?_ ?_); (next => omega); (conv => whnf)) | ((with_reducible refine brNET ?_ ?_); (next => omega); (conv => whnf)) | ((with_reducible refine brNEF ?_ ?_); (next => omega); (conv => whnf)) | (with_reducible refine brNot ?_)) | (refine ⟨?_, ?_⟩ <;> (conv => whnf)))
set_option maxRecDepth 20000 in
theorem c_near (a b p : Pt) (ha : a.in 67108864) (hb : b.in 67108864) (hp : p.in 67108864)
    (hN : ∀ r : Int, 0 ≤ r → r * r ≤ (b.x - a.x) * (b.x - a.x) + (b.y - a.y) * (b.y - a.y) → (b.x - a.x) * (b.x - a.x) + (b.y - a.y) * (b.y - a.y) < (r + 1) * (r + 1) → nearOK (b.x - a.x) (b.y - a.y) (p.x - a.x) (p.y - a.y) r) :
    ACalls seat 11 [a.a, b.a, p.a] [] (fun x _ => x = .ret (.bool true)) := by
  refine ACalls.body seat_ok Try.func11 rfl rfl ?_
  obtain ⟨⟨a1, a2⟩, a3, a4⟩ := ha
  obtain ⟨⟨b1, b2⟩, b3, b4⟩ := hb
  obtain ⟨⟨p1, p2⟩, p3, p4⟩ := hp
  obtain ⟨dx, hdx⟩ : ∃ d, d = b.x - a.x := ⟨_, rfl⟩
  obtain ⟨dy, hdy⟩ : ∃ d, d = b.y - a.y := ⟨_, rfl⟩
  obtain ⟨px, hpx⟩ : ∃ d, d = p.x - a.x := ⟨_, rfl⟩
  obtain ⟨py, hpy⟩ : ∃ d, d = p.y - a.y := ⟨_, rfl⟩
  rw [← hdx, ← hdy, ← hpx, ← hpy] at hN
  have bx : -134217728 ≤ dx ∧ dx ≤ 134217728 := by omega
  have by' : -134217728 ≤ dy ∧ dy ≤ 134217728 := by omega
  have bpx : -134217728 ≤ px ∧ px ≤ 134217728 := by omega
  have bpy : -134217728 ≤ py ∧ py ≤ 134217728 := by omega
  have s1 : ((dx.natAbs * dx.natAbs + dy.natAbs * dy.natAbs : Nat) : Int) = dx * dx + dy * dy := by
    rw [Int.natCast_add, Int.natAbs_mul_self, Int.natAbs_mul_self]
  have q1 := mulB bx bx
  have q2 := mulB by' by'
  have cs := c_squares dx dy (by omega) (by omega)
  obtain ⟨r, r1, r2, r3, cr⟩ := c_root (dx.natAbs * dx.natAbs + dy.natAbs * dy.natAbs) (by omega)
  generalize dx.natAbs * dx.natAbs + dy.natAbs * dy.natAbs = n at *
  have hrb : r ≤ 268435456 := by
    apply Nat.le_of_not_lt; intro h
    have := Nat.mul_le_mul (show 268435457 ≤ r from h) (show 268435457 ≤ r from h); omega
  have hN := hN r (by omega) (by rw [← s1]; exact_mod_cast r1) (by rw [← s1]; exact_mod_cast r2)
  have k1 := mulB bx bpy
  have k2 := mulB by' bpx
  have k3 := mulB bx bpx
  have k4 := mulB by' bpy
  have k5 := mulB (x := (r : Int) + 1025) (e := (r : Int) + 1) (X := 536870912) (M := 536870912) (by omega) (by omega)
  refine ?_
  conv => whnf
  refine DrawH.cut (AV.undef :: AV.undef :: AV.undef :: .ptr 0 0 :: .ptr 1 0 :: .ptr 2 0 :: .bool false :: .int .i64 dx :: .int .i64 dy :: AV.undef :: AV.undef :: AV.undef :: AV.undef :: AV.undef :: AV.undef :: AV.undef :: AV.undef :: AV.undef :: AV.undef :: AV.undef :: AV.undef :: AV.undef :: AV.undef :: AV.undef :: AV.undef :: AV.undef :: AV.undef :: AV.undef :: AV.undef :: AV.undef :: AV.undef :: AV.undef :: AV.undef :: AV.undef :: AV.undef :: AV.undef :: AV.undef :: AV.undef :: AV.undef :: AV.undef :: AV.undef :: AV.undef :: AV.undef :: AV.undef :: AV.undef :: AV.undef :: AV.undef :: AV.undef :: AV.undef :: AV.undef :: AV.undef :: AV.undef :: AV.undef :: AV.undef :: AV.undef :: AV.undef :: AV.undef :: AV.undef :: AV.undef :: AV.undef :: AV.undef :: AV.undef :: AV.undef :: AV.undef :: AV.undef :: AV.undef :: AV.undef :: AV.undef :: AV.undef :: AV.undef :: AV.undef :: AV.undef :: AV.undef :: AV.undef :: AV.undef :: AV.undef :: AV.undef :: AV.undef :: AV.undef :: AV.undef :: AV.undef :: AV.undef :: AV.undef :: AV.undef :: AV.undef :: AV.undef :: AV.undef :: AV.undef :: AV.undef :: AV.undef :: AV.undef :: AV.undef :: AV.undef :: AV.undef :: AV.undef :: AV.undef :: AV.undef :: []) [.var a.c 23, .var b.c 23, .var p.c 23] ?_ ?_
  · subst hdx hdy
    refine DrawH.plan seat_ok (.take 0 (.take 1 (.take 2 (.take 3 (.take 4 (.take 5 (.take 6 (.take 7 (.take 8 (.take 9 (.take 10 (.take 11 Plan.done)))))))))))) 0 (by kernel_rfl) ?_
    conv => whnf
    repeat' (first | exact ⟨rfl, keepT_weak (maskOf 97 [3, 4, 5, 6, 7, 8]) _, rfl⟩ | (first | (refine WrapH.quo (by omega) (by omega) (by omega) ?_; conv => whnf) | (refine WrapH.quoU (by omega) (by omega) (by omega) ?_; conv => whnf) | (refine NumH.rem (by omega) ?_; conv => whnf) | (refine WrapH.is _ (wrap_i64 (by omega) (by omega)) ?_; conv => whnf) | (refine WrapH.is _ (wrap_u64 (by omega) (by omega)) ?_; conv => whnf) | (refine WrapH.is _ wrap_u64m ?_; conv => whnf) | (refine Req.mk (by omega) ?_; conv => whnf) | (refine Req.mk (by dsimp only; omega) ?_; conv => whnf) | (refine Req.mk ⟨rfl, rfl, rfl, by simp [ci_length, *], rfl, by simp [okCell], by dsimp only; omega, by omega, by decide⟩ ?_; conv => whnf) | (refine Req.mk (show pendP _ _ by repeat' constructor) ?_; conv => whnf) | ((with_reducible refine brT ?_ ?_); (next => assumption); (conv => whnf)) | ((with_reducible refine brF ?_ ?_); (next => assumption); (conv => whnf)) | ((with_reducible refine brDT ?_ ?_); (next => omega); (conv => whnf)) | ((with_reducible refine brDF ?_ ?_); (next => omega); (conv => whnf)) | ((with_reducible refine brET ?_ ?_); (next => omega); (conv => whnf)) | ((with_reducible refine brEF ?_ ?_); (next => omega); (conv => whnf)) | ((with_reducible refine brNET ?_ ?_); (next => omega); (conv => whnf)) | ((with_reducible refine brNEF ?_ ?_); (next => omega); (conv => whnf)) | (with_reducible refine brNot ?_)) | (refine ⟨?_, ?_⟩ <;> (conv => whnf)))
  refine DrawH.cut (AV.undef :: AV.undef :: AV.undef :: AV.undef :: AV.undef :: AV.undef :: .bool false :: .int .i64 dx :: .int .i64 dy :: .int .i64 px :: .int .i64 py :: AV.undef :: AV.undef :: AV.undef :: AV.undef :: AV.undef :: AV.undef :: AV.undef :: AV.undef :: AV.undef :: AV.undef :: AV.undef :: AV.undef :: AV.undef :: AV.undef :: AV.undef :: AV.undef :: AV.undef :: AV.undef :: AV.undef :: AV.undef :: AV.undef :: AV.undef :: AV.undef :: AV.undef :: AV.undef :: AV.undef :: AV.undef :: AV.undef :: AV.undef :: AV.undef :: AV.undef :: AV.undef :: AV.undef :: AV.undef :: AV.undef :: AV.undef :: AV.undef :: AV.undef :: AV.undef :: AV.undef :: AV.undef :: AV.undef :: AV.undef :: AV.undef :: AV.undef :: AV.undef :: AV.undef :: AV.undef :: AV.undef :: AV.undef :: AV.undef :: AV.undef :: AV.undef :: AV.undef :: AV.undef :: AV.undef :: AV.undef :: AV.undef :: AV.undef :: AV.undef :: AV.undef :: AV.undef :: AV.undef :: AV.undef :: AV.undef :: AV.undef :: AV.undef :: AV.undef :: AV.undef :: AV.undef :: AV.undef :: AV.undef :: AV.undef :: AV.undef :: AV.undef :: AV.undef :: AV.undef :: AV.undef :: AV.undef :: AV.undef :: AV.undef :: AV.undef :: AV.undef :: AV.undef :: AV.undef :: AV.undef :: []) [.var a.c 23, .var b.c 23, .var p.c 23] ?_ ?_
  · subst hpx hpy
    refine DrawH.plan seat_ok (.take 0 (.take 1 (.take 2 (.take 3 (.take 4 (.take 5 (.take 6 (.take 7 (.take 8 (.take 9 (.take 10 (.take 11 Plan.done)))))))))))) 0 (by kernel_rfl) ?_
    conv => whnf
    repeat' (first | exact ⟨rfl, keepT_weak (maskOf 97 [6, 7, 8, 9, 10]) _, rfl⟩ | (first | (refine WrapH.quo (by omega) (by omega) (by omega) ?_; conv => whnf) | (refine WrapH.quoU (by omega) (by omega) (by omega) ?_; conv => whnf) | (refine NumH.rem (by omega) ?_; conv => whnf) | (refine WrapH.is _ (wrap_i64 (by omega) (by omega)) ?_; conv => whnf) | (refine WrapH.is _ (wrap_u64 (by omega) (by omega)) ?_; conv => whnf) | (refine WrapH.is _ wrap_u64m ?_; conv => whnf) | (refine Req.mk (by omega) ?_; conv => whnf) | (refine Req.mk (by dsimp only; omega) ?_; conv => whnf) | (refine Req.mk ⟨rfl, rfl, rfl, by simp [ci_length, *], rfl, by simp [okCell], by dsimp only; omega, by omega, by decide⟩ ?_; conv => whnf) | (refine Req.mk (show pendP _ _ by repeat' constructor) ?_; conv => whnf) | ((with_reducible refine brT ?_ ?_); (next => assumption); (conv => whnf)) | ((with_reducible refine brF ?_ ?_); (next => assumption); (conv => whnf)) | ((with_reducible refine brDT ?_ ?_); (next => omega); (conv => whnf)) | ((with_reducible refine brDF ?_ ?_); (next => omega); (conv => whnf)) | ((with_reducible refine brET ?_ ?_); (next => omega); (conv => whnf)) | ((with_reducible refine brEF ?_ ?_); (next => omega); (conv => whnf)) | ((with_reducible refine brNET ?_ ?_); (next => omega); (conv => whnf)) | ((with_reducible refine brNEF ?_ ?_); (next => omega); (conv => whnf)) | (with_reducible refine brNot ?_)) | (refine ⟨?_, ?_⟩ <;> (conv => whnf)))
  clear hdx hdy hpx hpy a1 a2 a3 a4 b1 b2 b3 b4 p1 p2 p3 p4 s1 q1 q2 r1 r2
  unfold nearOK at hN
  by_cases g : (r : Int) = 0
  · rw [if_pos g] at hN
    conv => whnf
    refine CallH.lift seat_g cs (by simp [Closed, ClosedL]) (nv_closed _ _) ?_
    conv => whnf
    refine CallH.lift seat_g cr ⟨nv_closed _ _, trivial⟩ (by simp [Closed]) ?_
    conv => whnf
    repeat' (first | (refine WrapH.quo (by omega) (by omega) (by omega) ?_; conv => whnf) | (refine WrapH.quoU (by omega) (by omega) (by omega) ?_; conv => whnf) | (refine NumH.rem (by omega) ?_; conv => whnf) | (refine WrapH.is _ (wrap_i64 (by omega) (by omega)) ?_; conv => whnf) | (refine WrapH.is _ (wrap_u64 (by omega) (by omega)) ?_; conv => whnf) | (refine WrapH.is _ wrap_u64m ?_; conv => whnf) | (refine Req.mk (by omega) ?_; conv => whnf) | (refine Req.mk (by dsimp only; omega) ?_; conv => whnf) | (refine Req.mk ⟨rfl, rfl, rfl, by simp [ci_length, *], rfl, by simp [okCell], by dsimp only; omega, by omega, by decide⟩ ?_; conv => whnf) | (refine Req.mk (show pendP _ _ by repeat' constructor) ?_; conv => whnf) | ((with_reducible refine brT ?_ ?_); (next => assumption); (conv => whnf)) | ((with_reducible refine brF ?_ ?_); (next => assumption); (conv => whnf)) | ((with_reducible refine brDT ?_ ?_); (next => omega); (conv => whnf)) | ((with_reducible refine brDF ?_ ?_); (next => omega); (conv => whnf)) | ((with_reducible refine brET ?_ ?_); (next => omega); (conv => whnf)) | ((with_reducible refine brEF ?_ ?_); (next => omega); (conv => whnf)) | ((with_reducible refine brNET ?_ ?_); (next => omega); (conv => whnf)) | ((with_reducible refine brNEF ?_ ?_); (next => omega); (conv => whnf)) | (with_reducible refine brNot ?_))
    exact congrArg AEnd.ret (congrArg AV.bool (decide_eq_true (by omega)))
  · rw [if_neg g] at hN
    conv => whnf
    refine CallH.lift seat_g cs (by simp [Closed, ClosedL]) (nv_closed _ _) ?_
    conv => whnf
    refine CallH.lift seat_g cr ⟨nv_closed _ _, trivial⟩ (by simp [Closed]) ?_
    conv => whnf
    repeat' (first | (refine WrapH.quo (by omega) (by omega) (by omega) ?_; conv => whnf) | (refine WrapH.quoU (by omega) (by omega) (by omega) ?_; conv => whnf) | (refine NumH.rem (by omega) ?_; conv => whnf) | (refine WrapH.is _ (wrap_i64 (by omega) (by omega)) ?_; conv => whnf) | (refine WrapH.is _ (wrap_u64 (by omega) (by omega)) ?_; conv => whnf) | (refine WrapH.is _ wrap_u64m ?_; conv => whnf) | (refine Req.mk (by omega) ?_; conv => whnf) | (refine Req.mk (by dsimp only; omega) ?_; conv => whnf) | (refine Req.mk ⟨rfl, rfl, rfl, by simp [ci_length, *], rfl, by simp [okCell], by dsimp only; omega, by omega, by decide⟩ ?_; conv => whnf) | (refine Req.mk (show pendP _ _ by repeat' constructor) ?_; conv => whnf) | ((with_reducible refine brT ?_ ?_); (next => assumption); (conv => whnf)) | ((with_reducible refine brF ?_ ?_); (next => assumption); (conv => whnf)) | ((with_reducible refine brDT ?_ ?_); (next => omega); (conv => whnf)) | ((with_reducible refine brDF ?_ ?_); (next => omega); (conv => whnf)) | ((with_reducible refine brET ?_ ?_); (next => omega); (conv => whnf)) | ((with_reducible refine brEF ?_ ?_); (next => omega); (conv => whnf)) | ((with_reducible refine brNET ?_ ?_); (next => omega); (conv => whnf)) | ((with_reducible refine brNEF ?_ ?_); (next => omega); (conv => whnf)) | (with_reducible refine brNot ?_))
    exact congrArg AEnd.ret (congrArg AV.bool (decide_eq_true (by omega)))
end Go.Proofs.Ytfiekficbbikaaa
