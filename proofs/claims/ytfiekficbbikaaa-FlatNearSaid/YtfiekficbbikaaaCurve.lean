/- The contracts of the curve's functions, the document's and the program's: cut, flat, right. Conditions: the numbers within the bounds that each line names. -/
import Derived.Test.YtfiekficbbikaaaSeat
import Derived.Test.YtfiekficbbikaaaAbsD
import Derived.Test.YtfiekficbbikaaaGeo
set_option linter.unusedSimpArgs false
set_option linter.unusedVariables false
set_option linter.deprecated false
namespace Go.Proofs.Ytfiekficbbikaaa
open Go.Abs

structure Cv where
  p : Pt
  q : Pt
  r : Pt
  s : Pt
def Cv.c (c : Cv) : List AV := [.int .i64 c.p.x, .int .i64 c.p.y, .int .i64 c.q.x, .int .i64 c.q.y, .int .i64 c.r.x, .int .i64 c.r.y, .int .i64 c.s.x, .int .i64 c.s.y]
def Cv.a (c : Cv) : AV := .agg c.c
theorem Cv.closed (c : Cv) : Closed c.a := by simp [Cv.a, Cv.c, Closed, ClosedL]
def Cv.in (c : Cv) (m : Int) : Prop := (c.p.in m ∧ c.q.in m) ∧ c.r.in m ∧ c.s.in m
instance (c : Cv) (m : Int) : Decidable (c.in m) := by unfold Cv.in; infer_instance
def bentZ (a b c : Int) : Prop := a - 2 * b + c ≤ 512 ∧ -512 ≤ a - 2 * b + c
instance (a b c : Int) : Decidable (bentZ a b c) := by unfold bentZ; infer_instance
def Cv.flat (c : Cv) : Prop := ((bentZ c.p.x c.q.x c.r.x ∧ bentZ c.p.y c.q.y c.r.y) ∧ bentZ c.q.x c.r.x c.s.x) ∧ bentZ c.q.y c.r.y c.s.y
instance (c : Cv) : Decidable c.flat := by unfold Cv.flat; infer_instance
def midZ (a b : Int) : Int := (a + b + 1) / 2
def Pt.mid (a b : Pt) : Pt := ⟨midZ a.x b.x, midZ a.y b.y⟩
def Cv.cut1 (c : Cv) : Cv := ⟨c.p, Pt.mid c.p c.q, Pt.mid (Pt.mid c.p c.q) (Pt.mid c.q c.r), Pt.mid (Pt.mid (Pt.mid c.p c.q) (Pt.mid c.q c.r)) (Pt.mid (Pt.mid c.q c.r) (Pt.mid c.r c.s))⟩
def Cv.cut2 (c : Cv) : Cv := ⟨Pt.mid (Pt.mid (Pt.mid c.p c.q) (Pt.mid c.q c.r)) (Pt.mid (Pt.mid c.q c.r) (Pt.mid c.r c.s)), Pt.mid (Pt.mid c.q c.r) (Pt.mid c.r c.s), Pt.mid c.r c.s, c.s⟩
theorem midZ_in {a b m : Int} (ha : -m ≤ a ∧ a ≤ m) (hb : -m ≤ b ∧ b ≤ m) : -m ≤ midZ a b ∧ midZ a b ≤ m := by unfold midZ; omega
theorem Pt.mid_in {a b : Pt} {m : Int} (ha : a.in m) (hb : b.in m) : (Pt.mid a b).in m := ⟨midZ_in ha.1 hb.1, midZ_in ha.2 hb.2⟩

/-- 2^42: what every number below keeps to -/
theorem c_bent (a b c : Int) (ha : -4398046511104 ≤ a ∧ a ≤ 4398046511104) (hb : -4398046511104 ≤ b ∧ b ≤ 4398046511104) (hc : -4398046511104 ≤ c ∧ c ≤ 4398046511104) :
    ACalls seat 26 [.int .i64 a, .int .i64 b, .int .i64 c] [] (fun x _ => x = .ret (.bool (decide (bentZ a b c)))) := by
  refine ACalls.body seat_ok Try.func26 rfl rfl ?_
  unfold bentZ
  by_cases g : a - 2 * b + c ≤ 512
  · conv => whnf
    repeat' (first | (refine WrapH.quo (by omega) (by omega) (by omega) ?_; conv => whnf) | (refine NumH.rem (by omega) ?_; conv => whnf) | (refine WrapH.is _ (wrap_i64 (by omega) (by omega)) ?_; conv => whnf) | (refine WrapH.is _ (wrap_u64 (by omega) (by omega)) ?_; conv => whnf) | (refine WrapH.is _ wrap_u64m ?_; conv => whnf) | (refine Req.mk (by omega) ?_; conv => whnf) | (refine Req.mk (by dsimp only; omega) ?_; conv => whnf) | (refine Req.mk ⟨rfl, rfl, rfl, by simp [ci_length, *], rfl, by simp [okCell], by dsimp only; omega, by omega, by decide⟩ ?_; conv => whnf) | (refine Req.mk (show pendP _ _ by repeat' constructor) ?_; conv => whnf) | ((with_reducible refine brT ?_ ?_); (next => assumption); (conv => whnf)) | ((with_reducible refine brF ?_ ?_); (next => assumption); (conv => whnf)) | ((with_reducible refine brDT ?_ ?_); (next => omega); (conv => whnf)) | ((with_reducible refine brDF ?_ ?_); (next => omega); (conv => whnf)) | ((with_reducible refine brET ?_ ?_); (next => omega); (conv => whnf)) | ((with_reducible refine brEF ?_ ?_); (next => omega); (conv => whnf)) | ((with_reducible refine brNET ?_ ?_); (next => omega); (conv => whnf)) | ((with_reducible refine brNEF ?_ ?_); (next => omega); (conv => whnf)) | (with_reducible refine brNot ?_))
    refine congrArg AEnd.ret (congrArg AV.bool ?_)
    exact decide_eq_decide.2 ⟨fun h => ⟨by omega, by omega⟩, fun h => h.2⟩
  · conv => whnf
    repeat' (first | (refine WrapH.quo (by omega) (by omega) (by omega) ?_; conv => whnf) | (refine NumH.rem (by omega) ?_; conv => whnf) | (refine WrapH.is _ (wrap_i64 (by omega) (by omega)) ?_; conv => whnf) | (refine WrapH.is _ (wrap_u64 (by omega) (by omega)) ?_; conv => whnf) | (refine WrapH.is _ wrap_u64m ?_; conv => whnf) | (refine Req.mk (by omega) ?_; conv => whnf) | (refine Req.mk (by dsimp only; omega) ?_; conv => whnf) | (refine Req.mk ⟨rfl, rfl, rfl, by simp [ci_length, *], rfl, by simp [okCell], by dsimp only; omega, by omega, by decide⟩ ?_; conv => whnf) | (refine Req.mk (show pendP _ _ by repeat' constructor) ?_; conv => whnf) | ((with_reducible refine brT ?_ ?_); (next => assumption); (conv => whnf)) | ((with_reducible refine brF ?_ ?_); (next => assumption); (conv => whnf)) | ((with_reducible refine brDT ?_ ?_); (next => omega); (conv => whnf)) | ((with_reducible refine brDF ?_ ?_); (next => omega); (conv => whnf)) | ((with_reducible refine brET ?_ ?_); (next => omega); (conv => whnf)) | ((with_reducible refine brEF ?_ ?_); (next => omega); (conv => whnf)) | ((with_reducible refine brNET ?_ ?_); (next => omega); (conv => whnf)) | ((with_reducible refine brNEF ?_ ?_); (next => omega); (conv => whnf)) | (with_reducible refine brNot ?_))
    refine congrArg AEnd.ret (congrArg AV.bool ?_)
    exact (decide_eq_false (by omega)).symm
theorem c_floor4 (a : Int) (ha : -70368744177664 ≤ a ∧ a ≤ 70368744177664) : ACalls seat 52 [.int .i64 a, .int .i64 4] [] (fun x _ => x = .ret (.int .i64 (a / 4))) := by
  refine ACalls.body seat_ok Try.func52 rfl rfl ?_
  have hq : (0 ≤ a ∧ a.tdiv 4 = a / 4 ∧ a.tmod 4 = a % 4) ∨ (a < 0 ∧ a.tdiv 4 = -(-a / 4) ∧ a.tmod 4 = -(-a % 4)) := by
    by_cases h : 0 ≤ a
    · exact .inl ⟨h, Int.tdiv_eq_ediv_of_nonneg h, Int.tmod_eq_emod_of_nonneg h⟩
    · refine .inr ⟨by omega, ?_, ?_⟩
      · have := Int.neg_tdiv (-a) 4; rw [Int.neg_neg] at this; rw [this, Int.tdiv_eq_ediv_of_nonneg (by omega)]
      · have := Int.neg_tmod (-a) 4; rw [Int.neg_neg] at this; rw [this, Int.tmod_eq_emod_of_nonneg (by omega)]
  by_cases g : a.tmod 4 < 0
  · conv => whnf
    refine Req.mk (by decide) ?_
    conv => whnf
    refine WrapH.is _ (wrap_i64 (by omega) (by omega)) ?_
    conv => whnf
    refine Req.mk (by decide) ?_
    conv => whnf
    refine NumH.is _ rfl ?_
    conv => whnf
    repeat' (first | (refine WrapH.quo (by omega) (by omega) (by omega) ?_; conv => whnf) | (refine NumH.rem (by omega) ?_; conv => whnf) | (refine WrapH.is _ (wrap_i64 (by omega) (by omega)) ?_; conv => whnf) | (refine WrapH.is _ (wrap_u64 (by omega) (by omega)) ?_; conv => whnf) | (refine WrapH.is _ wrap_u64m ?_; conv => whnf) | (refine Req.mk (by omega) ?_; conv => whnf) | (refine Req.mk (by dsimp only; omega) ?_; conv => whnf) | (refine Req.mk ⟨rfl, rfl, rfl, by simp [ci_length, *], rfl, by simp [okCell], by dsimp only; omega, by omega, by decide⟩ ?_; conv => whnf) | (refine Req.mk (show pendP _ _ by repeat' constructor) ?_; conv => whnf) | ((with_reducible refine brT ?_ ?_); (next => assumption); (conv => whnf)) | ((with_reducible refine brF ?_ ?_); (next => assumption); (conv => whnf)) | ((with_reducible refine brDT ?_ ?_); (next => omega); (conv => whnf)) | ((with_reducible refine brDF ?_ ?_); (next => omega); (conv => whnf)) | ((with_reducible refine brET ?_ ?_); (next => omega); (conv => whnf)) | ((with_reducible refine brEF ?_ ?_); (next => omega); (conv => whnf)) | ((with_reducible refine brNET ?_ ?_); (next => omega); (conv => whnf)) | ((with_reducible refine brNEF ?_ ?_); (next => omega); (conv => whnf)) | (with_reducible refine brNot ?_))
    refine congrArg AEnd.ret (congrArg (AV.int .i64) ?_)
    omega
  · conv => whnf
    refine Req.mk (by decide) ?_
    conv => whnf
    refine WrapH.is _ (wrap_i64 (by omega) (by omega)) ?_
    conv => whnf
    refine Req.mk (by decide) ?_
    conv => whnf
    refine NumH.is _ rfl ?_
    conv => whnf
    repeat' (first | (refine WrapH.quo (by omega) (by omega) (by omega) ?_; conv => whnf) | (refine NumH.rem (by omega) ?_; conv => whnf) | (refine WrapH.is _ (wrap_i64 (by omega) (by omega)) ?_; conv => whnf) | (refine WrapH.is _ (wrap_u64 (by omega) (by omega)) ?_; conv => whnf) | (refine WrapH.is _ wrap_u64m ?_; conv => whnf) | (refine Req.mk (by omega) ?_; conv => whnf) | (refine Req.mk (by dsimp only; omega) ?_; conv => whnf) | (refine Req.mk ⟨rfl, rfl, rfl, by simp [ci_length, *], rfl, by simp [okCell], by dsimp only; omega, by omega, by decide⟩ ?_; conv => whnf) | (refine Req.mk (show pendP _ _ by repeat' constructor) ?_; conv => whnf) | ((with_reducible refine brT ?_ ?_); (next => assumption); (conv => whnf)) | ((with_reducible refine brF ?_ ?_); (next => assumption); (conv => whnf)) | ((with_reducible refine brDT ?_ ?_); (next => omega); (conv => whnf)) | ((with_reducible refine brDF ?_ ?_); (next => omega); (conv => whnf)) | ((with_reducible refine brET ?_ ?_); (next => omega); (conv => whnf)) | ((with_reducible refine brEF ?_ ?_); (next => omega); (conv => whnf)) | ((with_reducible refine brNET ?_ ?_); (next => omega); (conv => whnf)) | ((with_reducible refine brNEF ?_ ?_); (next => omega); (conv => whnf)) | (with_reducible refine brNot ?_))
    refine congrArg AEnd.ret (congrArg (AV.int .i64) ?_)
    omega
theorem c_near2 (a : Int) (ha : -8796093022208 ≤ a ∧ a ≤ 8796093022208) : ACalls seat 44 [.int .i64 a, .int .i64 2] [] (fun x _ => x = .ret (.int .i64 ((a + 1) / 2))) := by
  refine ACalls.body seat_ok Try.func44 rfl rfl ?_
  have c := c_floor4 (2 * a + 2) (by omega)
  rw [show (2 * a + 2) / 4 = (a + 1) / 2 by omega] at c
  conv => whnf
  repeat' (first | (refine WrapH.quo (by omega) (by omega) (by omega) ?_; conv => whnf) | (refine NumH.rem (by omega) ?_; conv => whnf) | (refine WrapH.is _ (wrap_i64 (by omega) (by omega)) ?_; conv => whnf) | (refine WrapH.is _ (wrap_u64 (by omega) (by omega)) ?_; conv => whnf) | (refine WrapH.is _ wrap_u64m ?_; conv => whnf) | (refine Req.mk (by omega) ?_; conv => whnf) | (refine Req.mk (by dsimp only; omega) ?_; conv => whnf) | (refine Req.mk ⟨rfl, rfl, rfl, by simp [ci_length, *], rfl, by simp [okCell], by dsimp only; omega, by omega, by decide⟩ ?_; conv => whnf) | (refine Req.mk (show pendP _ _ by repeat' constructor) ?_; conv => whnf) | ((with_reducible refine brT ?_ ?_); (next => assumption); (conv => whnf)) | ((with_reducible refine brF ?_ ?_); (next => assumption); (conv => whnf)) | ((with_reducible refine brDT ?_ ?_); (next => omega); (conv => whnf)) | ((with_reducible refine brDF ?_ ?_); (next => omega); (conv => whnf)) | ((with_reducible refine brET ?_ ?_); (next => omega); (conv => whnf)) | ((with_reducible refine brEF ?_ ?_); (next => omega); (conv => whnf)) | ((with_reducible refine brNET ?_ ?_); (next => omega); (conv => whnf)) | ((with_reducible refine brNEF ?_ ?_); (next => omega); (conv => whnf)) | (with_reducible refine brNot ?_))
  refine CallH.lift seat_g c (by simp [ClosedL, Closed]) (by simp [Closed]) ?_
  conv => whnf
  rfl
theorem c_rmiddle (a b : Pt) (ha : a.in 4398046511104) (hb : b.in 4398046511104) : ACalls seat 46 [a.a, b.a] [] (fun x _ => x = .ret (Pt.mid a b).a) := by
  refine ACalls.body seat_ok Try.func46 rfl rfl ?_
  obtain ⟨⟨a1, a2⟩, a3, a4⟩ := ha
  obtain ⟨⟨b1, b2⟩, b3, b4⟩ := hb
  have c1 := c_near2 (a.x + b.x) (by omega)
  have c2 := c_near2 (a.y + b.y) (by omega)
  conv => whnf
  refine DrawH.plan seat_ok (.take 0 (.take 1 (.take 2 (.take 3 (.take 4 (.take 6 (.take 7 (.take 8 (.take 9 (.take 10 (.perform 5 none (.perform 11 none (.take 12 (.perform 13 none Plan.done)))))))))))))) 0 (by kernel_rfl) ?_
  conv => whnf
  repeat' (first | (refine WrapH.quo (by omega) (by omega) (by omega) ?_; conv => whnf) | (refine NumH.rem (by omega) ?_; conv => whnf) | (refine WrapH.is _ (wrap_i64 (by omega) (by omega)) ?_; conv => whnf) | (refine WrapH.is _ (wrap_u64 (by omega) (by omega)) ?_; conv => whnf) | (refine WrapH.is _ wrap_u64m ?_; conv => whnf) | (refine Req.mk (by omega) ?_; conv => whnf) | (refine Req.mk (by dsimp only; omega) ?_; conv => whnf) | (refine Req.mk ⟨rfl, rfl, rfl, by simp [ci_length, *], rfl, by simp [okCell], by dsimp only; omega, by omega, by decide⟩ ?_; conv => whnf) | (refine Req.mk (show pendP _ _ by repeat' constructor) ?_; conv => whnf) | ((with_reducible refine brT ?_ ?_); (next => assumption); (conv => whnf)) | ((with_reducible refine brF ?_ ?_); (next => assumption); (conv => whnf)) | ((with_reducible refine brDT ?_ ?_); (next => omega); (conv => whnf)) | ((with_reducible refine brDF ?_ ?_); (next => omega); (conv => whnf)) | ((with_reducible refine brET ?_ ?_); (next => omega); (conv => whnf)) | ((with_reducible refine brEF ?_ ?_); (next => omega); (conv => whnf)) | ((with_reducible refine brNET ?_ ?_); (next => omega); (conv => whnf)) | ((with_reducible refine brNEF ?_ ?_); (next => omega); (conv => whnf)) | (with_reducible refine brNot ?_))
  refine CallH.lift seat_g c1 (by simp [ClosedL, Closed]) (by simp [Closed]) ?_
  conv => whnf
  repeat' (first | (refine WrapH.quo (by omega) (by omega) (by omega) ?_; conv => whnf) | (refine NumH.rem (by omega) ?_; conv => whnf) | (refine WrapH.is _ (wrap_i64 (by omega) (by omega)) ?_; conv => whnf) | (refine WrapH.is _ (wrap_u64 (by omega) (by omega)) ?_; conv => whnf) | (refine WrapH.is _ wrap_u64m ?_; conv => whnf) | (refine Req.mk (by omega) ?_; conv => whnf) | (refine Req.mk (by dsimp only; omega) ?_; conv => whnf) | (refine Req.mk ⟨rfl, rfl, rfl, by simp [ci_length, *], rfl, by simp [okCell], by dsimp only; omega, by omega, by decide⟩ ?_; conv => whnf) | (refine Req.mk (show pendP _ _ by repeat' constructor) ?_; conv => whnf) | ((with_reducible refine brT ?_ ?_); (next => assumption); (conv => whnf)) | ((with_reducible refine brF ?_ ?_); (next => assumption); (conv => whnf)) | ((with_reducible refine brDT ?_ ?_); (next => omega); (conv => whnf)) | ((with_reducible refine brDF ?_ ?_); (next => omega); (conv => whnf)) | ((with_reducible refine brET ?_ ?_); (next => omega); (conv => whnf)) | ((with_reducible refine brEF ?_ ?_); (next => omega); (conv => whnf)) | ((with_reducible refine brNET ?_ ?_); (next => omega); (conv => whnf)) | ((with_reducible refine brNEF ?_ ?_); (next => omega); (conv => whnf)) | (with_reducible refine brNot ?_))
  refine CallH.lift seat_g c2 (by simp [ClosedL, Closed]) (by simp [Closed]) ?_
  conv => whnf
  repeat' (first | (refine WrapH.quo (by omega) (by omega) (by omega) ?_; conv => whnf) | (refine NumH.rem (by omega) ?_; conv => whnf) | (refine WrapH.is _ (wrap_i64 (by omega) (by omega)) ?_; conv => whnf) | (refine WrapH.is _ (wrap_u64 (by omega) (by omega)) ?_; conv => whnf) | (refine WrapH.is _ wrap_u64m ?_; conv => whnf) | (refine Req.mk (by omega) ?_; conv => whnf) | (refine Req.mk (by dsimp only; omega) ?_; conv => whnf) | (refine Req.mk ⟨rfl, rfl, rfl, by simp [ci_length, *], rfl, by simp [okCell], by dsimp only; omega, by omega, by decide⟩ ?_; conv => whnf) | (refine Req.mk (show pendP _ _ by repeat' constructor) ?_; conv => whnf) | ((with_reducible refine brT ?_ ?_); (next => assumption); (conv => whnf)) | ((with_reducible refine brF ?_ ?_); (next => assumption); (conv => whnf)) | ((with_reducible refine brDT ?_ ?_); (next => omega); (conv => whnf)) | ((with_reducible refine brDF ?_ ?_); (next => omega); (conv => whnf)) | ((with_reducible refine brET ?_ ?_); (next => omega); (conv => whnf)) | ((with_reducible refine brEF ?_ ?_); (next => omega); (conv => whnf)) | ((with_reducible refine brNET ?_ ?_); (next => omega); (conv => whnf)) | ((with_reducible refine brNEF ?_ ?_); (next => omega); (conv => whnf)) | (with_reducible refine brNot ?_))
  rfl
set_option maxRecDepth 20000 in
theorem c_rflat (c : Cv) (h : c.in 4398046511104) : ACalls seat 10 [c.a] [] (fun x _ => x = .ret (.bool (decide c.flat))) := by
  refine ACalls.body seat_ok Try.func10 rfl rfl ?_
  obtain ⟨⟨⟨p1, p2⟩, q1, q2⟩, ⟨r1, r2⟩, s1, s2⟩ := h
  have c1 := c_bent c.p.x c.q.x c.r.x p1 q1 r1
  have c2 := c_bent c.p.y c.q.y c.r.y p2 q2 r2
  have c3 := c_bent c.q.x c.r.x c.s.x q1 r1 s1
  have c4 := c_bent c.q.y c.r.y c.s.y q2 r2 s2
  by_cases b1 : bentZ c.p.x c.q.x c.r.x
  case neg =>
    rw [decide_eq_false b1] at c1
    rw [show decide c.flat = false from decide_eq_false fun h => b1 h.1.1.1]
    conv => whnf
    refine CallH.lift seat_g c1 (by simp [ClosedL, Closed]) (by simp [Closed]) ?_
    conv => whnf
    rfl
  rw [decide_eq_true b1] at c1
  by_cases b2 : bentZ c.p.y c.q.y c.r.y
  case neg =>
    rw [decide_eq_false b2] at c2
    rw [show decide c.flat = false from decide_eq_false fun h => b2 h.1.1.2]
    conv => whnf
    refine CallH.lift seat_g c1 (by simp [ClosedL, Closed]) (by simp [Closed]) ?_
    conv => whnf
    refine CallH.lift seat_g c2 (by simp [ClosedL, Closed]) (by simp [Closed]) ?_
    conv => whnf
    rfl
  rw [decide_eq_true b2] at c2
  by_cases b3 : bentZ c.q.x c.r.x c.s.x
  case neg =>
    rw [decide_eq_false b3] at c3
    rw [show decide c.flat = false from decide_eq_false fun h => b3 h.1.2]
    conv => whnf
    refine CallH.lift seat_g c1 (by simp [ClosedL, Closed]) (by simp [Closed]) ?_
    conv => whnf
    refine CallH.lift seat_g c2 (by simp [ClosedL, Closed]) (by simp [Closed]) ?_
    conv => whnf
    refine CallH.lift seat_g c3 (by simp [ClosedL, Closed]) (by simp [Closed]) ?_
    conv => whnf
    rfl
  rw [decide_eq_true b3] at c3
  have e : decide c.flat = decide (bentZ c.q.y c.r.y c.s.y) := decide_eq_decide.2 ⟨fun h => h.2, fun h => ⟨⟨⟨b1, b2⟩, b3⟩, h⟩⟩
  rw [e]
  generalize decide (bentZ c.q.y c.r.y c.s.y) = b at *
  conv => whnf
  refine CallH.lift seat_g c1 (by simp [ClosedL, Closed]) (by simp [Closed]) ?_
  conv => whnf
  refine CallH.lift seat_g c2 (by simp [ClosedL, Closed]) (by simp [Closed]) ?_
  conv => whnf
  refine CallH.lift seat_g c3 (by simp [ClosedL, Closed]) (by simp [Closed]) ?_
  conv => whnf
  refine CallH.lift seat_g c4 (by simp [ClosedL, Closed]) (by simp [Closed]) ?_
  conv => whnf
  rfl
set_option maxRecDepth 20000 in
theorem c_rcut (c : Cv) (h : c.in 4398046511104) : ACalls seat 31 [c.a] [] (fun x _ => x = .ret (.tup [c.cut1.a, c.cut2.a])) := by
  refine ACalls.body seat_ok Try.func31 rfl rfl ?_
  obtain ⟨⟨hp, hq⟩, hr, hs⟩ := h
  have i1 := Pt.mid_in hp hq
  have i2 := Pt.mid_in hq hr
  have i3 := Pt.mid_in i1 i2
  have i4 := Pt.mid_in hr hs
  have i5 := Pt.mid_in i2 i4
  have c1 := c_rmiddle _ _ hp hq
  have c2 := c_rmiddle _ _ hq hr
  have c3 := c_rmiddle _ _ i1 i2
  have c4 := c_rmiddle _ _ hr hs
  have c5 := c_rmiddle _ _ i2 i4
  have c6 := c_rmiddle _ _ i3 i5
  unfold Cv.cut1 Cv.cut2
  generalize Pt.mid (Pt.mid (Pt.mid c.p c.q) (Pt.mid c.q c.r)) (Pt.mid (Pt.mid c.q c.r) (Pt.mid c.r c.s)) = f at *
  generalize Pt.mid (Pt.mid c.p c.q) (Pt.mid c.q c.r) = d at *
  generalize Pt.mid (Pt.mid c.q c.r) (Pt.mid c.r c.s) = e at *
  generalize Pt.mid c.p c.q = m1 at *
  generalize Pt.mid c.q c.r = m2 at *
  generalize Pt.mid c.r c.s = m3 at *
  conv => whnf
  refine CallH.lift seat_g c1 ⟨Pt.closed _, Pt.closed _, trivial⟩ (Pt.closed _) ?_
  conv => whnf
  refine CallH.lift seat_g c2 ⟨Pt.closed _, Pt.closed _, trivial⟩ (Pt.closed _) ?_
  conv => whnf
  refine CallH.lift seat_g c3 ⟨Pt.closed _, Pt.closed _, trivial⟩ (Pt.closed _) ?_
  conv => whnf
  refine CallH.lift seat_g c4 ⟨Pt.closed _, Pt.closed _, trivial⟩ (Pt.closed _) ?_
  conv => whnf
  refine CallH.lift seat_g c5 ⟨Pt.closed _, Pt.closed _, trivial⟩ (Pt.closed _) ?_
  conv => whnf
  refine CallH.lift seat_g c6 ⟨Pt.closed _, Pt.closed _, trivial⟩ (Pt.closed _) ?_
  conv => whnf
  refine DrawH.plan seat_ok (.take 0 (.take 1 (.take 2 (.take 3 (.take 4 (.take 5 (.take 6 (.take 7 (.take 8 (.take 9 (.take 10 (.take 11 (.perform 12 none (.perform 13 none Plan.done)))))))))))))) 0 (by kernel_rfl) ?_
  conv => whnf
  repeat' (first | (refine WrapH.quo (by omega) (by omega) (by omega) ?_; conv => whnf) | (refine NumH.rem (by omega) ?_; conv => whnf) | (refine WrapH.is _ (wrap_i64 (by omega) (by omega)) ?_; conv => whnf) | (refine WrapH.is _ (wrap_u64 (by omega) (by omega)) ?_; conv => whnf) | (refine WrapH.is _ wrap_u64m ?_; conv => whnf) | (refine Req.mk (by omega) ?_; conv => whnf) | (refine Req.mk (by dsimp only; omega) ?_; conv => whnf) | (refine Req.mk ⟨rfl, rfl, rfl, by simp [ci_length, *], rfl, by simp [okCell], by dsimp only; omega, by omega, by decide⟩ ?_; conv => whnf) | (refine Req.mk (show pendP _ _ by repeat' constructor) ?_; conv => whnf) | ((with_reducible refine brT ?_ ?_); (next => assumption); (conv => whnf)) | ((with_reducible refine brF ?_ ?_); (next => assumption); (conv => whnf)) | ((with_reducible refine brDT ?_ ?_); (next => omega); (conv => whnf)) | ((with_reducible refine brDF ?_ ?_); (next => omega); (conv => whnf)) | ((with_reducible refine brET ?_ ?_); (next => omega); (conv => whnf)) | ((with_reducible refine brEF ?_ ?_); (next => omega); (conv => whnf)) | ((with_reducible refine brNET ?_ ?_); (next => omega); (conv => whnf)) | ((with_reducible refine brNEF ?_ ?_); (next => omega); (conv => whnf)) | (with_reducible refine brNot ?_))
  rfl
end Go.Proofs.Ytfiekficbbikaaa
