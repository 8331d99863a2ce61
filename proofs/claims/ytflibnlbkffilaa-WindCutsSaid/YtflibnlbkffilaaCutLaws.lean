/- The law of cut edges, in plain terms: it returns true. Condition: the numbers lie where Go's types put them. -/
import Derived.Test.YtflibnlbkffilaaWind
import Derived.Test.YtflibnlbkffilaaRow
set_option linter.unusedSimpArgs false
set_option linter.unusedVariables false
set_option linter.deprecated false
namespace Go.Proofs.Ytflibnlbkffilaa
open Go.Abs

theorem pos_mul {n z : Int} (h : 0 < n) : 0 < n * z ↔ 0 < z := by
  constructor
  · intro h'
    by_cases c : 0 < z
    · exact c
    · have := Int.mul_nonneg (Int.le_of_lt h) (show 0 ≤ -z by omega)
      rw [Int.mul_neg] at this; omega
  · exact Int.mul_pos h
theorem neg_mul' {n z : Int} (h : 0 < n) : 0 < -(n * z) ↔ z < 0 := by
  rw [← Int.mul_neg, pos_mul h]; omega
theorem pass_cut (a p : Pt) (dx dy k n : Int) (hk : 0 ≤ k) (hkn : k < n) :
    passN ⟨a, ⟨a.x + n * dx, a.y + n * dy⟩⟩ p = passN ⟨a, ⟨a.x + k * dx, a.y + k * dy⟩⟩ p + passN ⟨⟨a.x + k * dx, a.y + k * dy⟩, ⟨a.x + n * dx, a.y + n * dy⟩⟩ p := by
  have z1 : ∀ m, rightZ a ⟨a.x + m * dx, a.y + m * dy⟩ p = m * ((p.x - a.x) * dy - (p.y - a.y) * dx) := by intro m; unfold rightZ; grind
  have z2 : ∀ m, rightZ ⟨a.x + m * dx, a.y + m * dy⟩ a p = -(m * ((p.x - a.x) * dy - (p.y - a.y) * dx)) := by intro m; unfold rightZ; grind
  have z3 : rightZ ⟨a.x + k * dx, a.y + k * dy⟩ ⟨a.x + n * dx, a.y + n * dy⟩ p = (n - k) * ((p.x - a.x) * dy - (p.y - a.y) * dx) := by unfold rightZ; grind
  have z4 : rightZ ⟨a.x + n * dx, a.y + n * dy⟩ ⟨a.x + k * dx, a.y + k * dy⟩ p = -((n - k) * ((p.x - a.x) * dy - (p.y - a.y) * dx)) := by unfold rightZ; grind
  unfold passN
  simp only [z1, z2, z3, z4]
  generalize (p.x - a.x) * dy - (p.y - a.y) * dx = z at *
  have hd : (0 < dy ∧ 0 ≤ k * dy ∧ k * dy < n * dy) ∨ (dy = 0 ∧ k * dy = 0 ∧ n * dy = 0) ∨ (dy < 0 ∧ k * dy ≤ 0 ∧ n * dy < k * dy) := by
    rcases Int.lt_trichotomy dy 0 with g | g | g
    · refine .inr (.inr ⟨g, ?_, ?_⟩)
      · have := Int.mul_nonneg hk (show 0 ≤ -dy by omega); rw [Int.mul_neg] at this; omega
      · have := Int.mul_pos (show 0 < n - k by omega) (show 0 < -dy by omega)
        rw [Int.mul_neg, Int.sub_mul] at this; omega
    · exact .inr (.inl ⟨g, by rw [g, Int.mul_zero], by rw [g, Int.mul_zero]⟩)
    · refine .inl ⟨g, Int.mul_nonneg hk (Int.le_of_lt g), ?_⟩
      have := Int.mul_pos (show 0 < n - k by omega) g
      rw [Int.sub_mul] at this; omega
  have hk0 : k = 0 ∧ k * dy = 0 ∨ 0 < k := by
    rcases Int.lt_or_eq_of_le hk with g | g
    · exact .inr g
    · exact .inl ⟨g.symm, by rw [← g, Int.zero_mul]⟩
  simp only [pos_mul (show 0 < n by omega), neg_mul' (show 0 < n by omega), pos_mul (show 0 < n - k by omega), neg_mul' (show 0 < n - k by omega)]
  rcases hk0 with ⟨h0, h0'⟩ | h0
  · subst h0
    simp only [Int.zero_mul, Int.add_zero] at *
    generalize n * dy = v at *
    repeat' split
    all_goals omega
  · simp only [pos_mul h0, neg_mul' h0]
    generalize n * dy = v at *
    generalize k * dy = u at *
    repeat' split
    all_goals omega
theorem cut_bound {k d : Int} (h1 : 0 ≤ k) (h2 : k ≤ 255) (h3 : -16777216 ≤ d) (h4 : d ≤ 16777216) : -4294967296 ≤ k * d ∧ k * d ≤ 4294967296 := by
  have a := Int.mul_nonneg h1 (show 0 ≤ d + 16777216 by omega)
  have b := Int.mul_nonneg h1 (show 0 ≤ 16777216 - d by omega)
  rw [Int.mul_add] at a
  rw [Int.mul_sub] at b
  omega

structure Cut where
  a : Pt
  d0 : Int
  d1 : Int
  k : Int
  n : Int
  p : Pt
def Cut.c (c : Cut) : List AV := [.int .i64 c.a.x, .int .i64 c.a.y, .int .i32 c.d0, .int .i32 c.d1, .int .u8 c.k, .int .u8 c.n, .int .i64 c.p.x, .int .i64 c.p.y]
def Cut.ok (c : Cut) : Prop := (c.a.i64 ∧ c.p.i64) ∧ (0 ≤ c.k ∧ c.k ≤ 255) ∧ (0 ≤ c.n ∧ c.n ≤ 255) ∧ (-2147483648 ≤ c.d0 ∧ c.d0 ≤ 2147483647) ∧ (-2147483648 ≤ c.d1 ∧ c.d1 ≤ 2147483647)
theorem Cut.closed (c : Cut) : Closed (.agg c.c) := by simp [Cut.c, Closed, ClosedL]

set_option maxRecDepth 20000 in
theorem l_cuts (a p : Pt) (d0 d1 k n : Int) (hai : a.i64) (hpi : p.i64) (k1 : 0 ≤ k) (k2 : k ≤ 255) (n1 : 0 ≤ n) (n2 : n ≤ 255) (d01 : -2147483648 ≤ d0) (d02 : d0 ≤ 2147483647) (d11 : -2147483648 ≤ d1) (d12 : d1 ≤ 2147483647) :
    ACalls seat 15 [.agg [.int .i64 a.x, .int .i64 a.y, .int .i32 d0, .int .i32 d1, .int .u8 k, .int .u8 n, .int .i64 p.x, .int .i64 p.y]] [] (fun x _ => x = .ret (.bool true)) := by
  refine ACalls.body seat_ok Try.func15 rfl rfl ?_
  have ca := c_pin a
  have cp := c_pin p
  conv => whnf
  refine CallH.lift seat_g c_wakes (by simp [ClosedL]) (by simp [Closed]) ?_
  by_cases n0 : n = 0
  · conv => whnf
    repeat' (first | (refine WrapH.quo (by omega) (by omega) (by omega) ?_; conv => whnf) | (refine NumH.rem (by omega) ?_; conv => whnf) | (refine WrapH.is _ (wrap_i64 (by omega) (by omega)) ?_; conv => whnf) | (refine WrapH.is _ (wrap_u64 (by omega) (by omega)) ?_; conv => whnf) | (refine WrapH.is _ wrap_u64m ?_; conv => whnf) | (refine Req.mk (by omega) ?_; conv => whnf) | (refine Req.mk (by dsimp only; omega) ?_; conv => whnf) | (refine Req.mk ⟨rfl, rfl, rfl, by simp [ci_length, *], rfl, by simp [okCell], by dsimp only; omega, by omega, by decide⟩ ?_; conv => whnf) | (refine Req.mk (show pendP _ _ by repeat' constructor) ?_; conv => whnf) | ((with_reducible refine brT ?_ ?_); (next => assumption); (conv => whnf)) | ((with_reducible refine brF ?_ ?_); (next => assumption); (conv => whnf)) | ((with_reducible refine brDT ?_ ?_); (next => omega); (conv => whnf)) | ((with_reducible refine brDF ?_ ?_); (next => omega); (conv => whnf)) | ((with_reducible refine brET ?_ ?_); (next => omega); (conv => whnf)) | ((with_reducible refine brEF ?_ ?_); (next => omega); (conv => whnf)) | ((with_reducible refine brNET ?_ ?_); (next => omega); (conv => whnf)) | ((with_reducible refine brNEF ?_ ?_); (next => omega); (conv => whnf)) | (with_reducible refine brNot ?_))
    rfl
  by_cases ha : a.in 17179869184
  · rw [decide_eq_true ha] at ca
    by_cases hp : p.in 17179869184
    · rw [decide_eq_true hp] at cp
      by_cases hh : ((a.x ≤ 1073741824 ∧ -1073741824 ≤ a.x) ∧ a.y ≤ 1073741824 ∧ -1073741824 ≤ a.y) ∧ (d0 ≤ 16777216 ∧ -16777216 ≤ d0) ∧ d1 ≤ 16777216 ∧ -16777216 ≤ d1
      · obtain ⟨⟨⟨a1, a2⟩, a3, a4⟩, ⟨e1, e2⟩, e3, e4⟩ := hh
        have hr1 := Int.emod_nonneg k n0
        have hr2 := Int.emod_lt_of_pos k (show 0 < n by omega)
        have b1 := cut_bound hr1 (by omega) e2 e1
        have b2 := cut_bound hr1 (by omega) e4 e3
        have b3 := cut_bound n1 n2 e2 e1
        have b4 := cut_bound n1 n2 e4 e3
        have cut := pass_cut a p d0 d1 (k % n) n hr1 hr2
        have c1 := c_passes ⟨a, ⟨a.x + n * d0, a.y + n * d1⟩⟩ p ⟨ha, by simp only [Pt.in]; omega⟩ hp
        have c2 := c_number p [⟨a, ⟨a.x + (k % n) * d0, a.y + (k % n) * d1⟩⟩, ⟨⟨a.x + (k % n) * d0, a.y + (k % n) * d1⟩, ⟨a.x + n * d0, a.y + n * d1⟩⟩] (by
          intro e he
          simp only [List.mem_cons, List.not_mem_nil, or_false] at he
          rcases he with rfl | rfl
          · exact ⟨ha, by simp only [Pt.in]; omega⟩
          · exact ⟨by simp only [Pt.in]; omega, by simp only [Pt.in]; omega⟩) hp (by simp)
        simp only [numN, Int.add_zero, ← cut] at c2
        generalize passN ⟨a, ⟨a.x + n * d0, a.y + n * d1⟩⟩ p = m at *
        conv => whnf
        repeat' (first | (refine WrapH.quo (by omega) (by omega) (by omega) ?_; conv => whnf) | (refine NumH.rem (by omega) ?_; conv => whnf) | (refine WrapH.is _ (wrap_i64 (by omega) (by omega)) ?_; conv => whnf) | (refine WrapH.is _ (wrap_u64 (by omega) (by omega)) ?_; conv => whnf) | (refine WrapH.is _ wrap_u64m ?_; conv => whnf) | (refine Req.mk (by omega) ?_; conv => whnf) | (refine Req.mk (by dsimp only; omega) ?_; conv => whnf) | (refine Req.mk ⟨rfl, rfl, rfl, by simp [ci_length, *], rfl, by simp [okCell], by dsimp only; omega, by omega, by decide⟩ ?_; conv => whnf) | (refine Req.mk (show pendP _ _ by repeat' constructor) ?_; conv => whnf) | ((with_reducible refine brT ?_ ?_); (next => assumption); (conv => whnf)) | ((with_reducible refine brF ?_ ?_); (next => assumption); (conv => whnf)) | ((with_reducible refine brDT ?_ ?_); (next => omega); (conv => whnf)) | ((with_reducible refine brDF ?_ ?_); (next => omega); (conv => whnf)) | ((with_reducible refine brET ?_ ?_); (next => omega); (conv => whnf)) | ((with_reducible refine brEF ?_ ?_); (next => omega); (conv => whnf)) | ((with_reducible refine brNET ?_ ?_); (next => omega); (conv => whnf)) | ((with_reducible refine brNEF ?_ ?_); (next => omega); (conv => whnf)) | (with_reducible refine brNot ?_))
        refine CallH.lift seat_g ca ⟨Pt.closed _, trivial⟩ (by simp [Closed]) ?_
        conv => whnf
        repeat' (first | (refine WrapH.quo (by omega) (by omega) (by omega) ?_; conv => whnf) | (refine NumH.rem (by omega) ?_; conv => whnf) | (refine WrapH.is _ (wrap_i64 (by omega) (by omega)) ?_; conv => whnf) | (refine WrapH.is _ (wrap_u64 (by omega) (by omega)) ?_; conv => whnf) | (refine WrapH.is _ wrap_u64m ?_; conv => whnf) | (refine Req.mk (by omega) ?_; conv => whnf) | (refine Req.mk (by dsimp only; omega) ?_; conv => whnf) | (refine Req.mk ⟨rfl, rfl, rfl, by simp [ci_length, *], rfl, by simp [okCell], by dsimp only; omega, by omega, by decide⟩ ?_; conv => whnf) | (refine Req.mk (show pendP _ _ by repeat' constructor) ?_; conv => whnf) | ((with_reducible refine brT ?_ ?_); (next => assumption); (conv => whnf)) | ((with_reducible refine brF ?_ ?_); (next => assumption); (conv => whnf)) | ((with_reducible refine brDT ?_ ?_); (next => omega); (conv => whnf)) | ((with_reducible refine brDF ?_ ?_); (next => omega); (conv => whnf)) | ((with_reducible refine brET ?_ ?_); (next => omega); (conv => whnf)) | ((with_reducible refine brEF ?_ ?_); (next => omega); (conv => whnf)) | ((with_reducible refine brNET ?_ ?_); (next => omega); (conv => whnf)) | ((with_reducible refine brNEF ?_ ?_); (next => omega); (conv => whnf)) | (with_reducible refine brNot ?_))
        refine CallH.lift seat_g cp ⟨Pt.closed _, trivial⟩ (by simp [Closed]) ?_
        conv => whnf
        repeat' (first | (refine WrapH.quo (by omega) (by omega) (by omega) ?_; conv => whnf) | (refine NumH.rem (by omega) ?_; conv => whnf) | (refine WrapH.is _ (wrap_i64 (by omega) (by omega)) ?_; conv => whnf) | (refine WrapH.is _ (wrap_u64 (by omega) (by omega)) ?_; conv => whnf) | (refine WrapH.is _ wrap_u64m ?_; conv => whnf) | (refine Req.mk (by omega) ?_; conv => whnf) | (refine Req.mk (by dsimp only; omega) ?_; conv => whnf) | (refine Req.mk ⟨rfl, rfl, rfl, by simp [ci_length, *], rfl, by simp [okCell], by dsimp only; omega, by omega, by decide⟩ ?_; conv => whnf) | (refine Req.mk (show pendP _ _ by repeat' constructor) ?_; conv => whnf) | ((with_reducible refine brT ?_ ?_); (next => assumption); (conv => whnf)) | ((with_reducible refine brF ?_ ?_); (next => assumption); (conv => whnf)) | ((with_reducible refine brDT ?_ ?_); (next => omega); (conv => whnf)) | ((with_reducible refine brDF ?_ ?_); (next => omega); (conv => whnf)) | ((with_reducible refine brET ?_ ?_); (next => omega); (conv => whnf)) | ((with_reducible refine brEF ?_ ?_); (next => omega); (conv => whnf)) | ((with_reducible refine brNET ?_ ?_); (next => omega); (conv => whnf)) | ((with_reducible refine brNEF ?_ ?_); (next => omega); (conv => whnf)) | (with_reducible refine brNot ?_))
        refine DrawH.plan seat_ok (.take 0 (.take 1 (.take 2 (.take 3 (.take 4 (.take 5 (.take 7 (.take 8 (.take 9 (.take 10 (.take 11 (.take 12 (.take 13 (.take 14 (.take 15 (.both (.perform 6 none (.perform 16 (some 3) (.perform 17 none (.take 18 (.take 19 Plan.done))))) (.perform 16 (some 3) (.perform 6 none (.perform 17 none (.take 18 (.take 19 Plan.done))))))))))))))))))))) 1 (by kernel_rfl) ?_
        conv => whnf
        refine ⟨?_, ?_⟩
        · conv => whnf
          repeat' (first | (refine WrapH.quo (by omega) (by omega) (by omega) ?_; conv => whnf) | (refine NumH.rem (by omega) ?_; conv => whnf) | (refine WrapH.is _ (wrap_i64 (by omega) (by omega)) ?_; conv => whnf) | (refine WrapH.is _ (wrap_u64 (by omega) (by omega)) ?_; conv => whnf) | (refine WrapH.is _ wrap_u64m ?_; conv => whnf) | (refine Req.mk (by omega) ?_; conv => whnf) | (refine Req.mk (by dsimp only; omega) ?_; conv => whnf) | (refine Req.mk ⟨rfl, rfl, rfl, by simp [ci_length, *], rfl, by simp [okCell], by dsimp only; omega, by omega, by decide⟩ ?_; conv => whnf) | (refine Req.mk (show pendP _ _ by repeat' constructor) ?_; conv => whnf) | ((with_reducible refine brT ?_ ?_); (next => assumption); (conv => whnf)) | ((with_reducible refine brF ?_ ?_); (next => assumption); (conv => whnf)) | ((with_reducible refine brDT ?_ ?_); (next => omega); (conv => whnf)) | ((with_reducible refine brDF ?_ ?_); (next => omega); (conv => whnf)) | ((with_reducible refine brET ?_ ?_); (next => omega); (conv => whnf)) | ((with_reducible refine brEF ?_ ?_); (next => omega); (conv => whnf)) | ((with_reducible refine brNET ?_ ?_); (next => omega); (conv => whnf)) | ((with_reducible refine brNEF ?_ ?_); (next => omega); (conv => whnf)) | (with_reducible refine brNot ?_))
          refine CallH.lift seat_g c1 ⟨Ed.closed _, Pt.closed _, trivial⟩ (by simp [Closed]) ?_
          conv => whnf
          repeat' (first | (refine WrapH.quo (by omega) (by omega) (by omega) ?_; conv => whnf) | (refine NumH.rem (by omega) ?_; conv => whnf) | (refine WrapH.is _ (wrap_i64 (by omega) (by omega)) ?_; conv => whnf) | (refine WrapH.is _ (wrap_u64 (by omega) (by omega)) ?_; conv => whnf) | (refine WrapH.is _ wrap_u64m ?_; conv => whnf) | (refine Req.mk (by omega) ?_; conv => whnf) | (refine Req.mk (by dsimp only; omega) ?_; conv => whnf) | (refine Req.mk ⟨rfl, rfl, rfl, by simp [ci_length, *], rfl, by simp [okCell], by dsimp only; omega, by omega, by decide⟩ ?_; conv => whnf) | (refine Req.mk (show pendP _ _ by repeat' constructor) ?_; conv => whnf) | ((with_reducible refine brT ?_ ?_); (next => assumption); (conv => whnf)) | ((with_reducible refine brF ?_ ?_); (next => assumption); (conv => whnf)) | ((with_reducible refine brDT ?_ ?_); (next => omega); (conv => whnf)) | ((with_reducible refine brDF ?_ ?_); (next => omega); (conv => whnf)) | ((with_reducible refine brET ?_ ?_); (next => omega); (conv => whnf)) | ((with_reducible refine brEF ?_ ?_); (next => omega); (conv => whnf)) | ((with_reducible refine brNET ?_ ?_); (next => omega); (conv => whnf)) | ((with_reducible refine brNEF ?_ ?_); (next => omega); (conv => whnf)) | (with_reducible refine brNot ?_))
          refine CallH.weakA (WeakL.cons (Weak.refl _) (WeakL.cons Weak.tok WeakL.nil)) ?_
          refine CallH.lift seat_g c2 ⟨Pt.closed _, elv_closed _, trivial⟩ (by simp [Closed]) ?_
          conv => whnf
          repeat' (first | (refine WrapH.quo (by omega) (by omega) (by omega) ?_; conv => whnf) | (refine NumH.rem (by omega) ?_; conv => whnf) | (refine WrapH.is _ (wrap_i64 (by omega) (by omega)) ?_; conv => whnf) | (refine WrapH.is _ (wrap_u64 (by omega) (by omega)) ?_; conv => whnf) | (refine WrapH.is _ wrap_u64m ?_; conv => whnf) | (refine Req.mk (by omega) ?_; conv => whnf) | (refine Req.mk (by dsimp only; omega) ?_; conv => whnf) | (refine Req.mk ⟨rfl, rfl, rfl, by simp [ci_length, *], rfl, by simp [okCell], by dsimp only; omega, by omega, by decide⟩ ?_; conv => whnf) | (refine Req.mk (show pendP _ _ by repeat' constructor) ?_; conv => whnf) | ((with_reducible refine brT ?_ ?_); (next => assumption); (conv => whnf)) | ((with_reducible refine brF ?_ ?_); (next => assumption); (conv => whnf)) | ((with_reducible refine brDT ?_ ?_); (next => omega); (conv => whnf)) | ((with_reducible refine brDF ?_ ?_); (next => omega); (conv => whnf)) | ((with_reducible refine brET ?_ ?_); (next => omega); (conv => whnf)) | ((with_reducible refine brEF ?_ ?_); (next => omega); (conv => whnf)) | ((with_reducible refine brNET ?_ ?_); (next => omega); (conv => whnf)) | ((with_reducible refine brNEF ?_ ?_); (next => omega); (conv => whnf)) | (with_reducible refine brNot ?_))
          refine congrArg AEnd.ret (congrArg AV.bool ?_)
          simp
        · conv => whnf
          repeat' (first | (refine WrapH.quo (by omega) (by omega) (by omega) ?_; conv => whnf) | (refine NumH.rem (by omega) ?_; conv => whnf) | (refine WrapH.is _ (wrap_i64 (by omega) (by omega)) ?_; conv => whnf) | (refine WrapH.is _ (wrap_u64 (by omega) (by omega)) ?_; conv => whnf) | (refine WrapH.is _ wrap_u64m ?_; conv => whnf) | (refine Req.mk (by omega) ?_; conv => whnf) | (refine Req.mk (by dsimp only; omega) ?_; conv => whnf) | (refine Req.mk ⟨rfl, rfl, rfl, by simp [ci_length, *], rfl, by simp [okCell], by dsimp only; omega, by omega, by decide⟩ ?_; conv => whnf) | (refine Req.mk (show pendP _ _ by repeat' constructor) ?_; conv => whnf) | ((with_reducible refine brT ?_ ?_); (next => assumption); (conv => whnf)) | ((with_reducible refine brF ?_ ?_); (next => assumption); (conv => whnf)) | ((with_reducible refine brDT ?_ ?_); (next => omega); (conv => whnf)) | ((with_reducible refine brDF ?_ ?_); (next => omega); (conv => whnf)) | ((with_reducible refine brET ?_ ?_); (next => omega); (conv => whnf)) | ((with_reducible refine brEF ?_ ?_); (next => omega); (conv => whnf)) | ((with_reducible refine brNET ?_ ?_); (next => omega); (conv => whnf)) | ((with_reducible refine brNEF ?_ ?_); (next => omega); (conv => whnf)) | (with_reducible refine brNot ?_))
          refine CallH.lift seat_g c1 ⟨Ed.closed _, Pt.closed _, trivial⟩ (by simp [Closed]) ?_
          conv => whnf
          repeat' (first | (refine WrapH.quo (by omega) (by omega) (by omega) ?_; conv => whnf) | (refine NumH.rem (by omega) ?_; conv => whnf) | (refine WrapH.is _ (wrap_i64 (by omega) (by omega)) ?_; conv => whnf) | (refine WrapH.is _ (wrap_u64 (by omega) (by omega)) ?_; conv => whnf) | (refine WrapH.is _ wrap_u64m ?_; conv => whnf) | (refine Req.mk (by omega) ?_; conv => whnf) | (refine Req.mk (by dsimp only; omega) ?_; conv => whnf) | (refine Req.mk ⟨rfl, rfl, rfl, by simp [ci_length, *], rfl, by simp [okCell], by dsimp only; omega, by omega, by decide⟩ ?_; conv => whnf) | (refine Req.mk (show pendP _ _ by repeat' constructor) ?_; conv => whnf) | ((with_reducible refine brT ?_ ?_); (next => assumption); (conv => whnf)) | ((with_reducible refine brF ?_ ?_); (next => assumption); (conv => whnf)) | ((with_reducible refine brDT ?_ ?_); (next => omega); (conv => whnf)) | ((with_reducible refine brDF ?_ ?_); (next => omega); (conv => whnf)) | ((with_reducible refine brET ?_ ?_); (next => omega); (conv => whnf)) | ((with_reducible refine brEF ?_ ?_); (next => omega); (conv => whnf)) | ((with_reducible refine brNET ?_ ?_); (next => omega); (conv => whnf)) | ((with_reducible refine brNEF ?_ ?_); (next => omega); (conv => whnf)) | (with_reducible refine brNot ?_))
          refine CallH.weakA (WeakL.cons (Weak.refl _) (WeakL.cons Weak.tok WeakL.nil)) ?_
          refine CallH.lift seat_g c2 ⟨Pt.closed _, elv_closed _, trivial⟩ (by simp [Closed]) ?_
          conv => whnf
          repeat' (first | (refine WrapH.quo (by omega) (by omega) (by omega) ?_; conv => whnf) | (refine NumH.rem (by omega) ?_; conv => whnf) | (refine WrapH.is _ (wrap_i64 (by omega) (by omega)) ?_; conv => whnf) | (refine WrapH.is _ (wrap_u64 (by omega) (by omega)) ?_; conv => whnf) | (refine WrapH.is _ wrap_u64m ?_; conv => whnf) | (refine Req.mk (by omega) ?_; conv => whnf) | (refine Req.mk (by dsimp only; omega) ?_; conv => whnf) | (refine Req.mk ⟨rfl, rfl, rfl, by simp [ci_length, *], rfl, by simp [okCell], by dsimp only; omega, by omega, by decide⟩ ?_; conv => whnf) | (refine Req.mk (show pendP _ _ by repeat' constructor) ?_; conv => whnf) | ((with_reducible refine brT ?_ ?_); (next => assumption); (conv => whnf)) | ((with_reducible refine brF ?_ ?_); (next => assumption); (conv => whnf)) | ((with_reducible refine brDT ?_ ?_); (next => omega); (conv => whnf)) | ((with_reducible refine brDF ?_ ?_); (next => omega); (conv => whnf)) | ((with_reducible refine brET ?_ ?_); (next => omega); (conv => whnf)) | ((with_reducible refine brEF ?_ ?_); (next => omega); (conv => whnf)) | ((with_reducible refine brNET ?_ ?_); (next => omega); (conv => whnf)) | ((with_reducible refine brNEF ?_ ?_); (next => omega); (conv => whnf)) | (with_reducible refine brNot ?_))
          refine congrArg AEnd.ret (congrArg AV.bool ?_)
          simp
      · conv => whnf
        repeat' (first | (refine WrapH.quo (by omega) (by omega) (by omega) ?_; conv => whnf) | (refine NumH.rem (by omega) ?_; conv => whnf) | (refine WrapH.is _ (wrap_i64 (by omega) (by omega)) ?_; conv => whnf) | (refine WrapH.is _ (wrap_u64 (by omega) (by omega)) ?_; conv => whnf) | (refine WrapH.is _ wrap_u64m ?_; conv => whnf) | (refine Req.mk (by omega) ?_; conv => whnf) | (refine Req.mk (by dsimp only; omega) ?_; conv => whnf) | (refine Req.mk ⟨rfl, rfl, rfl, by simp [ci_length, *], rfl, by simp [okCell], by dsimp only; omega, by omega, by decide⟩ ?_; conv => whnf) | (refine Req.mk (show pendP _ _ by repeat' constructor) ?_; conv => whnf) | ((with_reducible refine brT ?_ ?_); (next => assumption); (conv => whnf)) | ((with_reducible refine brF ?_ ?_); (next => assumption); (conv => whnf)) | ((with_reducible refine brDT ?_ ?_); (next => omega); (conv => whnf)) | ((with_reducible refine brDF ?_ ?_); (next => omega); (conv => whnf)) | ((with_reducible refine brET ?_ ?_); (next => omega); (conv => whnf)) | ((with_reducible refine brEF ?_ ?_); (next => omega); (conv => whnf)) | ((with_reducible refine brNET ?_ ?_); (next => omega); (conv => whnf)) | ((with_reducible refine brNEF ?_ ?_); (next => omega); (conv => whnf)) | (with_reducible refine brNot ?_))
        refine CallH.lift seat_g ca ⟨Pt.closed _, trivial⟩ (by simp [Closed]) ?_
        conv => whnf
        repeat' (first | (refine WrapH.quo (by omega) (by omega) (by omega) ?_; conv => whnf) | (refine NumH.rem (by omega) ?_; conv => whnf) | (refine WrapH.is _ (wrap_i64 (by omega) (by omega)) ?_; conv => whnf) | (refine WrapH.is _ (wrap_u64 (by omega) (by omega)) ?_; conv => whnf) | (refine WrapH.is _ wrap_u64m ?_; conv => whnf) | (refine Req.mk (by omega) ?_; conv => whnf) | (refine Req.mk (by dsimp only; omega) ?_; conv => whnf) | (refine Req.mk ⟨rfl, rfl, rfl, by simp [ci_length, *], rfl, by simp [okCell], by dsimp only; omega, by omega, by decide⟩ ?_; conv => whnf) | (refine Req.mk (show pendP _ _ by repeat' constructor) ?_; conv => whnf) | ((with_reducible refine brT ?_ ?_); (next => assumption); (conv => whnf)) | ((with_reducible refine brF ?_ ?_); (next => assumption); (conv => whnf)) | ((with_reducible refine brDT ?_ ?_); (next => omega); (conv => whnf)) | ((with_reducible refine brDF ?_ ?_); (next => omega); (conv => whnf)) | ((with_reducible refine brET ?_ ?_); (next => omega); (conv => whnf)) | ((with_reducible refine brEF ?_ ?_); (next => omega); (conv => whnf)) | ((with_reducible refine brNET ?_ ?_); (next => omega); (conv => whnf)) | ((with_reducible refine brNEF ?_ ?_); (next => omega); (conv => whnf)) | (with_reducible refine brNot ?_))
        refine CallH.lift seat_g cp ⟨Pt.closed _, trivial⟩ (by simp [Closed]) ?_
        conv => whnf
        repeat' (first | (first | (refine WrapH.quo (by omega) (by omega) (by omega) ?_; conv => whnf) | (refine NumH.rem (by omega) ?_; conv => whnf) | (refine WrapH.is _ (wrap_i64 (by omega) (by omega)) ?_; conv => whnf) | (refine WrapH.is _ (wrap_u64 (by omega) (by omega)) ?_; conv => whnf) | (refine WrapH.is _ wrap_u64m ?_; conv => whnf) | (refine Req.mk (by omega) ?_; conv => whnf) | (refine Req.mk (by dsimp only; omega) ?_; conv => whnf) | (refine Req.mk ⟨rfl, rfl, rfl, by simp [ci_length, *], rfl, by simp [okCell], by dsimp only; omega, by omega, by decide⟩ ?_; conv => whnf) | (refine Req.mk (show pendP _ _ by repeat' constructor) ?_; conv => whnf) | ((with_reducible refine brT ?_ ?_); (next => assumption); (conv => whnf)) | ((with_reducible refine brF ?_ ?_); (next => assumption); (conv => whnf)) | ((with_reducible refine brDT ?_ ?_); (next => omega); (conv => whnf)) | ((with_reducible refine brDF ?_ ?_); (next => omega); (conv => whnf)) | ((with_reducible refine brET ?_ ?_); (next => omega); (conv => whnf)) | ((with_reducible refine brEF ?_ ?_); (next => omega); (conv => whnf)) | ((with_reducible refine brNET ?_ ?_); (next => omega); (conv => whnf)) | ((with_reducible refine brNEF ?_ ?_); (next => omega); (conv => whnf)) | (with_reducible refine brNot ?_)) | (first | ((with_reducible refine brD (fun _ => ?_) (fun _ => ?_)) <;> (conv => whnf)) | ((with_reducible refine brE (fun _ => ?_) (fun _ => ?_)) <;> (conv => whnf)) | ((with_reducible refine brNE (fun _ => ?_) (fun _ => ?_)) <;> (conv => whnf)) | ((with_reducible refine brI (fun _ => ?_) (fun _ => ?_)) <;> (conv => whnf))))
        all_goals first | rfl | (exfalso; omega) | trace_state
    · rw [decide_eq_false hp] at cp
      conv => whnf
      repeat' (first | (refine WrapH.quo (by omega) (by omega) (by omega) ?_; conv => whnf) | (refine NumH.rem (by omega) ?_; conv => whnf) | (refine WrapH.is _ (wrap_i64 (by omega) (by omega)) ?_; conv => whnf) | (refine WrapH.is _ (wrap_u64 (by omega) (by omega)) ?_; conv => whnf) | (refine WrapH.is _ wrap_u64m ?_; conv => whnf) | (refine Req.mk (by omega) ?_; conv => whnf) | (refine Req.mk (by dsimp only; omega) ?_; conv => whnf) | (refine Req.mk ⟨rfl, rfl, rfl, by simp [ci_length, *], rfl, by simp [okCell], by dsimp only; omega, by omega, by decide⟩ ?_; conv => whnf) | (refine Req.mk (show pendP _ _ by repeat' constructor) ?_; conv => whnf) | ((with_reducible refine brT ?_ ?_); (next => assumption); (conv => whnf)) | ((with_reducible refine brF ?_ ?_); (next => assumption); (conv => whnf)) | ((with_reducible refine brDT ?_ ?_); (next => omega); (conv => whnf)) | ((with_reducible refine brDF ?_ ?_); (next => omega); (conv => whnf)) | ((with_reducible refine brET ?_ ?_); (next => omega); (conv => whnf)) | ((with_reducible refine brEF ?_ ?_); (next => omega); (conv => whnf)) | ((with_reducible refine brNET ?_ ?_); (next => omega); (conv => whnf)) | ((with_reducible refine brNEF ?_ ?_); (next => omega); (conv => whnf)) | (with_reducible refine brNot ?_))
      refine CallH.lift seat_g ca ⟨Pt.closed _, trivial⟩ (by simp [Closed]) ?_
      conv => whnf
      repeat' (first | (refine WrapH.quo (by omega) (by omega) (by omega) ?_; conv => whnf) | (refine NumH.rem (by omega) ?_; conv => whnf) | (refine WrapH.is _ (wrap_i64 (by omega) (by omega)) ?_; conv => whnf) | (refine WrapH.is _ (wrap_u64 (by omega) (by omega)) ?_; conv => whnf) | (refine WrapH.is _ wrap_u64m ?_; conv => whnf) | (refine Req.mk (by omega) ?_; conv => whnf) | (refine Req.mk (by dsimp only; omega) ?_; conv => whnf) | (refine Req.mk ⟨rfl, rfl, rfl, by simp [ci_length, *], rfl, by simp [okCell], by dsimp only; omega, by omega, by decide⟩ ?_; conv => whnf) | (refine Req.mk (show pendP _ _ by repeat' constructor) ?_; conv => whnf) | ((with_reducible refine brT ?_ ?_); (next => assumption); (conv => whnf)) | ((with_reducible refine brF ?_ ?_); (next => assumption); (conv => whnf)) | ((with_reducible refine brDT ?_ ?_); (next => omega); (conv => whnf)) | ((with_reducible refine brDF ?_ ?_); (next => omega); (conv => whnf)) | ((with_reducible refine brET ?_ ?_); (next => omega); (conv => whnf)) | ((with_reducible refine brEF ?_ ?_); (next => omega); (conv => whnf)) | ((with_reducible refine brNET ?_ ?_); (next => omega); (conv => whnf)) | ((with_reducible refine brNEF ?_ ?_); (next => omega); (conv => whnf)) | (with_reducible refine brNot ?_))
      refine CallH.lift seat_g cp ⟨Pt.closed _, trivial⟩ (by simp [Closed]) ?_
      conv => whnf
      repeat' (first | (refine WrapH.quo (by omega) (by omega) (by omega) ?_; conv => whnf) | (refine NumH.rem (by omega) ?_; conv => whnf) | (refine WrapH.is _ (wrap_i64 (by omega) (by omega)) ?_; conv => whnf) | (refine WrapH.is _ (wrap_u64 (by omega) (by omega)) ?_; conv => whnf) | (refine WrapH.is _ wrap_u64m ?_; conv => whnf) | (refine Req.mk (by omega) ?_; conv => whnf) | (refine Req.mk (by dsimp only; omega) ?_; conv => whnf) | (refine Req.mk ⟨rfl, rfl, rfl, by simp [ci_length, *], rfl, by simp [okCell], by dsimp only; omega, by omega, by decide⟩ ?_; conv => whnf) | (refine Req.mk (show pendP _ _ by repeat' constructor) ?_; conv => whnf) | ((with_reducible refine brT ?_ ?_); (next => assumption); (conv => whnf)) | ((with_reducible refine brF ?_ ?_); (next => assumption); (conv => whnf)) | ((with_reducible refine brDT ?_ ?_); (next => omega); (conv => whnf)) | ((with_reducible refine brDF ?_ ?_); (next => omega); (conv => whnf)) | ((with_reducible refine brET ?_ ?_); (next => omega); (conv => whnf)) | ((with_reducible refine brEF ?_ ?_); (next => omega); (conv => whnf)) | ((with_reducible refine brNET ?_ ?_); (next => omega); (conv => whnf)) | ((with_reducible refine brNEF ?_ ?_); (next => omega); (conv => whnf)) | (with_reducible refine brNot ?_))
      rfl
  · rw [decide_eq_false ha] at ca
    conv => whnf
    repeat' (first | (refine WrapH.quo (by omega) (by omega) (by omega) ?_; conv => whnf) | (refine NumH.rem (by omega) ?_; conv => whnf) | (refine WrapH.is _ (wrap_i64 (by omega) (by omega)) ?_; conv => whnf) | (refine WrapH.is _ (wrap_u64 (by omega) (by omega)) ?_; conv => whnf) | (refine WrapH.is _ wrap_u64m ?_; conv => whnf) | (refine Req.mk (by omega) ?_; conv => whnf) | (refine Req.mk (by dsimp only; omega) ?_; conv => whnf) | (refine Req.mk ⟨rfl, rfl, rfl, by simp [ci_length, *], rfl, by simp [okCell], by dsimp only; omega, by omega, by decide⟩ ?_; conv => whnf) | (refine Req.mk (show pendP _ _ by repeat' constructor) ?_; conv => whnf) | ((with_reducible refine brT ?_ ?_); (next => assumption); (conv => whnf)) | ((with_reducible refine brF ?_ ?_); (next => assumption); (conv => whnf)) | ((with_reducible refine brDT ?_ ?_); (next => omega); (conv => whnf)) | ((with_reducible refine brDF ?_ ?_); (next => omega); (conv => whnf)) | ((with_reducible refine brET ?_ ?_); (next => omega); (conv => whnf)) | ((with_reducible refine brEF ?_ ?_); (next => omega); (conv => whnf)) | ((with_reducible refine brNET ?_ ?_); (next => omega); (conv => whnf)) | ((with_reducible refine brNEF ?_ ?_); (next => omega); (conv => whnf)) | (with_reducible refine brNot ?_))
    refine CallH.lift seat_g ca ⟨Pt.closed _, trivial⟩ (by simp [Closed]) ?_
    conv => whnf
    repeat' (first | (refine WrapH.quo (by omega) (by omega) (by omega) ?_; conv => whnf) | (refine NumH.rem (by omega) ?_; conv => whnf) | (refine WrapH.is _ (wrap_i64 (by omega) (by omega)) ?_; conv => whnf) | (refine WrapH.is _ (wrap_u64 (by omega) (by omega)) ?_; conv => whnf) | (refine WrapH.is _ wrap_u64m ?_; conv => whnf) | (refine Req.mk (by omega) ?_; conv => whnf) | (refine Req.mk (by dsimp only; omega) ?_; conv => whnf) | (refine Req.mk ⟨rfl, rfl, rfl, by simp [ci_length, *], rfl, by simp [okCell], by dsimp only; omega, by omega, by decide⟩ ?_; conv => whnf) | (refine Req.mk (show pendP _ _ by repeat' constructor) ?_; conv => whnf) | ((with_reducible refine brT ?_ ?_); (next => assumption); (conv => whnf)) | ((with_reducible refine brF ?_ ?_); (next => assumption); (conv => whnf)) | ((with_reducible refine brDT ?_ ?_); (next => omega); (conv => whnf)) | ((with_reducible refine brDF ?_ ?_); (next => omega); (conv => whnf)) | ((with_reducible refine brET ?_ ?_); (next => omega); (conv => whnf)) | ((with_reducible refine brEF ?_ ?_); (next => omega); (conv => whnf)) | ((with_reducible refine brNET ?_ ?_); (next => omega); (conv => whnf)) | ((with_reducible refine brNEF ?_ ?_); (next => omega); (conv => whnf)) | (with_reducible refine brNot ?_))
    rfl
theorem l_windCuts (c : Cut) (hc : c.ok) : ACalls seat 5 [.agg c.c] [] (fun x _ => x = .ret (.bool true)) := by
  refine ACalls.body seat_ok Try.func5 rfl rfl ?_
  obtain ⟨⟨hai, hpi⟩, ⟨k1, k2⟩, ⟨n1, n2⟩, ⟨d01, d02⟩, d11, d12⟩ := hc
  have h := l_cuts c.a c.p c.d0 c.d1 c.k c.n hai hpi k1 k2 n1 n2 d01 d02 d11 d12
  conv => whnf
  refine CallH.lift seat_g h ⟨Cut.closed _, trivial⟩ (by simp [Closed]) ?_
  conv => whnf
  rfl
theorem wf_i32 {n : Int} (h : (Lit.int .i32 n).wf = true) : -2147483648 ≤ n ∧ n < 2147483648 := by
  simp only [Lit.wf, Bool.and_eq_true, decide_eq_true_eq] at h
  have h1 : IntKind.min .i32 = -2147483648 := by decide
  have h2 : IntKind.max .i32 = 2147483647 := by decide
  omega
theorem cut_elem : Elem Cut.c Cut.ok [.int .i64, .int .i64, .int .i32, .int .i32, .int .u8, .int .u8, .int .i64, .int .i64] where
  len _ := rfl
  of cs h := by
    obtain ⟨a, _, rfl, w1, h⟩ := h.consI
    obtain ⟨b, _, rfl, w2, h⟩ := h.consI
    obtain ⟨c, _, rfl, w3, h⟩ := h.consI
    obtain ⟨d, _, rfl, w4, h⟩ := h.consI
    obtain ⟨e, _, rfl, w5, h⟩ := h.consI
    obtain ⟨f, _, rfl, w6, h⟩ := h.consI
    obtain ⟨g, _, rfl, w7, h⟩ := h.consI
    obtain ⟨i, _, rfl, w8, h⟩ := h.consI
    obtain rfl := h.nil
    refine ⟨⟨⟨a, b⟩, c, d, e, f, ⟨g, i⟩⟩, ⟨⟨⟨wf_I64 w1, wf_I64 w2⟩, wf_I64 w7, wf_I64 w8⟩, ?_, ?_, ?_, ?_⟩, fun E => by simp [Cut.c, VRL, VR]⟩
    · have := wf_u8 w5; dsimp only; omega
    · have := wf_u8 w6; dsimp only; omega
    · have := wf_i32 w3; dsimp only; omega
    · have := wf_i32 w4; dsimp only; omega
end Go.Proofs.Ytflibnlbkffilaa
