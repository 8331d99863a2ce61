/- The program's affine functions but for those that defer. Conditions: the numbers within the bounds that each line names. -/
import Derived.Test.YteiedieeebjklaaDoorAbsE
import Derived.Test.YteiedieeebjklaaDoorWide
set_option linter.unusedSimpArgs false
set_option linter.unusedVariables false
set_option linter.deprecated false
namespace Go.Proofs.YteiedieeebjklaaDoor
open Go.Abs
def IB (n : Int) : Prop := -4294967296 < n ∧ n < 4294967296
instance (n : Int) : Decidable (IB n) := by unfold IB; infer_instance
/-- a number that was told is wrong -/
def errA (n : Int) : AV := .ifc 27 (.int .i64 n)
theorem c_must (b : Bool) (e : Int) : ACalls seat 25 [.bool b, .int .i64 e] [] (fun x _ => x = if b = true then .ret (.tup []) else .pan (errA e)) := by
  refine ACalls.body seat_ok Tryd.func25 rfl rfl ?_
  cases b with
  | true =>
    conv => whnf
    repeat' (first | (refine WrapH.quo (by omega) (by omega) (by omega) ?_; conv => whnf) | (refine WrapH.quoU (by omega) (by omega) (by omega) ?_; conv => whnf) | (refine NumH.rem (by omega) ?_; conv => whnf) | (refine WrapH.is _ (wrap_i64 (by omega) (by omega)) ?_; conv => whnf) | (refine WrapH.is _ (wrap_u64 (by omega) (by omega)) ?_; conv => whnf) | (refine WrapH.is _ wrap_u64m ?_; conv => whnf) | (refine Req.mk (by omega) ?_; conv => whnf) | (refine Req.mk (by dsimp only; omega) ?_; conv => whnf) | (refine Req.mk ⟨rfl, rfl, rfl, by simp [ci_length, *], rfl, by simp [okCell], by dsimp only; omega, by omega, by decide⟩ ?_; conv => whnf) | (refine Req.mk (show pendP _ _ by repeat' constructor) ?_; conv => whnf) | ((with_reducible refine brT ?_ ?_); (next => assumption); (conv => whnf)) | ((with_reducible refine brF ?_ ?_); (next => assumption); (conv => whnf)) | ((with_reducible refine brDT ?_ ?_); (next => omega); (conv => whnf)) | ((with_reducible refine brDF ?_ ?_); (next => omega); (conv => whnf)) | ((with_reducible refine brET ?_ ?_); (next => omega); (conv => whnf)) | ((with_reducible refine brEF ?_ ?_); (next => omega); (conv => whnf)) | ((with_reducible refine brNET ?_ ?_); (next => omega); (conv => whnf)) | ((with_reducible refine brNEF ?_ ?_); (next => omega); (conv => whnf)) | (with_reducible refine brNot ?_))
    rfl
  | false =>
    conv => whnf
    repeat' (first | (refine WrapH.quo (by omega) (by omega) (by omega) ?_; conv => whnf) | (refine WrapH.quoU (by omega) (by omega) (by omega) ?_; conv => whnf) | (refine NumH.rem (by omega) ?_; conv => whnf) | (refine WrapH.is _ (wrap_i64 (by omega) (by omega)) ?_; conv => whnf) | (refine WrapH.is _ (wrap_u64 (by omega) (by omega)) ?_; conv => whnf) | (refine WrapH.is _ wrap_u64m ?_; conv => whnf) | (refine Req.mk (by omega) ?_; conv => whnf) | (refine Req.mk (by dsimp only; omega) ?_; conv => whnf) | (refine Req.mk ⟨rfl, rfl, rfl, by simp [ci_length, *], rfl, by simp [okCell], by dsimp only; omega, by omega, by decide⟩ ?_; conv => whnf) | (refine Req.mk (show pendP _ _ by repeat' constructor) ?_; conv => whnf) | ((with_reducible refine brT ?_ ?_); (next => assumption); (conv => whnf)) | ((with_reducible refine brF ?_ ?_); (next => assumption); (conv => whnf)) | ((with_reducible refine brDT ?_ ?_); (next => omega); (conv => whnf)) | ((with_reducible refine brDF ?_ ?_); (next => omega); (conv => whnf)) | ((with_reducible refine brET ?_ ?_); (next => omega); (conv => whnf)) | ((with_reducible refine brEF ?_ ?_); (next => omega); (conv => whnf)) | ((with_reducible refine brNET ?_ ?_); (next => omega); (conv => whnf)) | ((with_reducible refine brNEF ?_ ?_); (next => omega); (conv => whnf)) | (with_reducible refine brNot ?_))
    rfl
theorem c_within1 (a : Int) : ACalls seat 23 [.int .i64 4294967296, .vec [.int .i64 a] 1 none] [] (fun x _ => x = .ret (.bool (decide (IB a)))) := by
  refine ACalls.body seat_ok Tryd.func23 rfl rfl ?_
  unfold IB
  by_cases h : -4294967296 < a ∧ a < 4294967296
  · rw [decide_eq_true h]
    conv => whnf
    repeat' (first | (refine WrapH.quo (by omega) (by omega) (by omega) ?_; conv => whnf) | (refine WrapH.quoU (by omega) (by omega) (by omega) ?_; conv => whnf) | (refine NumH.rem (by omega) ?_; conv => whnf) | (refine WrapH.is _ (wrap_i64 (by omega) (by omega)) ?_; conv => whnf) | (refine WrapH.is _ (wrap_u64 (by omega) (by omega)) ?_; conv => whnf) | (refine WrapH.is _ wrap_u64m ?_; conv => whnf) | (refine Req.mk (by omega) ?_; conv => whnf) | (refine Req.mk (by dsimp only; omega) ?_; conv => whnf) | (refine Req.mk ⟨rfl, rfl, rfl, by simp [ci_length, *], rfl, by simp [okCell], by dsimp only; omega, by omega, by decide⟩ ?_; conv => whnf) | (refine Req.mk (show pendP _ _ by repeat' constructor) ?_; conv => whnf) | ((with_reducible refine brT ?_ ?_); (next => assumption); (conv => whnf)) | ((with_reducible refine brF ?_ ?_); (next => assumption); (conv => whnf)) | ((with_reducible refine brDT ?_ ?_); (next => omega); (conv => whnf)) | ((with_reducible refine brDF ?_ ?_); (next => omega); (conv => whnf)) | ((with_reducible refine brET ?_ ?_); (next => omega); (conv => whnf)) | ((with_reducible refine brEF ?_ ?_); (next => omega); (conv => whnf)) | ((with_reducible refine brNET ?_ ?_); (next => omega); (conv => whnf)) | ((with_reducible refine brNEF ?_ ?_); (next => omega); (conv => whnf)) | (with_reducible refine brNot ?_))
    refine Sat.unroll seat_ok 3 ?_
    conv => whnf
    repeat' (first | (refine WrapH.quo (by omega) (by omega) (by omega) ?_; conv => whnf) | (refine WrapH.quoU (by omega) (by omega) (by omega) ?_; conv => whnf) | (refine NumH.rem (by omega) ?_; conv => whnf) | (refine WrapH.is _ (wrap_i64 (by omega) (by omega)) ?_; conv => whnf) | (refine WrapH.is _ (wrap_u64 (by omega) (by omega)) ?_; conv => whnf) | (refine WrapH.is _ wrap_u64m ?_; conv => whnf) | (refine Req.mk (by omega) ?_; conv => whnf) | (refine Req.mk (by dsimp only; omega) ?_; conv => whnf) | (refine Req.mk ⟨rfl, rfl, rfl, by simp [ci_length, *], rfl, by simp [okCell], by dsimp only; omega, by omega, by decide⟩ ?_; conv => whnf) | (refine Req.mk (show pendP _ _ by repeat' constructor) ?_; conv => whnf) | ((with_reducible refine brT ?_ ?_); (next => assumption); (conv => whnf)) | ((with_reducible refine brF ?_ ?_); (next => assumption); (conv => whnf)) | ((with_reducible refine brDT ?_ ?_); (next => omega); (conv => whnf)) | ((with_reducible refine brDF ?_ ?_); (next => omega); (conv => whnf)) | ((with_reducible refine brET ?_ ?_); (next => omega); (conv => whnf)) | ((with_reducible refine brEF ?_ ?_); (next => omega); (conv => whnf)) | ((with_reducible refine brNET ?_ ?_); (next => omega); (conv => whnf)) | ((with_reducible refine brNEF ?_ ?_); (next => omega); (conv => whnf)) | (with_reducible refine brNot ?_))
    rfl
  · rw [decide_eq_false h]
    conv => whnf
    repeat' (first | (refine WrapH.quo (by omega) (by omega) (by omega) ?_; conv => whnf) | (refine WrapH.quoU (by omega) (by omega) (by omega) ?_; conv => whnf) | (refine NumH.rem (by omega) ?_; conv => whnf) | (refine WrapH.is _ (wrap_i64 (by omega) (by omega)) ?_; conv => whnf) | (refine WrapH.is _ (wrap_u64 (by omega) (by omega)) ?_; conv => whnf) | (refine WrapH.is _ wrap_u64m ?_; conv => whnf) | (refine Req.mk (by omega) ?_; conv => whnf) | (refine Req.mk (by dsimp only; omega) ?_; conv => whnf) | (refine Req.mk ⟨rfl, rfl, rfl, by simp [ci_length, *], rfl, by simp [okCell], by dsimp only; omega, by omega, by decide⟩ ?_; conv => whnf) | (refine Req.mk (show pendP _ _ by repeat' constructor) ?_; conv => whnf) | ((with_reducible refine brT ?_ ?_); (next => assumption); (conv => whnf)) | ((with_reducible refine brF ?_ ?_); (next => assumption); (conv => whnf)) | ((with_reducible refine brDT ?_ ?_); (next => omega); (conv => whnf)) | ((with_reducible refine brDF ?_ ?_); (next => omega); (conv => whnf)) | ((with_reducible refine brET ?_ ?_); (next => omega); (conv => whnf)) | ((with_reducible refine brEF ?_ ?_); (next => omega); (conv => whnf)) | ((with_reducible refine brNET ?_ ?_); (next => omega); (conv => whnf)) | ((with_reducible refine brNEF ?_ ?_); (next => omega); (conv => whnf)) | (with_reducible refine brNot ?_))
    refine Sat.unroll seat_ok 3 ?_
    conv => whnf
    repeat' (first | (first | (refine WrapH.quo (by omega) (by omega) (by omega) ?_; conv => whnf) | (refine WrapH.quoU (by omega) (by omega) (by omega) ?_; conv => whnf) | (refine NumH.rem (by omega) ?_; conv => whnf) | (refine WrapH.is _ (wrap_i64 (by omega) (by omega)) ?_; conv => whnf) | (refine WrapH.is _ (wrap_u64 (by omega) (by omega)) ?_; conv => whnf) | (refine WrapH.is _ wrap_u64m ?_; conv => whnf) | (refine Req.mk (by omega) ?_; conv => whnf) | (refine Req.mk (by dsimp only; omega) ?_; conv => whnf) | (refine Req.mk ⟨rfl, rfl, rfl, by simp [ci_length, *], rfl, by simp [okCell], by dsimp only; omega, by omega, by decide⟩ ?_; conv => whnf) | (refine Req.mk (show pendP _ _ by repeat' constructor) ?_; conv => whnf) | ((with_reducible refine brT ?_ ?_); (next => assumption); (conv => whnf)) | ((with_reducible refine brF ?_ ?_); (next => assumption); (conv => whnf)) | ((with_reducible refine brDT ?_ ?_); (next => omega); (conv => whnf)) | ((with_reducible refine brDF ?_ ?_); (next => omega); (conv => whnf)) | ((with_reducible refine brET ?_ ?_); (next => omega); (conv => whnf)) | ((with_reducible refine brEF ?_ ?_); (next => omega); (conv => whnf)) | ((with_reducible refine brNET ?_ ?_); (next => omega); (conv => whnf)) | ((with_reducible refine brNEF ?_ ?_); (next => omega); (conv => whnf)) | (with_reducible refine brNot ?_)) | (first | ((with_reducible refine brD (fun _ => ?_) (fun _ => ?_)) <;> (conv => whnf)) | ((with_reducible refine brE (fun _ => ?_) (fun _ => ?_)) <;> (conv => whnf)) | ((with_reducible refine brNE (fun _ => ?_) (fun _ => ?_)) <;> (conv => whnf)) | ((with_reducible refine brI (fun _ => ?_) (fun _ => ?_)) <;> (conv => whnf))))
    all_goals first | rfl | (exfalso; omega)
theorem c_within2 (a b : Int) : ACalls seat 23 [.int .i64 4294967296, .vec [.int .i64 a, .int .i64 b] 2 none] [] (fun x _ => x = .ret (.bool (decide (IB a ∧ IB b)))) := by
  refine ACalls.body seat_ok Tryd.func23 rfl rfl ?_
  unfold IB
  by_cases h : (-4294967296 < a ∧ a < 4294967296) ∧ -4294967296 < b ∧ b < 4294967296
  · rw [decide_eq_true h]
    conv => whnf
    repeat' (first | (refine WrapH.quo (by omega) (by omega) (by omega) ?_; conv => whnf) | (refine WrapH.quoU (by omega) (by omega) (by omega) ?_; conv => whnf) | (refine NumH.rem (by omega) ?_; conv => whnf) | (refine WrapH.is _ (wrap_i64 (by omega) (by omega)) ?_; conv => whnf) | (refine WrapH.is _ (wrap_u64 (by omega) (by omega)) ?_; conv => whnf) | (refine WrapH.is _ wrap_u64m ?_; conv => whnf) | (refine Req.mk (by omega) ?_; conv => whnf) | (refine Req.mk (by dsimp only; omega) ?_; conv => whnf) | (refine Req.mk ⟨rfl, rfl, rfl, by simp [ci_length, *], rfl, by simp [okCell], by dsimp only; omega, by omega, by decide⟩ ?_; conv => whnf) | (refine Req.mk (show pendP _ _ by repeat' constructor) ?_; conv => whnf) | ((with_reducible refine brT ?_ ?_); (next => assumption); (conv => whnf)) | ((with_reducible refine brF ?_ ?_); (next => assumption); (conv => whnf)) | ((with_reducible refine brDT ?_ ?_); (next => omega); (conv => whnf)) | ((with_reducible refine brDF ?_ ?_); (next => omega); (conv => whnf)) | ((with_reducible refine brET ?_ ?_); (next => omega); (conv => whnf)) | ((with_reducible refine brEF ?_ ?_); (next => omega); (conv => whnf)) | ((with_reducible refine brNET ?_ ?_); (next => omega); (conv => whnf)) | ((with_reducible refine brNEF ?_ ?_); (next => omega); (conv => whnf)) | (with_reducible refine brNot ?_))
    refine Sat.unroll seat_ok 4 ?_
    conv => whnf
    repeat' (first | (refine WrapH.quo (by omega) (by omega) (by omega) ?_; conv => whnf) | (refine WrapH.quoU (by omega) (by omega) (by omega) ?_; conv => whnf) | (refine NumH.rem (by omega) ?_; conv => whnf) | (refine WrapH.is _ (wrap_i64 (by omega) (by omega)) ?_; conv => whnf) | (refine WrapH.is _ (wrap_u64 (by omega) (by omega)) ?_; conv => whnf) | (refine WrapH.is _ wrap_u64m ?_; conv => whnf) | (refine Req.mk (by omega) ?_; conv => whnf) | (refine Req.mk (by dsimp only; omega) ?_; conv => whnf) | (refine Req.mk ⟨rfl, rfl, rfl, by simp [ci_length, *], rfl, by simp [okCell], by dsimp only; omega, by omega, by decide⟩ ?_; conv => whnf) | (refine Req.mk (show pendP _ _ by repeat' constructor) ?_; conv => whnf) | ((with_reducible refine brT ?_ ?_); (next => assumption); (conv => whnf)) | ((with_reducible refine brF ?_ ?_); (next => assumption); (conv => whnf)) | ((with_reducible refine brDT ?_ ?_); (next => omega); (conv => whnf)) | ((with_reducible refine brDF ?_ ?_); (next => omega); (conv => whnf)) | ((with_reducible refine brET ?_ ?_); (next => omega); (conv => whnf)) | ((with_reducible refine brEF ?_ ?_); (next => omega); (conv => whnf)) | ((with_reducible refine brNET ?_ ?_); (next => omega); (conv => whnf)) | ((with_reducible refine brNEF ?_ ?_); (next => omega); (conv => whnf)) | (with_reducible refine brNot ?_))
    rfl
  · rw [decide_eq_false h]
    conv => whnf
    repeat' (first | (refine WrapH.quo (by omega) (by omega) (by omega) ?_; conv => whnf) | (refine WrapH.quoU (by omega) (by omega) (by omega) ?_; conv => whnf) | (refine NumH.rem (by omega) ?_; conv => whnf) | (refine WrapH.is _ (wrap_i64 (by omega) (by omega)) ?_; conv => whnf) | (refine WrapH.is _ (wrap_u64 (by omega) (by omega)) ?_; conv => whnf) | (refine WrapH.is _ wrap_u64m ?_; conv => whnf) | (refine Req.mk (by omega) ?_; conv => whnf) | (refine Req.mk (by dsimp only; omega) ?_; conv => whnf) | (refine Req.mk ⟨rfl, rfl, rfl, by simp [ci_length, *], rfl, by simp [okCell], by dsimp only; omega, by omega, by decide⟩ ?_; conv => whnf) | (refine Req.mk (show pendP _ _ by repeat' constructor) ?_; conv => whnf) | ((with_reducible refine brT ?_ ?_); (next => assumption); (conv => whnf)) | ((with_reducible refine brF ?_ ?_); (next => assumption); (conv => whnf)) | ((with_reducible refine brDT ?_ ?_); (next => omega); (conv => whnf)) | ((with_reducible refine brDF ?_ ?_); (next => omega); (conv => whnf)) | ((with_reducible refine brET ?_ ?_); (next => omega); (conv => whnf)) | ((with_reducible refine brEF ?_ ?_); (next => omega); (conv => whnf)) | ((with_reducible refine brNET ?_ ?_); (next => omega); (conv => whnf)) | ((with_reducible refine brNEF ?_ ?_); (next => omega); (conv => whnf)) | (with_reducible refine brNot ?_))
    refine Sat.unroll seat_ok 4 ?_
    conv => whnf
    repeat' (first | (first | (refine WrapH.quo (by omega) (by omega) (by omega) ?_; conv => whnf) | (refine WrapH.quoU (by omega) (by omega) (by omega) ?_; conv => whnf) | (refine NumH.rem (by omega) ?_; conv => whnf) | (refine WrapH.is _ (wrap_i64 (by omega) (by omega)) ?_; conv => whnf) | (refine WrapH.is _ (wrap_u64 (by omega) (by omega)) ?_; conv => whnf) | (refine WrapH.is _ wrap_u64m ?_; conv => whnf) | (refine Req.mk (by omega) ?_; conv => whnf) | (refine Req.mk (by dsimp only; omega) ?_; conv => whnf) | (refine Req.mk ⟨rfl, rfl, rfl, by simp [ci_length, *], rfl, by simp [okCell], by dsimp only; omega, by omega, by decide⟩ ?_; conv => whnf) | (refine Req.mk (show pendP _ _ by repeat' constructor) ?_; conv => whnf) | ((with_reducible refine brT ?_ ?_); (next => assumption); (conv => whnf)) | ((with_reducible refine brF ?_ ?_); (next => assumption); (conv => whnf)) | ((with_reducible refine brDT ?_ ?_); (next => omega); (conv => whnf)) | ((with_reducible refine brDF ?_ ?_); (next => omega); (conv => whnf)) | ((with_reducible refine brET ?_ ?_); (next => omega); (conv => whnf)) | ((with_reducible refine brEF ?_ ?_); (next => omega); (conv => whnf)) | ((with_reducible refine brNET ?_ ?_); (next => omega); (conv => whnf)) | ((with_reducible refine brNEF ?_ ?_); (next => omega); (conv => whnf)) | (with_reducible refine brNot ?_)) | (first | ((with_reducible refine brD (fun _ => ?_) (fun _ => ?_)) <;> (conv => whnf)) | ((with_reducible refine brE (fun _ => ?_) (fun _ => ?_)) <;> (conv => whnf)) | ((with_reducible refine brNE (fun _ => ?_) (fun _ => ?_)) <;> (conv => whnf)) | ((with_reducible refine brI (fun _ => ?_) (fun _ => ?_)) <;> (conv => whnf))))
    all_goals first | rfl | (exfalso; omega)
set_option maxRecDepth 20000 in
theorem c_within6 (a b c d e f : Int) : ACalls seat 23 [.int .i64 4294967296, .vec [.int .i64 a, .int .i64 b, .int .i64 c, .int .i64 d, .int .i64 e, .int .i64 f] 6 none] [] (fun x _ => x = .ret (.bool (decide ((IB a ∧ IB b ∧ IB c) ∧ IB d ∧ IB e ∧ IB f)))) := by
  refine ACalls.body seat_ok Tryd.func23 rfl rfl ?_
  unfold IB
  by_cases h : ((-4294967296 < a ∧ a < 4294967296) ∧ (-4294967296 < b ∧ b < 4294967296) ∧ -4294967296 < c ∧ c < 4294967296) ∧ (-4294967296 < d ∧ d < 4294967296) ∧ (-4294967296 < e ∧ e < 4294967296) ∧ -4294967296 < f ∧ f < 4294967296
  · rw [decide_eq_true h]
    conv => whnf
    repeat' (first | (refine WrapH.quo (by omega) (by omega) (by omega) ?_; conv => whnf) | (refine WrapH.quoU (by omega) (by omega) (by omega) ?_; conv => whnf) | (refine NumH.rem (by omega) ?_; conv => whnf) | (refine WrapH.is _ (wrap_i64 (by omega) (by omega)) ?_; conv => whnf) | (refine WrapH.is _ (wrap_u64 (by omega) (by omega)) ?_; conv => whnf) | (refine WrapH.is _ wrap_u64m ?_; conv => whnf) | (refine Req.mk (by omega) ?_; conv => whnf) | (refine Req.mk (by dsimp only; omega) ?_; conv => whnf) | (refine Req.mk ⟨rfl, rfl, rfl, by simp [ci_length, *], rfl, by simp [okCell], by dsimp only; omega, by omega, by decide⟩ ?_; conv => whnf) | (refine Req.mk (show pendP _ _ by repeat' constructor) ?_; conv => whnf) | ((with_reducible refine brT ?_ ?_); (next => assumption); (conv => whnf)) | ((with_reducible refine brF ?_ ?_); (next => assumption); (conv => whnf)) | ((with_reducible refine brDT ?_ ?_); (next => omega); (conv => whnf)) | ((with_reducible refine brDF ?_ ?_); (next => omega); (conv => whnf)) | ((with_reducible refine brET ?_ ?_); (next => omega); (conv => whnf)) | ((with_reducible refine brEF ?_ ?_); (next => omega); (conv => whnf)) | ((with_reducible refine brNET ?_ ?_); (next => omega); (conv => whnf)) | ((with_reducible refine brNEF ?_ ?_); (next => omega); (conv => whnf)) | (with_reducible refine brNot ?_))
    refine Sat.unroll seat_ok 8 ?_
    conv => whnf
    repeat' (first | (refine WrapH.quo (by omega) (by omega) (by omega) ?_; conv => whnf) | (refine WrapH.quoU (by omega) (by omega) (by omega) ?_; conv => whnf) | (refine NumH.rem (by omega) ?_; conv => whnf) | (refine WrapH.is _ (wrap_i64 (by omega) (by omega)) ?_; conv => whnf) | (refine WrapH.is _ (wrap_u64 (by omega) (by omega)) ?_; conv => whnf) | (refine WrapH.is _ wrap_u64m ?_; conv => whnf) | (refine Req.mk (by omega) ?_; conv => whnf) | (refine Req.mk (by dsimp only; omega) ?_; conv => whnf) | (refine Req.mk ⟨rfl, rfl, rfl, by simp [ci_length, *], rfl, by simp [okCell], by dsimp only; omega, by omega, by decide⟩ ?_; conv => whnf) | (refine Req.mk (show pendP _ _ by repeat' constructor) ?_; conv => whnf) | ((with_reducible refine brT ?_ ?_); (next => assumption); (conv => whnf)) | ((with_reducible refine brF ?_ ?_); (next => assumption); (conv => whnf)) | ((with_reducible refine brDT ?_ ?_); (next => omega); (conv => whnf)) | ((with_reducible refine brDF ?_ ?_); (next => omega); (conv => whnf)) | ((with_reducible refine brET ?_ ?_); (next => omega); (conv => whnf)) | ((with_reducible refine brEF ?_ ?_); (next => omega); (conv => whnf)) | ((with_reducible refine brNET ?_ ?_); (next => omega); (conv => whnf)) | ((with_reducible refine brNEF ?_ ?_); (next => omega); (conv => whnf)) | (with_reducible refine brNot ?_))
    rfl
  · rw [decide_eq_false h]
    conv => whnf
    repeat' (first | (refine WrapH.quo (by omega) (by omega) (by omega) ?_; conv => whnf) | (refine WrapH.quoU (by omega) (by omega) (by omega) ?_; conv => whnf) | (refine NumH.rem (by omega) ?_; conv => whnf) | (refine WrapH.is _ (wrap_i64 (by omega) (by omega)) ?_; conv => whnf) | (refine WrapH.is _ (wrap_u64 (by omega) (by omega)) ?_; conv => whnf) | (refine WrapH.is _ wrap_u64m ?_; conv => whnf) | (refine Req.mk (by omega) ?_; conv => whnf) | (refine Req.mk (by dsimp only; omega) ?_; conv => whnf) | (refine Req.mk ⟨rfl, rfl, rfl, by simp [ci_length, *], rfl, by simp [okCell], by dsimp only; omega, by omega, by decide⟩ ?_; conv => whnf) | (refine Req.mk (show pendP _ _ by repeat' constructor) ?_; conv => whnf) | ((with_reducible refine brT ?_ ?_); (next => assumption); (conv => whnf)) | ((with_reducible refine brF ?_ ?_); (next => assumption); (conv => whnf)) | ((with_reducible refine brDT ?_ ?_); (next => omega); (conv => whnf)) | ((with_reducible refine brDF ?_ ?_); (next => omega); (conv => whnf)) | ((with_reducible refine brET ?_ ?_); (next => omega); (conv => whnf)) | ((with_reducible refine brEF ?_ ?_); (next => omega); (conv => whnf)) | ((with_reducible refine brNET ?_ ?_); (next => omega); (conv => whnf)) | ((with_reducible refine brNEF ?_ ?_); (next => omega); (conv => whnf)) | (with_reducible refine brNot ?_))
    refine Sat.unroll seat_ok 8 ?_
    conv => whnf
    repeat' (first | (first | (refine WrapH.quo (by omega) (by omega) (by omega) ?_; conv => whnf) | (refine WrapH.quoU (by omega) (by omega) (by omega) ?_; conv => whnf) | (refine NumH.rem (by omega) ?_; conv => whnf) | (refine WrapH.is _ (wrap_i64 (by omega) (by omega)) ?_; conv => whnf) | (refine WrapH.is _ (wrap_u64 (by omega) (by omega)) ?_; conv => whnf) | (refine WrapH.is _ wrap_u64m ?_; conv => whnf) | (refine Req.mk (by omega) ?_; conv => whnf) | (refine Req.mk (by dsimp only; omega) ?_; conv => whnf) | (refine Req.mk ⟨rfl, rfl, rfl, by simp [ci_length, *], rfl, by simp [okCell], by dsimp only; omega, by omega, by decide⟩ ?_; conv => whnf) | (refine Req.mk (show pendP _ _ by repeat' constructor) ?_; conv => whnf) | ((with_reducible refine brT ?_ ?_); (next => assumption); (conv => whnf)) | ((with_reducible refine brF ?_ ?_); (next => assumption); (conv => whnf)) | ((with_reducible refine brDT ?_ ?_); (next => omega); (conv => whnf)) | ((with_reducible refine brDF ?_ ?_); (next => omega); (conv => whnf)) | ((with_reducible refine brET ?_ ?_); (next => omega); (conv => whnf)) | ((with_reducible refine brEF ?_ ?_); (next => omega); (conv => whnf)) | ((with_reducible refine brNET ?_ ?_); (next => omega); (conv => whnf)) | ((with_reducible refine brNEF ?_ ?_); (next => omega); (conv => whnf)) | (with_reducible refine brNot ?_)) | (first | ((with_reducible refine brD (fun _ => ?_) (fun _ => ?_)) <;> (conv => whnf)) | ((with_reducible refine brE (fun _ => ?_) (fun _ => ?_)) <;> (conv => whnf)) | ((with_reducible refine brNE (fun _ => ?_) (fun _ => ?_)) <;> (conv => whnf)) | ((with_reducible refine brI (fun _ => ?_) (fun _ => ?_)) <;> (conv => whnf))))
    all_goals first | rfl | (exfalso; omega)
/-- a sum that fits -/
theorem c_wsum2 (a b : Int) (ha : I64 a) (hb : I64 b) (hs : I64 (a + b)) : ACalls seat 30 [.vec [.int .i64 a, .int .i64 b] 2 none] [] (fun x _ => x = .ret (.tup [.int .i64 (a + b), .bool true])) := by
  refine ACalls.body seat_ok Tryd.func30 rfl rfl ?_
  unfold I64 at hs
  have c1 := c_wof a ha
  have c2 := c_wof b hb
  have d1 := c_wadd 0 a
  have d2 := c_wadd (0 + a) b
  have p := c_plain (0 + a + b) (by omega)
  rw [if_pos (by omega)] at p
  conv => whnf
  repeat' (first | (refine WrapH.quo (by omega) (by omega) (by omega) ?_; conv => whnf) | (refine WrapH.quoU (by omega) (by omega) (by omega) ?_; conv => whnf) | (refine NumH.rem (by omega) ?_; conv => whnf) | (refine WrapH.is _ (wrap_i64 (by omega) (by omega)) ?_; conv => whnf) | (refine WrapH.is _ (wrap_u64 (by omega) (by omega)) ?_; conv => whnf) | (refine WrapH.is _ wrap_u64m ?_; conv => whnf) | (refine Req.mk (by omega) ?_; conv => whnf) | (refine Req.mk (by dsimp only; omega) ?_; conv => whnf) | (refine Req.mk ⟨rfl, rfl, rfl, by simp [ci_length, *], rfl, by simp [okCell], by dsimp only; omega, by omega, by decide⟩ ?_; conv => whnf) | (refine Req.mk (show pendP _ _ by repeat' constructor) ?_; conv => whnf) | ((with_reducible refine brT ?_ ?_); (next => assumption); (conv => whnf)) | ((with_reducible refine brF ?_ ?_); (next => assumption); (conv => whnf)) | ((with_reducible refine brDT ?_ ?_); (next => omega); (conv => whnf)) | ((with_reducible refine brDF ?_ ?_); (next => omega); (conv => whnf)) | ((with_reducible refine brET ?_ ?_); (next => omega); (conv => whnf)) | ((with_reducible refine brEF ?_ ?_); (next => omega); (conv => whnf)) | ((with_reducible refine brNET ?_ ?_); (next => omega); (conv => whnf)) | ((with_reducible refine brNEF ?_ ?_); (next => omega); (conv => whnf)) | (with_reducible refine brNot ?_))
  refine Sat.unroll seat_ok 4 ?_
  conv => whnf
  repeat' (first | (refine WrapH.quo (by omega) (by omega) (by omega) ?_; conv => whnf) | (refine WrapH.quoU (by omega) (by omega) (by omega) ?_; conv => whnf) | (refine NumH.rem (by omega) ?_; conv => whnf) | (refine WrapH.is _ (wrap_i64 (by omega) (by omega)) ?_; conv => whnf) | (refine WrapH.is _ (wrap_u64 (by omega) (by omega)) ?_; conv => whnf) | (refine WrapH.is _ wrap_u64m ?_; conv => whnf) | (refine Req.mk (by omega) ?_; conv => whnf) | (refine Req.mk (by dsimp only; omega) ?_; conv => whnf) | (refine Req.mk ⟨rfl, rfl, rfl, by simp [ci_length, *], rfl, by simp [okCell], by dsimp only; omega, by omega, by decide⟩ ?_; conv => whnf) | (refine Req.mk (show pendP _ _ by repeat' constructor) ?_; conv => whnf) | ((with_reducible refine brT ?_ ?_); (next => assumption); (conv => whnf)) | ((with_reducible refine brF ?_ ?_); (next => assumption); (conv => whnf)) | ((with_reducible refine brDT ?_ ?_); (next => omega); (conv => whnf)) | ((with_reducible refine brDF ?_ ?_); (next => omega); (conv => whnf)) | ((with_reducible refine brET ?_ ?_); (next => omega); (conv => whnf)) | ((with_reducible refine brEF ?_ ?_); (next => omega); (conv => whnf)) | ((with_reducible refine brNET ?_ ?_); (next => omega); (conv => whnf)) | ((with_reducible refine brNEF ?_ ?_); (next => omega); (conv => whnf)) | (with_reducible refine brNot ?_))
  refine DrawH.plan seat_ok (.take 0 (.take 1 (.perform 2 none (.perform 3 none (.perform 4 none Plan.done))))) 0 (by kernel_rfl) ?_
  conv => whnf
  repeat' (first | (refine CallH.lift seat_g c1 ⟨(by first | exact bg_closed _ | simp [Closed]), trivial⟩ (bg_closed _) ?_; conv => whnf) | (refine CallH.lift seat_g d1 ⟨(by first | exact bg_closed _ | simp [Closed]), (by first | exact bg_closed _ | simp [Closed]), trivial⟩ (bg_closed _) ?_; conv => whnf) | (first | (refine WrapH.quo (by omega) (by omega) (by omega) ?_; conv => whnf) | (refine WrapH.quoU (by omega) (by omega) (by omega) ?_; conv => whnf) | (refine NumH.rem (by omega) ?_; conv => whnf) | (refine WrapH.is _ (wrap_i64 (by omega) (by omega)) ?_; conv => whnf) | (refine WrapH.is _ (wrap_u64 (by omega) (by omega)) ?_; conv => whnf) | (refine WrapH.is _ wrap_u64m ?_; conv => whnf) | (refine Req.mk (by omega) ?_; conv => whnf) | (refine Req.mk (by dsimp only; omega) ?_; conv => whnf) | (refine Req.mk ⟨rfl, rfl, rfl, by simp [ci_length, *], rfl, by simp [okCell], by dsimp only; omega, by omega, by decide⟩ ?_; conv => whnf) | (refine Req.mk (show pendP _ _ by repeat' constructor) ?_; conv => whnf) | ((with_reducible refine brT ?_ ?_); (next => assumption); (conv => whnf)) | ((with_reducible refine brF ?_ ?_); (next => assumption); (conv => whnf)) | ((with_reducible refine brDT ?_ ?_); (next => omega); (conv => whnf)) | ((with_reducible refine brDF ?_ ?_); (next => omega); (conv => whnf)) | ((with_reducible refine brET ?_ ?_); (next => omega); (conv => whnf)) | ((with_reducible refine brEF ?_ ?_); (next => omega); (conv => whnf)) | ((with_reducible refine brNET ?_ ?_); (next => omega); (conv => whnf)) | ((with_reducible refine brNEF ?_ ?_); (next => omega); (conv => whnf)) | (with_reducible refine brNot ?_)) | (refine And.intro ?_ ?_ <;> (conv => whnf)))
  all_goals
    refine DrawH.plan seat_ok (.take 0 (.take 1 (.perform 2 none (.perform 3 none (.perform 4 none Plan.done))))) 0 (by kernel_rfl) ?_
    conv => whnf
    repeat' (first | (refine CallH.lift seat_g c2 ⟨(by first | exact bg_closed _ | simp [Closed]), trivial⟩ (bg_closed _) ?_; conv => whnf) | (refine CallH.lift seat_g d2 ⟨(by first | exact bg_closed _ | simp [Closed]), (by first | exact bg_closed _ | simp [Closed]), trivial⟩ (bg_closed _) ?_; conv => whnf) | (refine CallH.lift seat_g p ⟨(by first | exact bg_closed _ | simp [Closed]), trivial⟩ (by simp [Closed, ClosedL]) ?_; conv => whnf) | (first | (refine WrapH.quo (by omega) (by omega) (by omega) ?_; conv => whnf) | (refine WrapH.quoU (by omega) (by omega) (by omega) ?_; conv => whnf) | (refine NumH.rem (by omega) ?_; conv => whnf) | (refine WrapH.is _ (wrap_i64 (by omega) (by omega)) ?_; conv => whnf) | (refine WrapH.is _ (wrap_u64 (by omega) (by omega)) ?_; conv => whnf) | (refine WrapH.is _ wrap_u64m ?_; conv => whnf) | (refine Req.mk (by omega) ?_; conv => whnf) | (refine Req.mk (by dsimp only; omega) ?_; conv => whnf) | (refine Req.mk ⟨rfl, rfl, rfl, by simp [ci_length, *], rfl, by simp [okCell], by dsimp only; omega, by omega, by decide⟩ ?_; conv => whnf) | (refine Req.mk (show pendP _ _ by repeat' constructor) ?_; conv => whnf) | ((with_reducible refine brT ?_ ?_); (next => assumption); (conv => whnf)) | ((with_reducible refine brF ?_ ?_); (next => assumption); (conv => whnf)) | ((with_reducible refine brDT ?_ ?_); (next => omega); (conv => whnf)) | ((with_reducible refine brDF ?_ ?_); (next => omega); (conv => whnf)) | ((with_reducible refine brET ?_ ?_); (next => omega); (conv => whnf)) | ((with_reducible refine brEF ?_ ?_); (next => omega); (conv => whnf)) | ((with_reducible refine brNET ?_ ?_); (next => omega); (conv => whnf)) | ((with_reducible refine brNEF ?_ ?_); (next => omega); (conv => whnf)) | (with_reducible refine brNot ?_)) | (refine And.intro ?_ ?_ <;> (conv => whnf)))
  all_goals (rw [Int.zero_add]; rfl)
theorem CallH.liftP {S : Seat} (hG : GOK S) {f : Nat} {args : List AV} {v : AV} (hc : ACalls S f args [] (fun x _ => x = .pan v)) (hcl : ClosedL args) (hcv : Closed v) {h : Heap} {k : AEnd → Heap → Prop} (hk : k (.pan v) h) : CallH S f args h k :=
  ⟨hc.lift hG hcl fun x _ hx => .inr ⟨v, hx, hcv, hk⟩⟩
theorem c_mustT (e : Int) : ACalls seat 25 [.bool true, .int .i64 e] [] (fun x _ => x = .ret (.tup [])) := by have := c_must true e; simpa using this
theorem c_mustF (e : Int) : ACalls seat 25 [.bool false, .int .i64 e] [] (fun x _ => x = .pan (errA e)) := by have := c_must false e; simpa using this
theorem errA_closed (n : Int) : Closed (errA n) := by simp [errA, Closed]
/-- what one number of a point or a matrix comes to -/
def numZ (a x b y c : Int) : Int := (a * x + b * y + 32768) / 65536 + c
theorem IB.mul {a b : Int} (ha : IB a) (hb : IB b) : -18446744073709551616 ≤ a * b ∧ a * b ≤ 18446744073709551616 := by
  unfold IB at *
  have h1 := Int.mul_nonneg (show 0 ≤ 4294967296 - a by omega) (show 0 ≤ 4294967296 + b by omega)
  have h2 := Int.mul_nonneg (show 0 ≤ 4294967296 + a by omega) (show 0 ≤ 4294967296 - b by omega)
  have h3 := Int.mul_nonneg (show 0 ≤ 4294967296 + a by omega) (show 0 ≤ 4294967296 + b by omega)
  have h4 := Int.mul_nonneg (show 0 ≤ 4294967296 - a by omega) (show 0 ≤ 4294967296 - b by omega)
  simp only [Int.sub_mul, Int.mul_sub, Int.add_mul, Int.mul_add] at h1 h2 h3 h4
  omega
theorem num_bounds {a x b y c : Int} (ha : IB a) (hx : IB x) (hb : IB b) (hy : IB y) (hc : IB c) : -1000000000000000 ≤ (a * x + b * y + 32768) / 65536 ∧ (a * x + b * y + 32768) / 65536 ≤ 1000000000000000 := by
  have h1 := IB.mul ha hx
  have h2 := IB.mul hb hy
  omega
theorem dot16 {a x b y : Int} (ha : IB a) (hx : IB x) (hb : IB b) (hy : IB y) : dotN (a * x + b * y) 16 = [.int .i64 ((a * x + b * y + 32768) / 65536), .bool true] := by
  have h1 := IB.mul ha hx
  have h2 := IB.mul hb hy
  have e : shN (a * x + b * y) 16 = (a * x + b * y + 32768) / 65536 := rfl
  unfold dotN
  rw [e, if_pos (by omega)]
theorem c_number (a x b y c : Int) (ha : IB a) (hx : IB x) (hb : IB b) (hy : IB y) (hc : IB c) : ACalls seat 27 [.int .i64 a, .int .i64 x, .int .i64 b, .int .i64 y, .int .i64 c] [] (fun r _ => r = if IB (numZ a x b y c) then .ret (.int .i64 (numZ a x b y c)) else .pan (errA 2)) := by
  refine ACalls.body seat_ok Tryd.func27 rfl rfl ?_
  have i : ∀ n, IB n → I64 n := fun n h => by unfold IB at h; unfold I64; omega
  have h1 := IB.mul ha hx
  have h2 := IB.mul hb hy
  have cd := c_dot a x b y 16 (i _ ha) (i _ hx) (i _ hb) (i _ hy) (by decide) (by omega)
  rw [dot16 ha hx hb hy] at cd
  have hv := num_bounds ha hx hb hy hc
  unfold numZ
  generalize (a * x + b * y + 32768) / 65536 = v at *
  unfold IB at hc
  have cs := c_wsum2 v c (by unfold I64; omega) (by unfold I64; omega) (by unfold I64; omega)
  have cw := c_within1 (v + c)
  have m1 := c_mustT 2
  have m2 := c_mustF 2
  clear h1 h2
  by_cases g : IB (v + c)
  · rw [if_pos g]
    rw [decide_eq_true g] at cw
    conv => whnf
    refine CallH.lift seat_g cd (by simp [Closed, ClosedL]) (by simp [Closed, ClosedL]) ?_
    conv => whnf
    refine CallH.lift seat_g m1 (by simp [Closed, ClosedL]) (by simp [Closed, ClosedL]) ?_
    conv => whnf
    refine CallH.weakA (WeakL.cons Weak.tok WeakL.nil) ?_
    refine CallH.lift seat_g cs (by simp [Closed, ClosedL]) (by simp [Closed, ClosedL]) ?_
    conv => whnf
    refine CallH.weakA (WeakL.cons (Weak.refl _) (WeakL.cons Weak.tok WeakL.nil)) ?_
    refine CallH.lift seat_g cw (by simp [Closed, ClosedL]) (by simp [Closed, ClosedL]) ?_
    conv => whnf
    refine CallH.lift seat_g m1 (by simp [Closed, ClosedL]) (by simp [Closed, ClosedL]) ?_
    conv => whnf
    rfl
  · rw [if_neg g]
    rw [decide_eq_false g] at cw
    conv => whnf
    refine CallH.lift seat_g cd (by simp [Closed, ClosedL]) (by simp [Closed, ClosedL]) ?_
    conv => whnf
    refine CallH.lift seat_g m1 (by simp [Closed, ClosedL]) (by simp [Closed, ClosedL]) ?_
    conv => whnf
    refine CallH.weakA (WeakL.cons Weak.tok WeakL.nil) ?_
    refine CallH.lift seat_g cs (by simp [Closed, ClosedL]) (by simp [Closed, ClosedL]) ?_
    conv => whnf
    refine CallH.weakA (WeakL.cons (Weak.refl _) (WeakL.cons Weak.tok WeakL.nil)) ?_
    refine CallH.lift seat_g cw (by simp [Closed, ClosedL]) (by simp [Closed, ClosedL]) ?_
    conv => whnf
    refine CallH.liftP seat_g m2 (by simp [Closed, ClosedL]) (errA_closed _) ?_
    conv => whnf
structure Mx where
  a : Int
  b : Int
  c : Int
  d : Int
  e : Int
  f : Int
def Mx.c' (m : Mx) : List AV := [.int .i64 m.a, .int .i64 m.b, .int .i64 m.c, .int .i64 m.d, .int .i64 m.e, .int .i64 m.f]
def Mx.av (m : Mx) : AV := .agg m.c'
theorem Mx.closed (m : Mx) : Closed m.av := by simp [Mx.av, Mx.c', Closed, ClosedL]
def Mx.ok (m : Mx) : Prop := (IB m.a ∧ IB m.b ∧ IB m.c) ∧ IB m.d ∧ IB m.e ∧ IB m.f
instance (m : Mx) : Decidable m.ok := by unfold Mx.ok; infer_instance
def ptOK (p : Pt) : Prop := IB p.x ∧ IB p.y
instance (p : Pt) : Decidable (ptOK p) := by unfold ptOK; infer_instance
theorem c_aright (m : Mx) : ACalls seat 12 [m.av] [] (fun x _ => x = .ret (.bool (decide m.ok))) := by
  refine ACalls.body seat_ok Tryd.func12 rfl rfl ?_
  have cw := c_within6 m.a m.b m.c m.d m.e m.f
  unfold Mx.ok
  generalize decide ((IB m.a ∧ IB m.b ∧ IB m.c) ∧ IB m.d ∧ IB m.e ∧ IB m.f) = B at *
  conv => whnf
  repeat' (first | (refine WrapH.quo (by omega) (by omega) (by omega) ?_; conv => whnf) | (refine WrapH.quoU (by omega) (by omega) (by omega) ?_; conv => whnf) | (refine NumH.rem (by omega) ?_; conv => whnf) | (refine WrapH.is _ (wrap_i64 (by omega) (by omega)) ?_; conv => whnf) | (refine WrapH.is _ (wrap_u64 (by omega) (by omega)) ?_; conv => whnf) | (refine WrapH.is _ wrap_u64m ?_; conv => whnf) | (refine Req.mk (by omega) ?_; conv => whnf) | (refine Req.mk (by dsimp only; omega) ?_; conv => whnf) | (refine Req.mk ⟨rfl, rfl, rfl, by simp [ci_length, *], rfl, by simp [okCell], by dsimp only; omega, by omega, by decide⟩ ?_; conv => whnf) | (refine Req.mk (show pendP _ _ by repeat' constructor) ?_; conv => whnf) | ((with_reducible refine brT ?_ ?_); (next => assumption); (conv => whnf)) | ((with_reducible refine brF ?_ ?_); (next => assumption); (conv => whnf)) | ((with_reducible refine brDT ?_ ?_); (next => omega); (conv => whnf)) | ((with_reducible refine brDF ?_ ?_); (next => omega); (conv => whnf)) | ((with_reducible refine brET ?_ ?_); (next => omega); (conv => whnf)) | ((with_reducible refine brEF ?_ ?_); (next => omega); (conv => whnf)) | ((with_reducible refine brNET ?_ ?_); (next => omega); (conv => whnf)) | ((with_reducible refine brNEF ?_ ?_); (next => omega); (conv => whnf)) | (with_reducible refine brNot ?_))
  refine CallH.weakA (WeakL.cons (Weak.refl _) (WeakL.cons Weak.tok WeakL.nil)) ?_
  refine CallH.lift seat_g cw (by simp [Closed, ClosedL]) (by simp [Closed, ClosedL]) ?_
  conv => whnf
  rfl
/-- where a matrix takes a point -/
def Mx.at' (m : Mx) (p : Pt) : Pt := ⟨numZ m.a p.x m.c p.y m.e, numZ m.b p.x m.d p.y m.f⟩
/-- what comes of moving a point: itself, or an error -/
def movedR (m : Mx) (p : Pt) : AEnd := if m.ok ∧ ptOK p then (if ptOK (m.at' p) then .ret (m.at' p).a else .pan (errA 2)) else .pan (errA 1)
theorem movedR1 {m : Mx} {p : Pt} (h : ¬ (m.ok ∧ ptOK p)) : movedR m p = .pan (errA 1) := if_neg h
theorem movedR2 {m : Mx} {p : Pt} (h : m.ok ∧ ptOK p) (h2 : ¬ ptOK (m.at' p)) : movedR m p = .pan (errA 2) := (if_pos h).trans (if_neg h2)
theorem movedR0 {m : Mx} {p : Pt} (h : m.ok ∧ ptOK p) (h2 : ptOK (m.at' p)) : movedR m p = .ret (m.at' p).a := (if_pos h).trans (if_pos h2)
set_option maxRecDepth 20000 in
theorem c_moved (m : Mx) (p : Pt) : ACalls seat 21 [m.av, p.a] [] (fun x _ => x = movedR m p) := by
  refine ACalls.body seat_ok Tryd.func21 rfl rfl ?_
  have cr := c_aright m
  have cw := c_within2 p.x p.y
  have m1 := c_mustT 1
  have m2 := c_mustF 1
  by_cases g1 : m.ok
  case neg =>
    rw [decide_eq_false g1] at cr
    rw [movedR1 (fun h => g1 h.1)]
    conv => whnf
    refine CallH.lift seat_g cr ⟨Mx.closed _, trivial⟩ (by simp [Closed, ClosedL]) ?_
    conv => whnf
    refine CallH.liftP seat_g m2 (by simp [Closed, ClosedL]) (errA_closed _) ?_
    conv => whnf
  rw [decide_eq_true g1] at cr
  by_cases g2 : ptOK p
  case neg =>
    rw [show decide (IB p.x ∧ IB p.y) = false from decide_eq_false g2] at cw
    rw [movedR1 (fun h => g2 h.2)]
    conv => whnf
    refine CallH.lift seat_g cr ⟨Mx.closed _, trivial⟩ (by simp [Closed, ClosedL]) ?_
    conv => whnf
    refine CallH.weakA (WeakL.cons (Weak.refl _) (WeakL.cons Weak.tok WeakL.nil)) ?_
    refine CallH.lift seat_g cw (by simp [Closed, ClosedL]) (by simp [Closed, ClosedL]) ?_
    conv => whnf
    refine CallH.liftP seat_g m2 (by simp [Closed, ClosedL]) (errA_closed _) ?_
    conv => whnf
  rw [show decide (IB p.x ∧ IB p.y) = true from decide_eq_true g2] at cw
  have n1 := c_number m.a p.x m.c p.y m.e g1.1.1 g2.1 g1.1.2.2 g2.2 g1.2.2.1
  have n2 := c_number m.b p.x m.d p.y m.f g1.1.2.1 g2.1 g1.2.1 g2.2 g1.2.2.2
  have e1 := @movedR2 m p ⟨g1, g2⟩
  have e2 := @movedR0 m p ⟨g1, g2⟩
  unfold ptOK Mx.at' at e1 e2
  simp only at e1 e2
  generalize numZ m.a p.x m.c p.y m.e = u at *
  generalize numZ m.b p.x m.d p.y m.f = v at *
  by_cases g3 : IB u
  case neg =>
    rw [if_neg g3] at n1
    rw [e1 (fun h => g3 h.1)]
    conv => whnf
    refine CallH.lift seat_g cr ⟨Mx.closed _, trivial⟩ (by simp [Closed, ClosedL]) ?_
    conv => whnf
    refine CallH.weakA (WeakL.cons (Weak.refl _) (WeakL.cons Weak.tok WeakL.nil)) ?_
    refine CallH.lift seat_g cw (by simp [Closed, ClosedL]) (by simp [Closed, ClosedL]) ?_
    conv => whnf
    refine CallH.lift seat_g m1 (by simp [Closed, ClosedL]) (by simp [Closed, ClosedL]) ?_
    conv => whnf
    refine DrawH.plan seat_ok (.take 0 (.take 1 (.take 2 (.take 3 (.take 4 (.take 5 (.take 6 (.take 7 (.take 8 (.take 9 (.take 11 (.take 12 (.take 13 (.take 14 (.take 15 (.take 16 (.take 17 (.take 18 (.take 19 (.take 20 (.perform 10 none (.perform 21 none (.take 22 (.perform 23 none Plan.done)))))))))))))))))))))))) 0 (by kernel_rfl) ?_
    conv => whnf
    repeat' (first | exact rfl | (refine CallH.liftP seat_g n1 (by simp [Closed, ClosedL]) (errA_closed _) ?_; conv => whnf) | (first | (refine WrapH.quo (by omega) (by omega) (by omega) ?_; conv => whnf) | (refine WrapH.quoU (by omega) (by omega) (by omega) ?_; conv => whnf) | (refine NumH.rem (by omega) ?_; conv => whnf) | (refine WrapH.is _ (wrap_i64 (by omega) (by omega)) ?_; conv => whnf) | (refine WrapH.is _ (wrap_u64 (by omega) (by omega)) ?_; conv => whnf) | (refine WrapH.is _ wrap_u64m ?_; conv => whnf) | (refine Req.mk (by omega) ?_; conv => whnf) | (refine Req.mk (by dsimp only; omega) ?_; conv => whnf) | (refine Req.mk ⟨rfl, rfl, rfl, by simp [ci_length, *], rfl, by simp [okCell], by dsimp only; omega, by omega, by decide⟩ ?_; conv => whnf) | (refine Req.mk (show pendP _ _ by repeat' constructor) ?_; conv => whnf) | ((with_reducible refine brT ?_ ?_); (next => assumption); (conv => whnf)) | ((with_reducible refine brF ?_ ?_); (next => assumption); (conv => whnf)) | ((with_reducible refine brDT ?_ ?_); (next => omega); (conv => whnf)) | ((with_reducible refine brDF ?_ ?_); (next => omega); (conv => whnf)) | ((with_reducible refine brET ?_ ?_); (next => omega); (conv => whnf)) | ((with_reducible refine brEF ?_ ?_); (next => omega); (conv => whnf)) | ((with_reducible refine brNET ?_ ?_); (next => omega); (conv => whnf)) | ((with_reducible refine brNEF ?_ ?_); (next => omega); (conv => whnf)) | (with_reducible refine brNot ?_)) | (refine And.intro ?_ ?_ <;> (conv => whnf)))
  rw [if_pos g3] at n1
  by_cases g4 : IB v
  case neg =>
    rw [if_neg g4] at n2
    rw [e1 (fun h => g4 h.2)]
    conv => whnf
    refine CallH.lift seat_g cr ⟨Mx.closed _, trivial⟩ (by simp [Closed, ClosedL]) ?_
    conv => whnf
    refine CallH.weakA (WeakL.cons (Weak.refl _) (WeakL.cons Weak.tok WeakL.nil)) ?_
    refine CallH.lift seat_g cw (by simp [Closed, ClosedL]) (by simp [Closed, ClosedL]) ?_
    conv => whnf
    refine CallH.lift seat_g m1 (by simp [Closed, ClosedL]) (by simp [Closed, ClosedL]) ?_
    conv => whnf
    refine DrawH.plan seat_ok (.take 0 (.take 1 (.take 2 (.take 3 (.take 4 (.take 5 (.take 6 (.take 7 (.take 8 (.take 9 (.take 11 (.take 12 (.take 13 (.take 14 (.take 15 (.take 16 (.take 17 (.take 18 (.take 19 (.take 20 (.perform 10 none (.perform 21 none (.take 22 (.perform 23 none Plan.done)))))))))))))))))))))))) 0 (by kernel_rfl) ?_
    conv => whnf
    repeat' (first | exact rfl | (refine CallH.lift seat_g n1 (by simp [Closed, ClosedL]) (by simp [Closed]) ?_; conv => whnf) | (refine CallH.liftP seat_g n2 (by simp [Closed, ClosedL]) (errA_closed _) ?_; conv => whnf) | (first | (refine WrapH.quo (by omega) (by omega) (by omega) ?_; conv => whnf) | (refine WrapH.quoU (by omega) (by omega) (by omega) ?_; conv => whnf) | (refine NumH.rem (by omega) ?_; conv => whnf) | (refine WrapH.is _ (wrap_i64 (by omega) (by omega)) ?_; conv => whnf) | (refine WrapH.is _ (wrap_u64 (by omega) (by omega)) ?_; conv => whnf) | (refine WrapH.is _ wrap_u64m ?_; conv => whnf) | (refine Req.mk (by omega) ?_; conv => whnf) | (refine Req.mk (by dsimp only; omega) ?_; conv => whnf) | (refine Req.mk ⟨rfl, rfl, rfl, by simp [ci_length, *], rfl, by simp [okCell], by dsimp only; omega, by omega, by decide⟩ ?_; conv => whnf) | (refine Req.mk (show pendP _ _ by repeat' constructor) ?_; conv => whnf) | ((with_reducible refine brT ?_ ?_); (next => assumption); (conv => whnf)) | ((with_reducible refine brF ?_ ?_); (next => assumption); (conv => whnf)) | ((with_reducible refine brDT ?_ ?_); (next => omega); (conv => whnf)) | ((with_reducible refine brDF ?_ ?_); (next => omega); (conv => whnf)) | ((with_reducible refine brET ?_ ?_); (next => omega); (conv => whnf)) | ((with_reducible refine brEF ?_ ?_); (next => omega); (conv => whnf)) | ((with_reducible refine brNET ?_ ?_); (next => omega); (conv => whnf)) | ((with_reducible refine brNEF ?_ ?_); (next => omega); (conv => whnf)) | (with_reducible refine brNot ?_)) | (refine And.intro ?_ ?_ <;> (conv => whnf)))
  case pos =>
    rw [if_pos g4] at n2
    rw [e2 ⟨g3, g4⟩]
    conv => whnf
    refine CallH.lift seat_g cr ⟨Mx.closed _, trivial⟩ (by simp [Closed, ClosedL]) ?_
    conv => whnf
    refine CallH.weakA (WeakL.cons (Weak.refl _) (WeakL.cons Weak.tok WeakL.nil)) ?_
    refine CallH.lift seat_g cw (by simp [Closed, ClosedL]) (by simp [Closed, ClosedL]) ?_
    conv => whnf
    refine CallH.lift seat_g m1 (by simp [Closed, ClosedL]) (by simp [Closed, ClosedL]) ?_
    conv => whnf
    refine DrawH.plan seat_ok (.take 0 (.take 1 (.take 2 (.take 3 (.take 4 (.take 5 (.take 6 (.take 7 (.take 8 (.take 9 (.take 11 (.take 12 (.take 13 (.take 14 (.take 15 (.take 16 (.take 17 (.take 18 (.take 19 (.take 20 (.perform 10 none (.perform 21 none (.take 22 (.perform 23 none Plan.done)))))))))))))))))))))))) 0 (by kernel_rfl) ?_
    conv => whnf
    repeat' (first | exact rfl | (refine CallH.lift seat_g n1 (by simp [Closed, ClosedL]) (by simp [Closed]) ?_; conv => whnf) | (refine CallH.lift seat_g n2 (by simp [Closed, ClosedL]) (by simp [Closed]) ?_; conv => whnf) | (first | (refine WrapH.quo (by omega) (by omega) (by omega) ?_; conv => whnf) | (refine WrapH.quoU (by omega) (by omega) (by omega) ?_; conv => whnf) | (refine NumH.rem (by omega) ?_; conv => whnf) | (refine WrapH.is _ (wrap_i64 (by omega) (by omega)) ?_; conv => whnf) | (refine WrapH.is _ (wrap_u64 (by omega) (by omega)) ?_; conv => whnf) | (refine WrapH.is _ wrap_u64m ?_; conv => whnf) | (refine Req.mk (by omega) ?_; conv => whnf) | (refine Req.mk (by dsimp only; omega) ?_; conv => whnf) | (refine Req.mk ⟨rfl, rfl, rfl, by simp [ci_length, *], rfl, by simp [okCell], by dsimp only; omega, by omega, by decide⟩ ?_; conv => whnf) | (refine Req.mk (show pendP _ _ by repeat' constructor) ?_; conv => whnf) | ((with_reducible refine brT ?_ ?_); (next => assumption); (conv => whnf)) | ((with_reducible refine brF ?_ ?_); (next => assumption); (conv => whnf)) | ((with_reducible refine brDT ?_ ?_); (next => omega); (conv => whnf)) | ((with_reducible refine brDF ?_ ?_); (next => omega); (conv => whnf)) | ((with_reducible refine brET ?_ ?_); (next => omega); (conv => whnf)) | ((with_reducible refine brEF ?_ ?_); (next => omega); (conv => whnf)) | ((with_reducible refine brNET ?_ ?_); (next => omega); (conv => whnf)) | ((with_reducible refine brNEF ?_ ?_); (next => omega); (conv => whnf)) | (with_reducible refine brNot ?_)) | (refine And.intro ?_ ?_ <;> (conv => whnf)))
end Go.Proofs.YteiedieeebjklaaDoor
