/- Many points: the program's All. Conditions: not too many. -/
import Derived.Test.YteiedieeebjklaaDoorAll
set_option linter.unusedSimpArgs false
set_option linter.unusedVariables false
set_option linter.deprecated false
namespace Go.Proofs.YteiedieeebjklaaDoor
open Go.Abs
def allV (m : Mx) (l : List Pt) : AV := .tup [plv (allOut m l), .int .i64 (allCode m l)]
theorem allV1 {m : Mx} {l : List Pt} (h : ¬ m.ok) : allV m l = .tup [plv [], .int .i64 1] := by simp [allV, allOut, allCode, h]
theorem allV0 {m : Mx} {l : List Pt} (h : m.ok) (h2 : allE m l = 0) : allV m l = .tup [plv (l.map m.at'), .int .i64 0] := by simp [allV, allOut, allCode, h, h2]
theorem allV2 {m : Mx} {l : List Pt} (h : m.ok) (h2 : allE m l ≠ 0) : allV m l = .tup [plv [], .int .i64 (allE m l)] := by simp [allV, allOut, allCode, h, h2]
set_option maxRecDepth 20000 in
theorem c_all (m : Mx) (l : List Pt) (hl : l.length ≤ 60) : ACalls seat 15 [m.av, plv l] [] (fun x _ => x = .ret (allV m l)) := by
  have r1 := c_aright m
  have m1 := c_mustT 1
  have m2 := c_mustF 1
  refine ACalls.weakR ?_
  by_cases g1 : m.ok
  case neg =>
    rw [decide_eq_false g1] at r1
    rw [allV1 g1]
    refine ACalls.bodyD seat_ok Tryd.func15 rfl rfl rfl rfl rfl rfl rfl rfl rfl rfl Tryd.func24 rfl rfl rfl ?_
    conv => whnf
    refine ⟨rfl, Nat.le_of_ble_eq_true rfl, ?_⟩
    conv => whnf
    repeat' (first | (refine CallH.lift seat_g r1 ⟨Mx.closed _, trivial⟩ (by simp [Closed, ClosedL]) ?_; conv => whnf) | (refine CallH.liftP seat_g m2 (by simp [Closed, ClosedL]) (errA_closed _) ?_; conv => whnf) | (first | (refine WrapH.quo (by omega) (by omega) (by omega) ?_; conv => whnf) | (refine WrapH.quoU (by omega) (by omega) (by omega) ?_; conv => whnf) | (refine NumH.rem (by omega) ?_; conv => whnf) | (refine WrapH.is _ (wrap_i64 (by omega) (by omega)) ?_; conv => whnf) | (refine WrapH.is _ (wrap_u64 (by omega) (by omega)) ?_; conv => whnf) | (refine WrapH.is _ wrap_u64m ?_; conv => whnf) | (refine Req.mk (by omega) ?_; conv => whnf) | (refine Req.mk (by dsimp only; omega) ?_; conv => whnf) | (refine Req.mk ⟨rfl, rfl, rfl, by simp [ci_length, *], rfl, by simp [okCell], by dsimp only; omega, by omega, by decide⟩ ?_; conv => whnf) | (refine Req.mk (show pendP _ _ by repeat' constructor) ?_; conv => whnf) | ((with_reducible refine brT ?_ ?_); (next => assumption); (conv => whnf)) | ((with_reducible refine brF ?_ ?_); (next => assumption); (conv => whnf)) | ((with_reducible refine brDT ?_ ?_); (next => omega); (conv => whnf)) | ((with_reducible refine brDF ?_ ?_); (next => omega); (conv => whnf)) | ((with_reducible refine brET ?_ ?_); (next => omega); (conv => whnf)) | ((with_reducible refine brEF ?_ ?_); (next => omega); (conv => whnf)) | ((with_reducible refine brNET ?_ ?_); (next => omega); (conv => whnf)) | ((with_reducible refine brNEF ?_ ?_); (next => omega); (conv => whnf)) | (with_reducible refine brNot ?_)))
    refine d_allE (.var m.c' 23) .nils [] 1 (by decide) _ ?_
    conv => whnf
    exact .inl ⟨_, _, rfl, Weak.tup (.cons Weak.nils (WeakL.refl _)), rfl⟩
  rw [decide_eq_true g1] at r1
  have e0 := @allV0 m l g1
  have e2 := @allV2 m l g1
  refine ACalls.bodyD seat_ok Tryd.func15 rfl rfl rfl rfl rfl rfl rfl rfl rfl rfl Tryd.func24 rfl rfl rfl ?_
  conv => whnf
  refine ⟨rfl, Nat.le_of_ble_eq_true rfl, ?_⟩
  conv => whnf
  repeat' (first | (refine CallH.lift seat_g r1 ⟨Mx.closed _, trivial⟩ (by simp [Closed, ClosedL]) ?_; conv => whnf) | (refine CallH.lift seat_g m1 (by simp [Closed, ClosedL]) (by simp [Closed, ClosedL]) ?_; conv => whnf) | (first | (refine WrapH.quo (by omega) (by omega) (by omega) ?_; conv => whnf) | (refine WrapH.quoU (by omega) (by omega) (by omega) ?_; conv => whnf) | (refine NumH.rem (by omega) ?_; conv => whnf) | (refine WrapH.is _ (wrap_i64 (by omega) (by omega)) ?_; conv => whnf) | (refine WrapH.is _ (wrap_u64 (by omega) (by omega)) ?_; conv => whnf) | (refine WrapH.is _ wrap_u64m ?_; conv => whnf) | (refine Req.mk (by omega) ?_; conv => whnf) | (refine Req.mk (by dsimp only; omega) ?_; conv => whnf) | (refine Req.mk ⟨rfl, rfl, rfl, by simp [ci_length, *], rfl, by simp [okCell], by dsimp only; omega, by omega, by decide⟩ ?_; conv => whnf) | (refine Req.mk (show pendP _ _ by repeat' constructor) ?_; conv => whnf) | ((with_reducible refine brT ?_ ?_); (next => assumption); (conv => whnf)) | ((with_reducible refine brF ?_ ?_); (next => assumption); (conv => whnf)) | ((with_reducible refine brDT ?_ ?_); (next => omega); (conv => whnf)) | ((with_reducible refine brDF ?_ ?_); (next => omega); (conv => whnf)) | ((with_reducible refine brET ?_ ?_); (next => omega); (conv => whnf)) | ((with_reducible refine brEF ?_ ?_); (next => omega); (conv => whnf)) | ((with_reducible refine brNET ?_ ?_); (next => omega); (conv => whnf)) | ((with_reducible refine brNEF ?_ ?_); (next => omega); (conv => whnf)) | (with_reducible refine brNot ?_)))
  refine Sat.nilTokH 1 0 25 2 rfl rfl ?_
  refine Sat.cut (fun x t h => t = (AV.undef :: AV.undef :: AV.undef :: AV.undef :: .ptr 1 0 :: .ptr 2 0 :: AV.undef :: AV.undef :: AV.undef :: AV.undef :: AV.undef :: AV.undef :: AV.undef :: AV.undef :: AV.undef :: AV.undef :: AV.undef :: AV.undef :: AV.undef :: AV.undef :: AV.undef :: AV.undef :: AV.undef :: AV.undef :: AV.undef :: AV.undef :: []) ∧ ∃ v rest, h = .var m.c' 23 :: .var [v] 38 :: .var [.int .i64 0] 27 :: rest ∧ ((x = .exit 0 ∧ allE m l = 0 ∧ v = .vec (cs Pt.c (l.map m.at')) l.length (some 3)) ∨ (allE m l ≠ 0 ∧ x = .pan (errA (allE m l))))) ?_ ?_
  · refine Sat.invP seat_ok seat_g (maskOf 26 [2, 4, 5, 12, 13, 14]) 4 (fun μ t h => ∃ (i : Nat), i ≤ l.length ∧ μ = l.length - i ∧ allE m (l.take i) = 0 ∧
      t = (AV.undef :: AV.undef :: .ptr 0 0 :: AV.undef :: .ptr 1 0 :: .ptr 2 0 :: AV.undef :: AV.undef :: AV.undef :: AV.undef :: AV.undef :: AV.undef :: plv l :: .int .i64 l.length :: .int .i64 i :: AV.undef :: AV.undef :: AV.undef :: AV.undef :: AV.undef :: AV.undef :: AV.undef :: AV.undef :: AV.undef :: AV.undef :: AV.undef :: []) ∧ h = [.var m.c' 23, .var [.vec (cs Pt.c ((l.take i).map m.at')) i (some 3)] 38, .var [.int .i64 0] 27, .tok i 25 2]) ?_ ⟨_, _, WeakL.of_eq rfl, 0, by omega, rfl, rfl, rfl, rfl⟩ ?_
    · rintro _ _ _ ⟨i, -, rfl, -, rfl, rfl⟩
      exact ⟨rfl, by simp [IdsL, Ids, plv_ids], by simp [IdsH, IdsC, IdsL, Ids, ptcs_ids, Mx.c']⟩
    rintro _ _ _ ⟨i, hi, rfl, ha, rfl, rfl⟩
    clear r1 m1 m2 e0 e2
    by_cases g : i < l.length
    · obtain ⟨p, hp⟩ : ∃ p, l[i]? = some p := ⟨_, List.getElem?_eq_getElem g⟩
      have cm := c_moved m p
      have hs := take_succ' hp
      have hlen : (cs Pt.c ((l.take i).map m.at')).length = i * 2 := by rw [cs_length Pt.c_len, List.length_map, List.length_take]; congr 1; omega
      by_cases q1 : ptOK p
      · by_cases q2 : ptOK (m.at' p)
        · rw [movedR0 ⟨g1, q1⟩ q2] at cm
          have ha2 := allE_succ hp ha q1 q2
          have hm : cs Pt.c ((l.take i).map m.at') ++ (m.at' p).c = cs Pt.c ((l.take (i + 1)).map m.at') := by rw [hs, List.map_append, ← cs_append]; simp [cs]
          generalize cs Pt.c ((l.take i).map m.at') = A at *
          conv => whnf
          repeat' (first | (refine WrapH.quo (by omega) (by omega) (by omega) ?_; conv => whnf) | (refine WrapH.quoU (by omega) (by omega) (by omega) ?_; conv => whnf) | (refine NumH.rem (by omega) ?_; conv => whnf) | (refine WrapH.is _ (wrap_i64 (by omega) (by omega)) ?_; conv => whnf) | (refine WrapH.is _ (wrap_u64 (by omega) (by omega)) ?_; conv => whnf) | (refine WrapH.is _ wrap_u64m ?_; conv => whnf) | (refine Req.mk (by omega) ?_; conv => whnf) | (refine Req.mk (by dsimp only; omega) ?_; conv => whnf) | (refine Req.mk ⟨rfl, rfl, rfl, by simp [ci_length, *], rfl, by simp [okCell], by dsimp only; omega, by omega, by decide⟩ ?_; conv => whnf) | (refine Req.mk (show pendP _ _ by repeat' constructor) ?_; conv => whnf) | ((with_reducible refine brT ?_ ?_); (next => assumption); (conv => whnf)) | ((with_reducible refine brF ?_ ?_); (next => assumption); (conv => whnf)) | ((with_reducible refine brDT ?_ ?_); (next => omega); (conv => whnf)) | ((with_reducible refine brDF ?_ ?_); (next => omega); (conv => whnf)) | ((with_reducible refine brET ?_ ?_); (next => omega); (conv => whnf)) | ((with_reducible refine brEF ?_ ?_); (next => omega); (conv => whnf)) | ((with_reducible refine brNET ?_ ?_); (next => omega); (conv => whnf)) | ((with_reducible refine brNEF ?_ ?_); (next => omega); (conv => whnf)) | (with_reducible refine brNot ?_))
          refine ldI _ (cs_sub (sz := 2) Pt.c_len hp) ?_
          conv => whnf
          refine DrawH.plan seat_ok (.take 0 (.take 1 (.take 2 (.perform 3 none (.perform 4 (some 5) (.perform 5 (some 6) (.perform 6 none Plan.done))))))) 2 (by kernel_rfl) ?_
          conv => whnf
          repeat' (first | exact ⟨_, _, Nat.sub_lt_sub_left g (Nat.lt_succ_self i), WeakL.of_eq rfl, i + 1, by omega, rfl, ha2, rfl, by rw [← hm]; rfl⟩ | (refine CallH.lift seat_g cm ⟨Mx.closed _, Pt.closed _, trivial⟩ (Pt.closed _) ?_; conv => whnf) | (refine Req.mk ⟨rfl, rfl, rfl, hlen, rfl, by simp [okCell], by dsimp only; omega, by dsimp only; omega, by decide⟩ ?_; conv => whnf) | (first | (refine WrapH.quo (by omega) (by omega) (by omega) ?_; conv => whnf) | (refine WrapH.quoU (by omega) (by omega) (by omega) ?_; conv => whnf) | (refine NumH.rem (by omega) ?_; conv => whnf) | (refine WrapH.is _ (wrap_i64 (by omega) (by omega)) ?_; conv => whnf) | (refine WrapH.is _ (wrap_u64 (by omega) (by omega)) ?_; conv => whnf) | (refine WrapH.is _ wrap_u64m ?_; conv => whnf) | (refine Req.mk (by omega) ?_; conv => whnf) | (refine Req.mk (by dsimp only; omega) ?_; conv => whnf) | (refine Req.mk ⟨rfl, rfl, rfl, by simp [ci_length, *], rfl, by simp [okCell], by dsimp only; omega, by omega, by decide⟩ ?_; conv => whnf) | (refine Req.mk (show pendP _ _ by repeat' constructor) ?_; conv => whnf) | ((with_reducible refine brT ?_ ?_); (next => assumption); (conv => whnf)) | ((with_reducible refine brF ?_ ?_); (next => assumption); (conv => whnf)) | ((with_reducible refine brDT ?_ ?_); (next => omega); (conv => whnf)) | ((with_reducible refine brDF ?_ ?_); (next => omega); (conv => whnf)) | ((with_reducible refine brET ?_ ?_); (next => omega); (conv => whnf)) | ((with_reducible refine brEF ?_ ?_); (next => omega); (conv => whnf)) | ((with_reducible refine brNET ?_ ?_); (next => omega); (conv => whnf)) | ((with_reducible refine brNEF ?_ ?_); (next => omega); (conv => whnf)) | (with_reducible refine brNot ?_)) | (refine And.intro ?_ ?_ <;> (conv => whnf)))
        · rw [movedR2 ⟨g1, q1⟩ q2] at cm
          have ha2 : allE m l = 2 := by rw [allE_take hp ha]; simp [allE, q1, q2]
          rw [ha2]
          generalize cs Pt.c ((l.take i).map m.at') = A at *
          conv => whnf
          repeat' (first | (refine WrapH.quo (by omega) (by omega) (by omega) ?_; conv => whnf) | (refine WrapH.quoU (by omega) (by omega) (by omega) ?_; conv => whnf) | (refine NumH.rem (by omega) ?_; conv => whnf) | (refine WrapH.is _ (wrap_i64 (by omega) (by omega)) ?_; conv => whnf) | (refine WrapH.is _ (wrap_u64 (by omega) (by omega)) ?_; conv => whnf) | (refine WrapH.is _ wrap_u64m ?_; conv => whnf) | (refine Req.mk (by omega) ?_; conv => whnf) | (refine Req.mk (by dsimp only; omega) ?_; conv => whnf) | (refine Req.mk ⟨rfl, rfl, rfl, by simp [ci_length, *], rfl, by simp [okCell], by dsimp only; omega, by omega, by decide⟩ ?_; conv => whnf) | (refine Req.mk (show pendP _ _ by repeat' constructor) ?_; conv => whnf) | ((with_reducible refine brT ?_ ?_); (next => assumption); (conv => whnf)) | ((with_reducible refine brF ?_ ?_); (next => assumption); (conv => whnf)) | ((with_reducible refine brDT ?_ ?_); (next => omega); (conv => whnf)) | ((with_reducible refine brDF ?_ ?_); (next => omega); (conv => whnf)) | ((with_reducible refine brET ?_ ?_); (next => omega); (conv => whnf)) | ((with_reducible refine brEF ?_ ?_); (next => omega); (conv => whnf)) | ((with_reducible refine brNET ?_ ?_); (next => omega); (conv => whnf)) | ((with_reducible refine brNEF ?_ ?_); (next => omega); (conv => whnf)) | (with_reducible refine brNot ?_))
          refine ldI _ (cs_sub (sz := 2) Pt.c_len hp) ?_
          conv => whnf
          refine DrawH.plan seat_ok (.take 0 (.take 1 (.take 2 (.perform 3 none (.perform 4 (some 5) (.perform 5 (some 6) (.perform 6 none Plan.done))))))) 2 (by kernel_rfl) ?_
          conv => whnf
          repeat' (first | exact ⟨_, keepT_weak (maskOf 26 [4, 5]) _, rfl, _, _, rfl, .inr ⟨by decide, rfl⟩⟩ | (refine CallH.liftP seat_g cm ⟨Mx.closed _, Pt.closed _, trivial⟩ (errA_closed _) ?_; conv => whnf) | (first | (refine WrapH.quo (by omega) (by omega) (by omega) ?_; conv => whnf) | (refine WrapH.quoU (by omega) (by omega) (by omega) ?_; conv => whnf) | (refine NumH.rem (by omega) ?_; conv => whnf) | (refine WrapH.is _ (wrap_i64 (by omega) (by omega)) ?_; conv => whnf) | (refine WrapH.is _ (wrap_u64 (by omega) (by omega)) ?_; conv => whnf) | (refine WrapH.is _ wrap_u64m ?_; conv => whnf) | (refine Req.mk (by omega) ?_; conv => whnf) | (refine Req.mk (by dsimp only; omega) ?_; conv => whnf) | (refine Req.mk ⟨rfl, rfl, rfl, by simp [ci_length, *], rfl, by simp [okCell], by dsimp only; omega, by omega, by decide⟩ ?_; conv => whnf) | (refine Req.mk (show pendP _ _ by repeat' constructor) ?_; conv => whnf) | ((with_reducible refine brT ?_ ?_); (next => assumption); (conv => whnf)) | ((with_reducible refine brF ?_ ?_); (next => assumption); (conv => whnf)) | ((with_reducible refine brDT ?_ ?_); (next => omega); (conv => whnf)) | ((with_reducible refine brDF ?_ ?_); (next => omega); (conv => whnf)) | ((with_reducible refine brET ?_ ?_); (next => omega); (conv => whnf)) | ((with_reducible refine brEF ?_ ?_); (next => omega); (conv => whnf)) | ((with_reducible refine brNET ?_ ?_); (next => omega); (conv => whnf)) | ((with_reducible refine brNEF ?_ ?_); (next => omega); (conv => whnf)) | (with_reducible refine brNot ?_)) | (refine And.intro ?_ ?_ <;> (conv => whnf)))
      · rw [movedR1 (fun h => q1 h.2)] at cm
        have ha2 : allE m l = 1 := by rw [allE_take hp ha]; simp [allE, q1]
        rw [ha2]
        generalize cs Pt.c ((l.take i).map m.at') = A at *
        conv => whnf
        repeat' (first | (refine WrapH.quo (by omega) (by omega) (by omega) ?_; conv => whnf) | (refine WrapH.quoU (by omega) (by omega) (by omega) ?_; conv => whnf) | (refine NumH.rem (by omega) ?_; conv => whnf) | (refine WrapH.is _ (wrap_i64 (by omega) (by omega)) ?_; conv => whnf) | (refine WrapH.is _ (wrap_u64 (by omega) (by omega)) ?_; conv => whnf) | (refine WrapH.is _ wrap_u64m ?_; conv => whnf) | (refine Req.mk (by omega) ?_; conv => whnf) | (refine Req.mk (by dsimp only; omega) ?_; conv => whnf) | (refine Req.mk ⟨rfl, rfl, rfl, by simp [ci_length, *], rfl, by simp [okCell], by dsimp only; omega, by omega, by decide⟩ ?_; conv => whnf) | (refine Req.mk (show pendP _ _ by repeat' constructor) ?_; conv => whnf) | ((with_reducible refine brT ?_ ?_); (next => assumption); (conv => whnf)) | ((with_reducible refine brF ?_ ?_); (next => assumption); (conv => whnf)) | ((with_reducible refine brDT ?_ ?_); (next => omega); (conv => whnf)) | ((with_reducible refine brDF ?_ ?_); (next => omega); (conv => whnf)) | ((with_reducible refine brET ?_ ?_); (next => omega); (conv => whnf)) | ((with_reducible refine brEF ?_ ?_); (next => omega); (conv => whnf)) | ((with_reducible refine brNET ?_ ?_); (next => omega); (conv => whnf)) | ((with_reducible refine brNEF ?_ ?_); (next => omega); (conv => whnf)) | (with_reducible refine brNot ?_))
        refine ldI _ (cs_sub (sz := 2) Pt.c_len hp) ?_
        conv => whnf
        refine DrawH.plan seat_ok (.take 0 (.take 1 (.take 2 (.perform 3 none (.perform 4 (some 5) (.perform 5 (some 6) (.perform 6 none Plan.done))))))) 2 (by kernel_rfl) ?_
        conv => whnf
        repeat' (first | exact ⟨_, keepT_weak (maskOf 26 [4, 5]) _, rfl, _, _, rfl, .inr ⟨by decide, rfl⟩⟩ | (refine CallH.liftP seat_g cm ⟨Mx.closed _, Pt.closed _, trivial⟩ (errA_closed _) ?_; conv => whnf) | (first | (refine WrapH.quo (by omega) (by omega) (by omega) ?_; conv => whnf) | (refine WrapH.quoU (by omega) (by omega) (by omega) ?_; conv => whnf) | (refine NumH.rem (by omega) ?_; conv => whnf) | (refine WrapH.is _ (wrap_i64 (by omega) (by omega)) ?_; conv => whnf) | (refine WrapH.is _ (wrap_u64 (by omega) (by omega)) ?_; conv => whnf) | (refine WrapH.is _ wrap_u64m ?_; conv => whnf) | (refine Req.mk (by omega) ?_; conv => whnf) | (refine Req.mk (by dsimp only; omega) ?_; conv => whnf) | (refine Req.mk ⟨rfl, rfl, rfl, by simp [ci_length, *], rfl, by simp [okCell], by dsimp only; omega, by omega, by decide⟩ ?_; conv => whnf) | (refine Req.mk (show pendP _ _ by repeat' constructor) ?_; conv => whnf) | ((with_reducible refine brT ?_ ?_); (next => assumption); (conv => whnf)) | ((with_reducible refine brF ?_ ?_); (next => assumption); (conv => whnf)) | ((with_reducible refine brDT ?_ ?_); (next => omega); (conv => whnf)) | ((with_reducible refine brDF ?_ ?_); (next => omega); (conv => whnf)) | ((with_reducible refine brET ?_ ?_); (next => omega); (conv => whnf)) | ((with_reducible refine brEF ?_ ?_); (next => omega); (conv => whnf)) | ((with_reducible refine brNET ?_ ?_); (next => omega); (conv => whnf)) | ((with_reducible refine brNEF ?_ ?_); (next => omega); (conv => whnf)) | (with_reducible refine brNot ?_)) | (refine And.intro ?_ ?_ <;> (conv => whnf)))
    · rw [List.take_of_length_le (by omega)] at ha ⊢
      have hi2 : i = l.length := by omega
      subst hi2
      conv => whnf
      repeat' (first | (refine WrapH.quo (by omega) (by omega) (by omega) ?_; conv => whnf) | (refine WrapH.quoU (by omega) (by omega) (by omega) ?_; conv => whnf) | (refine NumH.rem (by omega) ?_; conv => whnf) | (refine WrapH.is _ (wrap_i64 (by omega) (by omega)) ?_; conv => whnf) | (refine WrapH.is _ (wrap_u64 (by omega) (by omega)) ?_; conv => whnf) | (refine WrapH.is _ wrap_u64m ?_; conv => whnf) | (refine Req.mk (by omega) ?_; conv => whnf) | (refine Req.mk (by dsimp only; omega) ?_; conv => whnf) | (refine Req.mk ⟨rfl, rfl, rfl, by simp [ci_length, *], rfl, by simp [okCell], by dsimp only; omega, by omega, by decide⟩ ?_; conv => whnf) | (refine Req.mk (show pendP _ _ by repeat' constructor) ?_; conv => whnf) | ((with_reducible refine brT ?_ ?_); (next => assumption); (conv => whnf)) | ((with_reducible refine brF ?_ ?_); (next => assumption); (conv => whnf)) | ((with_reducible refine brDT ?_ ?_); (next => omega); (conv => whnf)) | ((with_reducible refine brDF ?_ ?_); (next => omega); (conv => whnf)) | ((with_reducible refine brET ?_ ?_); (next => omega); (conv => whnf)) | ((with_reducible refine brEF ?_ ?_); (next => omega); (conv => whnf)) | ((with_reducible refine brNET ?_ ?_); (next => omega); (conv => whnf)) | ((with_reducible refine brNEF ?_ ?_); (next => omega); (conv => whnf)) | (with_reducible refine brNot ?_))
      exact ⟨_, keepT_weak (maskOf 26 [4, 5]) _, rfl, _, _, rfl, .inl ⟨rfl, ha, rfl⟩⟩
  · rintro x _ _ ⟨rfl, v, rest, rfl, ⟨rfl, ha, rfl⟩ | ⟨hne, rfl⟩⟩
    · rw [e0 ha]
      have hw : Weak (.vec (cs Pt.c (l.map m.at')) l.length (some 3)) (plv (l.map m.at')) := by unfold plv; rw [List.length_map]; exact Weak.tok
      conv => whnf
      refine d_allN _ _ _ _ ?_
      conv => whnf
      exact .inl ⟨_, _, rfl, Weak.tup (.cons hw (WeakL.refl _)), rfl⟩
    · rw [e2 hne]
      conv => whnf
      refine d_allE _ v _ _ hne _ ?_
      conv => whnf
      exact .inl ⟨_, _, rfl, Weak.tup (.cons Weak.nils (WeakL.refl _)), rfl⟩
end Go.Proofs.YteiedieeebjklaaDoor
