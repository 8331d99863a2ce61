/- The document's chords of pieces. Conditions: not too many. -/
import Derived.Test.YtfiekficbbikaaaRef
set_option linter.unusedSimpArgs false
set_option linter.unusedVariables false
set_option linter.deprecated false
namespace Go.Proofs.Ytfiekficbbikaaa
open Go.Abs
def refCh (L : List Cv) : List Ed := L.flatMap fun x => if x.p = x.s then [] else [⟨x.p, x.s⟩]
theorem refCh_len : ∀ L, (refCh L).length ≤ L.length
  | [] => by simp [refCh]
  | x :: L => by
    have := refCh_len L
    have e : refCh (x :: L) = (if x.p = x.s then [] else [⟨x.p, x.s⟩]) ++ refCh L := by simp [refCh]
    rw [e, List.length_append, List.length_cons]
    split
    · rw [List.length_nil]; omega
    · rw [List.length_singleton]; omega
theorem refCh_succ {L : List Cv} {i : Nat} {x : Cv} (h : L[i]? = some x) : refCh (L.take (i + 1)) = refCh (L.take i) ++ (if x.p = x.s then [] else [⟨x.p, x.s⟩]) := by
  have hlt := (List.getElem?_eq_some_iff.1 h).1
  have : L.take (i + 1) = L.take i ++ [x] := by
    rw [List.take_succ_eq_append_getElem hlt]
    congr 2
    exact (List.getElem?_eq_some_iff.1 h).2
  rw [this]; simp [refCh]
set_option maxRecDepth 20000 in
theorem c_refch (L : List Cv) (hl : L.length ≤ 1000000) : ACalls seat 20 [cvl L] [] (fun x _ => x = .ret (elv (refCh L))) := by
  refine ACalls.body seat_ok Try.func20 rfl rfl ?_
  conv => whnf
  refine Sat.nilTok 3 66 4 rfl ?_
  refine Sat.cut (fun x t h => x = .exit 0 ∧ t = (AV.undef :: AV.undef :: AV.undef :: elv (refCh L) :: AV.undef :: AV.undef :: AV.undef :: AV.undef :: AV.undef :: AV.undef :: AV.undef :: AV.undef :: AV.undef :: AV.undef :: AV.undef :: AV.undef :: AV.undef :: AV.undef :: AV.undef :: AV.undef :: AV.undef :: AV.undef :: AV.undef :: AV.undef :: AV.undef :: AV.undef :: AV.undef :: AV.undef :: AV.undef :: AV.undef :: AV.undef :: AV.undef :: AV.undef :: AV.undef :: AV.undef :: AV.undef :: AV.undef :: [])) ?_ ?_
  · refine Sat.invP seat_ok seat_g (maskOf 37 [0, 3, 4]) 1 (fun μ t h => ∃ (i : Nat), i ≤ L.length ∧ μ = L.length - i ∧
      t = (cvl L :: AV.undef :: AV.undef :: .vec (cs Ed.c (refCh (L.take i))) (refCh (L.take i)).length (some 0) :: .int .i64 i :: AV.undef :: AV.undef :: AV.undef :: AV.undef :: AV.undef :: AV.undef :: AV.undef :: AV.undef :: AV.undef :: AV.undef :: AV.undef :: AV.undef :: AV.undef :: AV.undef :: AV.undef :: AV.undef :: AV.undef :: AV.undef :: AV.undef :: AV.undef :: AV.undef :: AV.undef :: AV.undef :: AV.undef :: AV.undef :: AV.undef :: AV.undef :: AV.undef :: AV.undef :: AV.undef :: AV.undef :: AV.undef :: []) ∧ h = [.tok (refCh (L.take i)).length 66 4]) ?_ ⟨_, _, WeakL.of_eq rfl, 0, by omega, rfl, rfl, rfl⟩ ?_
    · rintro _ _ _ ⟨i, -, rfl, rfl, rfl⟩
      exact ⟨rfl, by simp [IdsL, Ids, edcs_ids, Closed.ids _ (cvl_closed L)], by simp [IdsH, IdsC]⟩
    rintro _ _ _ ⟨i, hi, rfl, rfl, rfl⟩
    by_cases g : i < L.length
    · obtain ⟨x, hx⟩ : ∃ x, L[i]? = some x := ⟨_, List.getElem?_eq_getElem g⟩
      have hs := refCh_succ hx
      have hle : (refCh (L.take i)).length ≤ 1000000 := by
        have := refCh_len (L.take i); rw [List.length_take] at this; omega
      by_cases g2 : x.p = x.s
      · have hb : (x.p.x == x.s.x && (x.p.y == x.s.y && true)) = true := by simp [g2]
        rw [if_pos g2, List.append_nil] at hs
        generalize refCh (L.take i) = A at *
        conv => whnf
        repeat' (first | (refine WrapH.quo (by omega) (by omega) (by omega) ?_; conv => whnf) | (refine NumH.rem (by omega) ?_; conv => whnf) | (refine WrapH.is _ (wrap_i64 (by omega) (by omega)) ?_; conv => whnf) | (refine WrapH.is _ (wrap_u64 (by omega) (by omega)) ?_; conv => whnf) | (refine WrapH.is _ wrap_u64m ?_; conv => whnf) | (refine Req.mk (by omega) ?_; conv => whnf) | (refine Req.mk (by dsimp only; omega) ?_; conv => whnf) | (refine Req.mk ⟨rfl, rfl, rfl, by simp [ci_length, *], rfl, by simp [okCell], by dsimp only; omega, by omega, by decide⟩ ?_; conv => whnf) | (refine Req.mk (show pendP _ _ by repeat' constructor) ?_; conv => whnf) | ((with_reducible refine brT ?_ ?_); (next => assumption); (conv => whnf)) | ((with_reducible refine brF ?_ ?_); (next => assumption); (conv => whnf)) | ((with_reducible refine brDT ?_ ?_); (next => omega); (conv => whnf)) | ((with_reducible refine brDF ?_ ?_); (next => omega); (conv => whnf)) | ((with_reducible refine brET ?_ ?_); (next => omega); (conv => whnf)) | ((with_reducible refine brEF ?_ ?_); (next => omega); (conv => whnf)) | ((with_reducible refine brNET ?_ ?_); (next => omega); (conv => whnf)) | ((with_reducible refine brNEF ?_ ?_); (next => omega); (conv => whnf)) | (with_reducible refine brNot ?_))
        refine DrawH.plan seat_ok (.take 0 (.take 1 (.take 2 (.take 3 (.take 4 (.take 5 (.take 6 (.take 7 (.take 8 (.take 9 (.take 10 Plan.done))))))))))) 0 (by kernel_rfl) ?_
        conv => whnf
        repeat' (first | exact ⟨_, _, Nat.sub_lt_sub_left g (Nat.lt_succ_self i), WeakL.of_eq rfl, i + 1, by omega, rfl, by rw [hs]; rfl, by rw [hs]; rfl⟩ | (refine ldI _ (cs_sub (sz := 8) Cv.c_len hx) ?_; conv => whnf) | (refine brNot (brT hb ?_); conv => whnf) | (first | (refine WrapH.quo (by omega) (by omega) (by omega) ?_; conv => whnf) | (refine NumH.rem (by omega) ?_; conv => whnf) | (refine WrapH.is _ (wrap_i64 (by omega) (by omega)) ?_; conv => whnf) | (refine WrapH.is _ (wrap_u64 (by omega) (by omega)) ?_; conv => whnf) | (refine WrapH.is _ wrap_u64m ?_; conv => whnf) | (refine Req.mk (by omega) ?_; conv => whnf) | (refine Req.mk (by dsimp only; omega) ?_; conv => whnf) | (refine Req.mk ⟨rfl, rfl, rfl, by simp [ci_length, *], rfl, by simp [okCell], by dsimp only; omega, by omega, by decide⟩ ?_; conv => whnf) | (refine Req.mk (show pendP _ _ by repeat' constructor) ?_; conv => whnf) | ((with_reducible refine brT ?_ ?_); (next => assumption); (conv => whnf)) | ((with_reducible refine brF ?_ ?_); (next => assumption); (conv => whnf)) | ((with_reducible refine brDT ?_ ?_); (next => omega); (conv => whnf)) | ((with_reducible refine brDF ?_ ?_); (next => omega); (conv => whnf)) | ((with_reducible refine brET ?_ ?_); (next => omega); (conv => whnf)) | ((with_reducible refine brEF ?_ ?_); (next => omega); (conv => whnf)) | ((with_reducible refine brNET ?_ ?_); (next => omega); (conv => whnf)) | ((with_reducible refine brNEF ?_ ?_); (next => omega); (conv => whnf)) | (with_reducible refine brNot ?_)) | (refine ⟨?_, ?_⟩ <;> (conv => whnf)))
      · have hb : (x.p.x == x.s.x && (x.p.y == x.s.y && true)) = false := by
          apply Bool.eq_false_iff.2; intro h; apply g2
          simp at h; cases hp : x.p; cases hs : x.s; simp [hp, hs] at h ⊢; exact h
        rw [if_neg g2] at hs
        generalize refCh (L.take i) = A at *
        have hlen := cs_length Ed.c_len A
        conv => whnf
        repeat' (first | (refine WrapH.quo (by omega) (by omega) (by omega) ?_; conv => whnf) | (refine NumH.rem (by omega) ?_; conv => whnf) | (refine WrapH.is _ (wrap_i64 (by omega) (by omega)) ?_; conv => whnf) | (refine WrapH.is _ (wrap_u64 (by omega) (by omega)) ?_; conv => whnf) | (refine WrapH.is _ wrap_u64m ?_; conv => whnf) | (refine Req.mk (by omega) ?_; conv => whnf) | (refine Req.mk (by dsimp only; omega) ?_; conv => whnf) | (refine Req.mk ⟨rfl, rfl, rfl, by simp [ci_length, *], rfl, by simp [okCell], by dsimp only; omega, by omega, by decide⟩ ?_; conv => whnf) | (refine Req.mk (show pendP _ _ by repeat' constructor) ?_; conv => whnf) | ((with_reducible refine brT ?_ ?_); (next => assumption); (conv => whnf)) | ((with_reducible refine brF ?_ ?_); (next => assumption); (conv => whnf)) | ((with_reducible refine brDT ?_ ?_); (next => omega); (conv => whnf)) | ((with_reducible refine brDF ?_ ?_); (next => omega); (conv => whnf)) | ((with_reducible refine brET ?_ ?_); (next => omega); (conv => whnf)) | ((with_reducible refine brEF ?_ ?_); (next => omega); (conv => whnf)) | ((with_reducible refine brNET ?_ ?_); (next => omega); (conv => whnf)) | ((with_reducible refine brNEF ?_ ?_); (next => omega); (conv => whnf)) | (with_reducible refine brNot ?_))
        refine DrawH.plan seat_ok (.take 0 (.take 1 (.take 2 (.take 3 (.take 4 (.take 5 (.take 6 (.take 7 (.take 8 (.take 9 (.take 10 Plan.done))))))))))) 0 (by kernel_rfl) ?_
        conv => whnf
        repeat' (first | (refine ldI _ (cs_sub (sz := 8) Cv.c_len hx) ?_; conv => whnf) | (refine brNot (brF hb ?_); conv => whnf) | (first | (refine WrapH.quo (by omega) (by omega) (by omega) ?_; conv => whnf) | (refine NumH.rem (by omega) ?_; conv => whnf) | (refine WrapH.is _ (wrap_i64 (by omega) (by omega)) ?_; conv => whnf) | (refine WrapH.is _ (wrap_u64 (by omega) (by omega)) ?_; conv => whnf) | (refine WrapH.is _ wrap_u64m ?_; conv => whnf) | (refine Req.mk (by omega) ?_; conv => whnf) | (refine Req.mk (by dsimp only; omega) ?_; conv => whnf) | (refine Req.mk ⟨rfl, rfl, rfl, by simp [ci_length, *], rfl, by simp [okCell], by dsimp only; omega, by omega, by decide⟩ ?_; conv => whnf) | (refine Req.mk (show pendP _ _ by repeat' constructor) ?_; conv => whnf) | ((with_reducible refine brT ?_ ?_); (next => assumption); (conv => whnf)) | ((with_reducible refine brF ?_ ?_); (next => assumption); (conv => whnf)) | ((with_reducible refine brDT ?_ ?_); (next => omega); (conv => whnf)) | ((with_reducible refine brDF ?_ ?_); (next => omega); (conv => whnf)) | ((with_reducible refine brET ?_ ?_); (next => omega); (conv => whnf)) | ((with_reducible refine brEF ?_ ?_); (next => omega); (conv => whnf)) | ((with_reducible refine brNET ?_ ?_); (next => omega); (conv => whnf)) | ((with_reducible refine brNEF ?_ ?_); (next => omega); (conv => whnf)) | (with_reducible refine brNot ?_)))
        refine DrawH.plan seat_ok (.take 0 (.take 1 (.take 2 (.take 3 (.take 4 (.take 5 (.take 6 (.take 7 (.take 8 (.take 9 (.take 10 (.take 11 (.perform 12 (some 1) (.perform 13 (some 2) (.take 14 Plan.done))))))))))))))) 2 (by kernel_rfl) ?_
        conv => whnf
        repeat' (first | exact ⟨_, _, Nat.sub_lt_sub_left g (Nat.lt_succ_self i), WeakL.of_eq rfl, i + 1, by omega, rfl, by rw [hs, ← cs_append, List.length_append]; rfl, by rw [hs, List.length_append]; rfl⟩ | (refine ldI _ (cs_sub (sz := 8) Cv.c_len hx) ?_; conv => whnf) | (refine Req.mk ⟨rfl, rfl, rfl, hlen, rfl, by simp [okCell], by dsimp only; omega, by dsimp only; omega, by decide⟩ ?_; conv => whnf) | (first | (refine WrapH.quo (by omega) (by omega) (by omega) ?_; conv => whnf) | (refine NumH.rem (by omega) ?_; conv => whnf) | (refine WrapH.is _ (wrap_i64 (by omega) (by omega)) ?_; conv => whnf) | (refine WrapH.is _ (wrap_u64 (by omega) (by omega)) ?_; conv => whnf) | (refine WrapH.is _ wrap_u64m ?_; conv => whnf) | (refine Req.mk (by omega) ?_; conv => whnf) | (refine Req.mk (by dsimp only; omega) ?_; conv => whnf) | (refine Req.mk ⟨rfl, rfl, rfl, by simp [ci_length, *], rfl, by simp [okCell], by dsimp only; omega, by omega, by decide⟩ ?_; conv => whnf) | (refine Req.mk (show pendP _ _ by repeat' constructor) ?_; conv => whnf) | ((with_reducible refine brT ?_ ?_); (next => assumption); (conv => whnf)) | ((with_reducible refine brF ?_ ?_); (next => assumption); (conv => whnf)) | ((with_reducible refine brDT ?_ ?_); (next => omega); (conv => whnf)) | ((with_reducible refine brDF ?_ ?_); (next => omega); (conv => whnf)) | ((with_reducible refine brET ?_ ?_); (next => omega); (conv => whnf)) | ((with_reducible refine brEF ?_ ?_); (next => omega); (conv => whnf)) | ((with_reducible refine brNET ?_ ?_); (next => omega); (conv => whnf)) | ((with_reducible refine brNEF ?_ ?_); (next => omega); (conv => whnf)) | (with_reducible refine brNot ?_)) | (refine ⟨?_, ?_⟩ <;> (conv => whnf)))
    · rw [List.take_of_length_le (by omega)]
      conv => whnf
      repeat' (first | (refine WrapH.quo (by omega) (by omega) (by omega) ?_; conv => whnf) | (refine NumH.rem (by omega) ?_; conv => whnf) | (refine WrapH.is _ (wrap_i64 (by omega) (by omega)) ?_; conv => whnf) | (refine WrapH.is _ (wrap_u64 (by omega) (by omega)) ?_; conv => whnf) | (refine WrapH.is _ wrap_u64m ?_; conv => whnf) | (refine Req.mk (by omega) ?_; conv => whnf) | (refine Req.mk (by dsimp only; omega) ?_; conv => whnf) | (refine Req.mk ⟨rfl, rfl, rfl, by simp [ci_length, *], rfl, by simp [okCell], by dsimp only; omega, by omega, by decide⟩ ?_; conv => whnf) | (refine Req.mk (show pendP _ _ by repeat' constructor) ?_; conv => whnf) | ((with_reducible refine brT ?_ ?_); (next => assumption); (conv => whnf)) | ((with_reducible refine brF ?_ ?_); (next => assumption); (conv => whnf)) | ((with_reducible refine brDT ?_ ?_); (next => omega); (conv => whnf)) | ((with_reducible refine brDF ?_ ?_); (next => omega); (conv => whnf)) | ((with_reducible refine brET ?_ ?_); (next => omega); (conv => whnf)) | ((with_reducible refine brEF ?_ ?_); (next => omega); (conv => whnf)) | ((with_reducible refine brNET ?_ ?_); (next => omega); (conv => whnf)) | ((with_reducible refine brNEF ?_ ?_); (next => omega); (conv => whnf)) | (with_reducible refine brNot ?_))
      exact ⟨_, WeakL.trans (keepT_weak (maskOf 37 [3]) _) (WeakL.setAt 3 rfl Weak.tok), rfl, rfl⟩
  · rintro _ _ _ ⟨rfl, rfl⟩
    conv => whnf
    rfl
end Go.Proofs.Ytfiekficbbikaaa
