/- The stack of curves that wait: its cells, push and pop. Conditions: the stack's depth within its bound. -/
import Derived.Test.YtfiekficbbikaaaPieces
import Derived.Test.YtfiekficbbikaaaAbsD
set_option linter.unusedSimpArgs false
set_option linter.unusedVariables false
set_option linter.deprecated false
namespace Go.Proofs.Ytfiekficbbikaaa
open Go.Abs

def partC (x : Cv × Nat) : List AV := [.int .i64 x.1.p.x, .int .i64 x.1.p.y, .int .i64 x.1.q.x, .int .i64 x.1.q.y, .int .i64 x.1.r.x, .int .i64 x.1.r.y, .int .i64 x.1.s.x, .int .i64 x.1.s.y, .int .i64 (20 - x.2)]
theorem partC_closed (x : Cv × Nat) : ClosedL (partC x) := by simp [partC, ClosedL, Closed]
def StackAt (cs : List AV) : List (Cv × Nat) → Prop
  | [] => True
  | x :: l => cutL cs (l.length * 9) 9 = partC x ∧ StackAt cs l
structure StackOK (cs : List AV) (l : List (Cv × Nat)) : Prop where
  len : cs.length = 199
  n : cs[198]? = some (.int .i64 l.length)
  cl : ClosedL cs
  at' : StackAt cs l
theorem closed_splice : ∀ {new cs : List AV} {o : Nat}, ClosedL cs → ClosedL new → ClosedL (splice cs o new)
  | [], cs, o, h, _ => h
  | v :: new, cs, o, h, k => by
    rw [splice]
    refine closed_splice ?_ k.2
    rw [ClosedL_iff]
    intro c hc
    rcases List.mem_or_eq_of_mem_set hc with hc | rfl
    · exact ClosedL_iff.1 h c hc
    · exact k.1
theorem StackAt.off {cs new : List AV} {o : Nat} (h : o + new.length ≤ cs.length) : ∀ {l : List (Cv × Nat)}, l.length * 9 ≤ o → StackAt cs l → StackAt (splice cs o new) l
  | [], _, _ => trivial
  | x :: l, hl, hs => by
    simp only [List.length_cons] at hl
    exact ⟨by rw [cutL_off h (.inl (by omega))]; exact hs.1, StackAt.off h (by omega) hs.2⟩
theorem StackOK.push {cs : List AV} {l : List (Cv × Nat)} (h : StackOK cs l) (hl : l.length ≤ 21) (x : Cv × Nat) (m : Int) (hm : m = l.length + 1) : StackOK (splice (splice cs (l.length * 9) (partC x)) 198 [.int .i64 m]) (x :: l) := by
  have hp : (partC x).length = 9 := rfl
  have h1 : l.length * 9 + (partC x).length ≤ cs.length := by rw [h.len, hp]; omega
  have h2 : 198 + ([.int .i64 m] : List AV).length ≤ (splice cs (l.length * 9) (partC x)).length := by rw [splice_length, h.len]; simp
  refine ⟨by rw [splice_length, splice_length, h.len], ?_, closed_splice (closed_splice h.cl (partC_closed x)) (by simp [ClosedL, Closed]), ?_, ?_⟩
  · rw [splice_get _ _ _ _ h2, if_neg (by omega), if_pos (by simp)]
    subst hm; simp
  · rw [cutL_off h2 (.inl (by omega))]; exact cutL_on h1
  · exact StackAt.off h2 (by omega) (StackAt.off h1 (Nat.le_refl _) h.at')
theorem StackOK.pop {cs : List AV} {x : Cv × Nat} {l : List (Cv × Nat)} (h : StackOK cs (x :: l)) (hl : l.length ≤ 21) (m : Int) (hm : m = l.length) : StackOK (splice cs 198 [.int .i64 m]) l ∧ cutL (splice cs 198 [.int .i64 m]) (l.length * 9) 9 = partC x := by
  have h2 : 198 + ([.int .i64 m] : List AV).length ≤ cs.length := by rw [h.len]; simp
  refine ⟨⟨by rw [splice_length, h.len], ?_, closed_splice h.cl (by simp [ClosedL, Closed]), StackAt.off h2 (by omega) h.at'.2⟩, ?_⟩
  · rw [splice_get _ _ _ _ h2, if_neg (by omega), if_pos (by simp)]
    subst hm; simp
  · rw [cutL_off h2 (.inl (by omega))]; exact h.at'.1
set_option maxRecDepth 20000 in
theorem c_pop (cs : List AV) (x : Cv × Nat) (l : List (Cv × Nat)) (h : StackOK cs (x :: l)) (hl : l.length ≤ 21) :
    ACalls seat 23 [.ptr 0 0] [.var cs 51] (fun r h' => r = .ret (.agg (partC x)) ∧ h' = [.var (splice cs 198 [.int .i64 l.length]) 51]) := by
  refine ACalls.take seat_g 1 (by simp) (Closed.ids _ (by simp [Closed, partC_closed])) ⟨ClosedL.ids _ (closed_splice h.cl (by simp [ClosedL, Closed])), trivial⟩ ?_
  refine ACalls.body seat_ok Try.func23 rfl rfl ?_
  have hn := h.n
  rw [List.length_cons] at hn
  obtain ⟨h1, h2⟩ := h.pop hl l.length rfl
  have hlen := h.len
  conv => whnf
  refine ldI _ (show partK false cs 198 1 = _ from part_one hn) ?_
  conv => whnf
  refine WrapH.is l.length (wrap_i64 (by omega) (by omega) |>.trans (by omega)) ?_
  conv => whnf
  generalize hcs : splice cs 198 [.int .i64 l.length] = cs' at h1 h2
  have hn' := h1.n
  have hlen' := h1.len
  refine storeK.mk cs' hcs rfl (by rw [hlen]; exact (by decide : 199 ≤ 199)) rfl ?_
  conv => whnf
  refine DrawH.plan seat_ok (.take 0 (.take 1 (.take 2 (.take 3 (.take 4 (.take 5 (.take 6 (.take 7 (.take 8 (.perform 9 none Plan.done)))))))))) 0 (by kernel_rfl) ?_
  conv => whnf
  repeat' (first | exact ⟨rfl, rfl⟩ | (refine ldI _ (show partK false cs' 198 1 = _ from part_one hn') ?_; conv => whnf) | (refine ldI (.agg (partC x)) (part_agg (show cutL cs' _ _ = _ from ?_) ?_) ?_; (next => simpa using h2); (next => rw [hlen']; simp; omega); (conv => whnf)) | (first | (refine WrapH.quo (by omega) (by omega) (by omega) ?_; conv => whnf) | (refine NumH.rem (by omega) ?_; conv => whnf) | (refine WrapH.is _ (wrap_i64 (by omega) (by omega)) ?_; conv => whnf) | (refine WrapH.is _ (wrap_u64 (by omega) (by omega)) ?_; conv => whnf) | (refine WrapH.is _ wrap_u64m ?_; conv => whnf) | (refine Req.mk (by omega) ?_; conv => whnf) | (refine Req.mk (by dsimp only; omega) ?_; conv => whnf) | (refine Req.mk ⟨rfl, rfl, rfl, by simp [ci_length, *], rfl, by simp [okCell], by dsimp only; omega, by omega, by decide⟩ ?_; conv => whnf) | (refine Req.mk (show pendP _ _ by repeat' constructor) ?_; conv => whnf) | ((with_reducible refine brT ?_ ?_); (next => assumption); (conv => whnf)) | ((with_reducible refine brF ?_ ?_); (next => assumption); (conv => whnf)) | ((with_reducible refine brDT ?_ ?_); (next => omega); (conv => whnf)) | ((with_reducible refine brDF ?_ ?_); (next => omega); (conv => whnf)) | ((with_reducible refine brET ?_ ?_); (next => omega); (conv => whnf)) | ((with_reducible refine brEF ?_ ?_); (next => omega); (conv => whnf)) | ((with_reducible refine brNET ?_ ?_); (next => omega); (conv => whnf)) | ((with_reducible refine brNEF ?_ ?_); (next => omega); (conv => whnf)) | (with_reducible refine brNot ?_)) | (refine ⟨?_, ?_⟩ <;> (conv => whnf)))
set_option maxRecDepth 20000 in
theorem c_push (cs : List AV) (c : Cv) (k : Int) (m : Nat) (l : List (Cv × Nat)) (h : StackOK cs l) (hl : l.length ≤ 21) (hk : k = 20 - m) :
    ACalls seat 22 [.ptr 0 0, c.a, .int .i64 k] [.var cs 51] (fun r h' => r = .ret (.tup []) ∧ h' = [.var (splice (splice cs (l.length * 9) (partC (c, m))) 198 [.int .i64 (l.length + 1)]) 51]) := by
  refine ACalls.take seat_g 1 (by simp) (Closed.ids _ (by simp [Closed, ClosedL])) ⟨ClosedL.ids _ (closed_splice (closed_splice h.cl (partC_closed _)) (by simp [ClosedL, Closed])), trivial⟩ ?_
  refine ACalls.body seat_ok Try.func22 rfl rfl ?_
  have hn := h.n
  have hlen := h.len
  have hp : (partC (c, m)).length = 9 := rfl
  have hpc : partC (c, m) = c.c ++ [.int .i64 k] := by rw [hk]; rfl
  have hlen1 : (splice cs (l.length * 9) (partC (c, m))).length = 199 := by rw [splice_length, hlen]
  have hn1 : (splice cs (l.length * 9) (partC (c, m)))[198]? = some (.int .i64 l.length) := by
    rw [splice_get _ _ _ _ (by rw [hp, hlen]; omega), if_neg (by omega), if_neg (by rw [hp]; omega)]; exact hn
  generalize hcs : splice cs (l.length * 9) (partC (c, m)) = cs1 at *
  rw [hpc] at hcs
  conv => whnf
  refine DrawH.plan seat_ok (.take 0 (.take 1 (.take 2 (.take 3 (.take 4 (.take 5 (.take 6 (.take 7 (.take 8 (.take 9 (.take 10 (.perform 11 none Plan.done)))))))))))) 0 (by kernel_rfl) ?_
  conv => whnf
  repeat' (first | exact ⟨rfl, rfl⟩ | (refine ldI _ (show partK false cs 198 1 = _ from part_one hn) ?_; conv => whnf) | (refine ldI _ (show partK false cs1 198 1 = _ from part_one hn1) ?_; conv => whnf) | (first | (refine WrapH.quo (by omega) (by omega) (by omega) ?_; conv => whnf) | (refine NumH.rem (by omega) ?_; conv => whnf) | (refine WrapH.is _ (wrap_i64 (by omega) (by omega)) ?_; conv => whnf) | (refine WrapH.is _ (wrap_u64 (by omega) (by omega)) ?_; conv => whnf) | (refine WrapH.is _ wrap_u64m ?_; conv => whnf) | (refine Req.mk (by omega) ?_; conv => whnf) | (refine Req.mk (by dsimp only; omega) ?_; conv => whnf) | (refine Req.mk ⟨rfl, rfl, rfl, by simp [ci_length, *], rfl, by simp [okCell], by dsimp only; omega, by omega, by decide⟩ ?_; conv => whnf) | (refine Req.mk (show pendP _ _ by repeat' constructor) ?_; conv => whnf) | ((with_reducible refine brT ?_ ?_); (next => assumption); (conv => whnf)) | ((with_reducible refine brF ?_ ?_); (next => assumption); (conv => whnf)) | ((with_reducible refine brDT ?_ ?_); (next => omega); (conv => whnf)) | ((with_reducible refine brDF ?_ ?_); (next => omega); (conv => whnf)) | ((with_reducible refine brET ?_ ?_); (next => omega); (conv => whnf)) | ((with_reducible refine brEF ?_ ?_); (next => omega); (conv => whnf)) | ((with_reducible refine brNET ?_ ?_); (next => omega); (conv => whnf)) | ((with_reducible refine brNEF ?_ ?_); (next => omega); (conv => whnf)) | (with_reducible refine brNot ?_)))
  refine storeK.mk cs1 (Eq.trans ?_ hcs) rfl ?_ rfl ?_
  · simp [cellsOf, Cv.c, ofCells, ofCell]
  · rw [hlen]; simp [cellsOf, ofCells]; omega
  conv => whnf
  repeat' (first | exact ⟨rfl, rfl⟩ | (refine ldI _ (show partK false cs 198 1 = _ from part_one hn) ?_; conv => whnf) | (refine ldI _ (show partK false cs1 198 1 = _ from part_one hn1) ?_; conv => whnf) | (first | (refine WrapH.quo (by omega) (by omega) (by omega) ?_; conv => whnf) | (refine NumH.rem (by omega) ?_; conv => whnf) | (refine WrapH.is _ (wrap_i64 (by omega) (by omega)) ?_; conv => whnf) | (refine WrapH.is _ (wrap_u64 (by omega) (by omega)) ?_; conv => whnf) | (refine WrapH.is _ wrap_u64m ?_; conv => whnf) | (refine Req.mk (by omega) ?_; conv => whnf) | (refine Req.mk (by dsimp only; omega) ?_; conv => whnf) | (refine Req.mk ⟨rfl, rfl, rfl, by simp [ci_length, *], rfl, by simp [okCell], by dsimp only; omega, by omega, by decide⟩ ?_; conv => whnf) | (refine Req.mk (show pendP _ _ by repeat' constructor) ?_; conv => whnf) | ((with_reducible refine brT ?_ ?_); (next => assumption); (conv => whnf)) | ((with_reducible refine brF ?_ ?_); (next => assumption); (conv => whnf)) | ((with_reducible refine brDT ?_ ?_); (next => omega); (conv => whnf)) | ((with_reducible refine brDF ?_ ?_); (next => omega); (conv => whnf)) | ((with_reducible refine brET ?_ ?_); (next => omega); (conv => whnf)) | ((with_reducible refine brEF ?_ ?_); (next => omega); (conv => whnf)) | ((with_reducible refine brNET ?_ ?_); (next => omega); (conv => whnf)) | ((with_reducible refine brNEF ?_ ?_); (next => omega); (conv => whnf)) | (with_reducible refine brNot ?_)) | (refine storeK.mk _ rfl rfl ?_ rfl ?_; (next => rw [hlen1]; exact (by decide : 199 ≤ 199)); (conv => whnf)) | (refine ⟨?_, ?_⟩ <;> (conv => whnf)))


theorem c_push' (cs : List AV) (c : Cv) (k : Int) (m : Nat) (l : List (Cv × Nat)) (h : StackOK cs l) (hl : l.length ≤ 21) (hk : k = 20 - m) : ∃ cs', StackOK cs' ((c, m) :: l) ∧
    ACalls seat 22 [.ptr 0 0, c.a, .int .i64 k] [.var cs 51] (fun r h' => r = .ret (.tup []) ∧ h' = [.var cs' 51]) :=
  ⟨_, h.push hl (c, m) _ rfl, c_push cs c k m l h hl hk⟩
theorem c_pop' (cs : List AV) (x : Cv × Nat) (l : List (Cv × Nat)) (h : StackOK cs (x :: l)) (hl : l.length ≤ 21) : ∃ cs', StackOK cs' l ∧
    ACalls seat 23 [.ptr 0 0] [.var cs 51] (fun r h' => r = .ret (.agg (partC x)) ∧ h' = [.var cs' 51]) :=
  ⟨_, (h.pop hl _ rfl).1, c_pop cs x l h hl⟩
end Go.Proofs.Ytfiekficbbikaaa
