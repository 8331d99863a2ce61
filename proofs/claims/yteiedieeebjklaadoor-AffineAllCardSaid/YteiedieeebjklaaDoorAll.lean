/- Many points: the program's and the document's. Conditions: not too many. -/
import Derived.Test.YteiedieeebjklaaDoorLaw08a
import Derived.Test.YteiedieeebjklaaDoorAbsD
set_option linter.unusedSimpArgs false
set_option linter.unusedVariables false
set_option linter.deprecated false
namespace Go.Proofs.YteiedieeebjklaaDoor
open Go.Abs
/-- the first error, by its number -/
def allE (m : Mx) : List Pt → Int
  | [] => 0
  | p :: l => if ptOK p then (if ptOK (m.at' p) then allE m l else 2) else 1
def allOut (m : Mx) (l : List Pt) : List Pt := if m.ok ∧ allE m l = 0 then l.map m.at' else []
def allCode (m : Mx) (l : List Pt) : Int := if m.ok then allE m l else 1
theorem allE_app {m : Mx} : ∀ {a b : List Pt}, allE m a = 0 → allE m (a ++ b) = allE m b
  | [], b, _ => rfl
  | p :: a, b, h => by
    unfold allE at h
    split at h
    · split at h
      · simp only [List.cons_append, allE]; rw [if_pos (by assumption), if_pos (by assumption)]; exact allE_app h
      · cases h
    · cases h
theorem allE_take {m : Mx} {l : List Pt} {i : Nat} {p : Pt} (hp : l[i]? = some p) (h : allE m (l.take i) = 0) : allE m l = allE m (p :: l.drop (i + 1)) := by
  have : l = l.take i ++ (p :: l.drop (i + 1)) := by rw [← drop_cons' hp, List.take_append_drop]
  conv => lhs; rw [this]
  exact allE_app h
theorem take_succ' {α : Type} {l : List α} {i : Nat} {p : α} (hp : l[i]? = some p) : l.take (i + 1) = l.take i ++ [p] := by
  have hlt := (List.getElem?_eq_some_iff.1 hp).1
  rw [List.take_succ_eq_append_getElem hlt]
  congr 2
  exact (List.getElem?_eq_some_iff.1 hp).2
theorem allE_succ {m : Mx} {l : List Pt} {i : Nat} {p : Pt} (hp : l[i]? = some p) (h : allE m (l.take i) = 0) (h1 : ptOK p) (h2 : ptOK (m.at' p)) : allE m (l.take (i + 1)) = 0 := by
  rw [take_succ' hp, allE_app h]; simp [allE, h1, h2]
theorem ptcs_closed (l : List Pt) : ClosedL (cs Pt.c l) := cs_closed (fun p => by simp [Pt.c, ClosedL, Closed]) l
theorem ptcs_ids' {p : Nat → Prop} (l : List Pt) : IdsL p (cs Pt.c l) := ClosedL.ids _ (ptcs_closed l)
set_option maxRecDepth 20000 in
theorem d_allE (a : Chunk) (v : AV) (rest : Heap) (k : Int) (hk : k ≠ 0) (K : Option AV → Heap → Prop) (h : K none (a :: .var [.nils] 38 :: .var [.int .i64 k] 27 :: rest)) :
    DCallH seat 24 [.ptr 2 0, .ptr 1 0] (a :: .var [v] 38 :: .var [.int .i64 0] 27 :: rest) (some (errA k)) K := by
  refine ⟨DCalls.recover seat_ok Tryd.func24 rfl (fun _ _ => rfl) rfl rfl rfl rfl rfl Tryd.func20 rfl rfl rfl rfl ?_⟩
  rintro v0 (⟨h, -⟩ | h)
  · cases h
  cases h
  conv => whnf
  refine CallH.mem1 seat_g 2 (c_caughtE 0 k) rfl (by simp [Closed, ClosedL]) (by simp [Closed, ClosedL]) (by simp [Closed, ClosedL]) rfl ?_
  conv => whnf
  refine ⟨rfl, ?_⟩
  conv => whnf
  repeat' (first | (refine WrapH.quo (by omega) (by omega) (by omega) ?_; conv => whnf) | (refine WrapH.quoU (by omega) (by omega) (by omega) ?_; conv => whnf) | (refine NumH.rem (by omega) ?_; conv => whnf) | (refine WrapH.is _ (wrap_i64 (by omega) (by omega)) ?_; conv => whnf) | (refine WrapH.is _ (wrap_u64 (by omega) (by omega)) ?_; conv => whnf) | (refine WrapH.is _ wrap_u64m ?_; conv => whnf) | (refine Req.mk (by omega) ?_; conv => whnf) | (refine Req.mk (by dsimp only; omega) ?_; conv => whnf) | (refine Req.mk ⟨rfl, rfl, rfl, by simp [ci_length, *], rfl, by simp [okCell], by dsimp only; omega, by omega, by decide⟩ ?_; conv => whnf) | (refine Req.mk (show pendP _ _ by repeat' constructor) ?_; conv => whnf) | ((with_reducible refine brT ?_ ?_); (next => assumption); (conv => whnf)) | ((with_reducible refine brF ?_ ?_); (next => assumption); (conv => whnf)) | ((with_reducible refine brDT ?_ ?_); (next => omega); (conv => whnf)) | ((with_reducible refine brDF ?_ ?_); (next => omega); (conv => whnf)) | ((with_reducible refine brET ?_ ?_); (next => omega); (conv => whnf)) | ((with_reducible refine brEF ?_ ?_); (next => omega); (conv => whnf)) | ((with_reducible refine brNET ?_ ?_); (next => omega); (conv => whnf)) | ((with_reducible refine brNEF ?_ ?_); (next => omega); (conv => whnf)) | (with_reducible refine brNot ?_))
  exact ⟨.inl rfl, h⟩
theorem d_allN (a : Chunk) (v : AV) (rest : Heap) (K : Option AV → Heap → Prop) (h : K none (a :: .var [v] 38 :: .var [.int .i64 0] 27 :: rest)) :
    DCallH seat 24 [.ptr 2 0, .ptr 1 0] (a :: .var [v] 38 :: .var [.int .i64 0] 27 :: rest) none K := by
  refine ⟨DCalls.recover seat_ok Tryd.func24 rfl (fun _ _ => rfl) rfl rfl rfl rfl rfl Tryd.func20 rfl rfl rfl rfl ?_⟩
  rintro v0 (⟨-, rfl⟩ | h)
  rotate_left
  · cases h
  conv => whnf
  refine CallH.mem1 seat_g 2 (c_caughtN 0) rfl (by simp [Closed, ClosedL]) (by simp [Closed, ClosedL]) (by simp [Closed, ClosedL]) rfl ?_
  conv => whnf
  refine ⟨rfl, ?_⟩
  conv => whnf
  exact ⟨.inl rfl, h⟩
end Go.Proofs.YteiedieeebjklaaDoor
