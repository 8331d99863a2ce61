/- What is told of a curve, taken into a list. Conditions: the curve's numbers within the bound, so many at most. -/
import Derived.Test.YtfiekficbbikaaaIter
import Derived.Test.YtfiekficbbikaaaAbsD
set_option linter.unusedSimpArgs false
set_option linter.unusedVariables false
set_option linter.deprecated false
namespace Go.Proofs.Ytfiekficbbikaaa
open Go.Abs

def cvl (L : List Cv) : AV := .vec (cs Cv.c L) L.length none
theorem Cv.c_len (c : Cv) : c.c.length = 8 := rfl
theorem cvl_closed (l : List Cv) : Closed (cvl l) := by simp only [cvl, Closed]; exact ⟨trivial, cs_closed (fun p => by simp [Cv.c, ClosedL, Closed]) l⟩
theorem cvcs_closed (l : List Cv) : ClosedL (cs Cv.c l) := cs_closed (fun p => by simp [Cv.c, ClosedL, Closed]) l
theorem cvcs_ids {p : Nat → Prop} (l : List Cv) : IdsL p (cs Cv.c l) := ClosedL.ids _ (cvcs_closed l)
theorem Cv.a_inj {x y : Cv} (h : x.a = y.a) : x = y := by
  obtain ⟨⟨a, b⟩, ⟨c, d⟩, ⟨e, f⟩, ⟨g, i⟩⟩ := x
  obtain ⟨⟨a', b'⟩, ⟨c', d'⟩, ⟨e', f'⟩, ⟨g', i'⟩⟩ := y
  simp [Cv.a, Cv.c] at h
  simp [h]
theorem toldC_inj : ∀ {L M : List Cv}, toldC L = toldC M → L = M
  | [], [], _ => rfl
  | x :: L, y :: M, h => by
    simp only [toldC, List.map_cons, List.cons.injEq] at h
    rw [Cv.a_inj h.1.1, toldC_inj h.2]
  | [], _ :: _, h => by simp [toldC] at h
  | _ :: _, [], h => by simp [toldC] at h
theorem told_take {P L : List Cv} {L0 R : List Cv} {e : AExit} {seen : List (List AV)} {most : Nat} (hP : P = L0 ++ R) (hs0 : seen = toldC L0) (hst : stopOf e = false → R = []) (hL : L.length ≤ most) (h : (e = .normal ∧ seen = toldC L) ∨ (e = .exit 0 ∧ L.length = most ∧ ∃ x, seen = toldC (L ++ [x]))) : P.take most = L := by
  subst hs0
  rcases h with ⟨rfl, h⟩ | ⟨rfl, hl, x, h⟩
  · obtain rfl := toldC_inj h
    obtain rfl := hst rfl
    rw [hP, List.append_nil, List.take_of_length_le hL]
  · obtain rfl := toldC_inj h
    rw [hP, ← hl, List.append_assoc, List.take_left]
def toldH (c : Cv) (most : Nat) (L : List Cv) : Heap := [.var c.c 25, .var [.int .i64 most] 3, .var [.vec (cs Cv.c L) L.length (some 3)] 35, .tok L.length 25 8]
def toldI (c : Cv) (most : Nat) (seen : List (List AV)) (e : AExit) (h : Heap) : Prop := ∃ L : List Cv, h = toldH c most L ∧ L.length ≤ most ∧
      ((e = .normal ∧ seen = toldC L) ∨ (e = .exit 0 ∧ L.length = most ∧ ∃ x, seen = toldC (L ++ [x])))
theorem toldH_ids (c : Cv) (most : Nat) (L : List Cv) : IdsH (· < 4) (toldH c most L) := by simp [toldH, IdsH, IdsC, IdsL, Ids, cvcs_ids, Cv.c]
set_option maxRecDepth 20000 in
theorem c_told (c : Cv) (hc : c.in 4398046511104) (most : Nat) (hm : most ≤ 1000000) : ACalls seat 15 [c.a, .int .i64 most] [] (fun x _ => x = .ret (cvl ((pieces 20 c).take most))) := by
  refine ACalls.weakR ?_
  refine ACalls.body seat_ok Try.func15 rfl rfl ?_
  have c1 := c_pieces c
  have c2 := c_tell c hc
  generalize pieces 20 c = P at *
  conv => whnf
  refine CallH.lift seat_g c1 ⟨Cv.closed c, trivial⟩ (by simp [Closed, ClosedL, Cv.c]) ?_
  conv => whnf
  repeat' (first | (refine WrapH.quo (by omega) (by omega) (by omega) ?_; conv => whnf) | (refine NumH.rem (by omega) ?_; conv => whnf) | (refine WrapH.is _ (wrap_i64 (by omega) (by omega)) ?_; conv => whnf) | (refine WrapH.is _ (wrap_u64 (by omega) (by omega)) ?_; conv => whnf) | (refine WrapH.is _ wrap_u64m ?_; conv => whnf) | (refine Req.mk (by omega) ?_; conv => whnf) | (refine Req.mk (by dsimp only; omega) ?_; conv => whnf) | (refine Req.mk ⟨rfl, rfl, rfl, by simp [ci_length, *], rfl, by simp [okCell], by dsimp only; omega, by omega, by decide⟩ ?_; conv => whnf) | (refine Req.mk (show pendP _ _ by repeat' constructor) ?_; conv => whnf) | ((with_reducible refine brT ?_ ?_); (next => assumption); (conv => whnf)) | ((with_reducible refine brF ?_ ?_); (next => assumption); (conv => whnf)) | ((with_reducible refine brDT ?_ ?_); (next => omega); (conv => whnf)) | ((with_reducible refine brDF ?_ ?_); (next => omega); (conv => whnf)) | ((with_reducible refine brET ?_ ?_); (next => omega); (conv => whnf)) | ((with_reducible refine brEF ?_ ?_); (next => omega); (conv => whnf)) | ((with_reducible refine brNET ?_ ?_); (next => omega); (conv => whnf)) | ((with_reducible refine brNEF ?_ ?_); (next => omega); (conv => whnf)) | (with_reducible refine brNot ?_))
  refine Sat.nilTokH 2 0 25 8 rfl rfl ?_
  refine Sat.range seat_ok seat_g (f := 21) (first := []) (caps := [.iptr c.c]) rfl trivial (by simp [Closed, ClosedL, Cv.c]) rfl rfl rfl (accC P)
    (toldI c most) (finC P) c2 ⟨[], rfl, by simp, .inl ⟨rfl, rfl⟩⟩ ?_ ?_
  · rintro seen args h1 ⟨L0, x, R, hP, hs0, rfl⟩ ⟨L, rfl, hL, ⟨-, rfl⟩ | ⟨he, -⟩⟩
    rotate_left
    · cases he
    obtain rfl := toldC_inj hs0
    refine ⟨rfl, codeR_sound seat_ok _ _ _ _ ?_⟩
    have hlen := cs_length Cv.c_len L
    by_cases g : L.length < most
    · conv => whnf
      refine ⟨rfl, codeR_sound seat_ok _ _ _ _ ?_⟩
      conv => whnf
      repeat' (first | (refine WrapH.quo (by omega) (by omega) (by omega) ?_; conv => whnf) | (refine NumH.rem (by omega) ?_; conv => whnf) | (refine WrapH.is _ (wrap_i64 (by omega) (by omega)) ?_; conv => whnf) | (refine WrapH.is _ (wrap_u64 (by omega) (by omega)) ?_; conv => whnf) | (refine WrapH.is _ wrap_u64m ?_; conv => whnf) | (refine Req.mk (by omega) ?_; conv => whnf) | (refine Req.mk (by dsimp only; omega) ?_; conv => whnf) | (refine Req.mk ⟨rfl, rfl, rfl, by simp [ci_length, *], rfl, by simp [okCell], by dsimp only; omega, by omega, by decide⟩ ?_; conv => whnf) | (refine Req.mk (show pendP _ _ by repeat' constructor) ?_; conv => whnf) | ((with_reducible refine brT ?_ ?_); (next => assumption); (conv => whnf)) | ((with_reducible refine brF ?_ ?_); (next => assumption); (conv => whnf)) | ((with_reducible refine brDT ?_ ?_); (next => omega); (conv => whnf)) | ((with_reducible refine brDF ?_ ?_); (next => omega); (conv => whnf)) | ((with_reducible refine brET ?_ ?_); (next => omega); (conv => whnf)) | ((with_reducible refine brEF ?_ ?_); (next => omega); (conv => whnf)) | ((with_reducible refine brNET ?_ ?_); (next => omega); (conv => whnf)) | ((with_reducible refine brNEF ?_ ?_); (next => omega); (conv => whnf)) | (with_reducible refine brNot ?_))
      refine roundEnd (toldH c most (L ++ [x])) ?_ ⟨L ++ [x], rfl, by simp; omega, .inl ⟨rfl, toldC_snoc L x⟩⟩ (toldH_ids _ _ _)
      unfold toldH; rw [← cs_append, show (L ++ [x]).length = L.length + 1 by simp]; rfl
    · conv => whnf
      refine ⟨rfl, codeR_sound seat_ok _ _ _ _ ?_⟩
      conv => whnf
      repeat' (first | (refine WrapH.quo (by omega) (by omega) (by omega) ?_; conv => whnf) | (refine NumH.rem (by omega) ?_; conv => whnf) | (refine WrapH.is _ (wrap_i64 (by omega) (by omega)) ?_; conv => whnf) | (refine WrapH.is _ (wrap_u64 (by omega) (by omega)) ?_; conv => whnf) | (refine WrapH.is _ wrap_u64m ?_; conv => whnf) | (refine Req.mk (by omega) ?_; conv => whnf) | (refine Req.mk (by dsimp only; omega) ?_; conv => whnf) | (refine Req.mk ⟨rfl, rfl, rfl, by simp [ci_length, *], rfl, by simp [okCell], by dsimp only; omega, by omega, by decide⟩ ?_; conv => whnf) | (refine Req.mk (show pendP _ _ by repeat' constructor) ?_; conv => whnf) | ((with_reducible refine brT ?_ ?_); (next => assumption); (conv => whnf)) | ((with_reducible refine brF ?_ ?_); (next => assumption); (conv => whnf)) | ((with_reducible refine brDT ?_ ?_); (next => omega); (conv => whnf)) | ((with_reducible refine brDF ?_ ?_); (next => omega); (conv => whnf)) | ((with_reducible refine brET ?_ ?_); (next => omega); (conv => whnf)) | ((with_reducible refine brEF ?_ ?_); (next => omega); (conv => whnf)) | ((with_reducible refine brNET ?_ ?_); (next => omega); (conv => whnf)) | ((with_reducible refine brNEF ?_ ?_); (next => omega); (conv => whnf)) | (with_reducible refine brNot ?_))
      exact roundEnd (toldH c most L) rfl ⟨L, rfl, hL, .inr ⟨rfl, by omega, x, toldC_snoc L x⟩⟩ (toldH_ids _ _ _)
  · rintro seen e h1 ⟨L0, R, hP, hs0, hst⟩ ⟨L, rfl, hL, h⟩
    have hr : P.take most = L := told_take hP hs0 hst hL h
    rw [hr]
    rcases h with ⟨rfl, -⟩ | ⟨rfl, -⟩
    · conv => whnf
      exact .inl ⟨_, _, rfl, Weak.tok, rfl⟩
    · conv => whnf
      exact .inl ⟨_, _, rfl, Weak.tok, rfl⟩
end Go.Proofs.Ytfiekficbbikaaa
