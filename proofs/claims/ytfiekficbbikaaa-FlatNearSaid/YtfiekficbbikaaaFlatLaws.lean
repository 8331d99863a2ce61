/- The laws of layer 12 answer true: chords, box, joins, pieces. No condition. -/
import Derived.Test.YtfiekficbbikaaaFlatGeo
import Derived.Test.YtfiekficbbikaaaWakes
set_option linter.unusedSimpArgs false
set_option linter.unusedVariables false
set_option linter.deprecated false
namespace Go.Proofs.Ytfiekficbbikaaa
open Go.Abs
set_option maxRecDepth 20000 in
theorem l_flatChords (c : Cv) : ACalls seat 7 [c.a] [] (fun x _ => x = .ret (.bool true)) := by
  refine ACalls.body seat_ok Try.func7 rfl rfl ?_
  have cr := c_right c
  by_cases hr : c.in 1099511627776
  · have hin : c.in 4398046511104 := Cv.in_mono hr (by decide)
    rw [decide_eq_true hr] at cr
    have c1 := @CallH.refp c 4096 (by decide) hin
    have c2 := c_count c hin
    have hch := chordsOf_ref 20 c
    have c3 := c_chords c hin
    have c4 : ∀ L : List Cv, L.length ≤ 4096 → _ := fun L h => c_refch L (by omega)
    have c5 : ∀ L : List Cv, L.length ≤ 4096 → _ := fun L h => c_same (refCh L) (by have := refCh_len L; omega)
    rw [hch] at c3
    have hne : (pieces 20 c).take 4096 ≠ [] := by
      have := pieces_pos 20 c
      intro h; have := congrArg List.length h
      rw [List.length_take] at this; simp only [List.length_nil] at this; omega
    generalize pieces 20 c = P at *
    have hlen : (P.take 4096).length = min P.length 4096 := by rw [List.length_take, Nat.min_comm]
    rw [← hlen] at c2
    by_cases h4 : (P.take 4096).length = 4096
    · generalize P.take 4096 = Q at *
      conv => whnf
      refine CallH.lift seat_g c_wakes trivial (by simp [Closed]) ?_
      conv => whnf
      refine CallH.lift seat_g cr ⟨Cv.closed _, trivial⟩ (by simp [Closed]) ?_
      conv => whnf
      refine c1 (fun h => absurd h hne) (fun _ => ?_)
      conv => whnf
      refine CallH.lift seat_g c2 ⟨Cv.closed _, trivial⟩ (by simp [Closed]) ?_
      conv => whnf
      repeat' (first | (refine WrapH.quo (by omega) (by omega) (by omega) ?_; conv => whnf) | (refine NumH.rem (by omega) ?_; conv => whnf) | (refine WrapH.is _ (wrap_i64 (by omega) (by omega)) ?_; conv => whnf) | (refine WrapH.is _ (wrap_u64 (by omega) (by omega)) ?_; conv => whnf) | (refine WrapH.is _ wrap_u64m ?_; conv => whnf) | (refine Req.mk (by omega) ?_; conv => whnf) | (refine Req.mk (by dsimp only; omega) ?_; conv => whnf) | (refine Req.mk ⟨rfl, rfl, rfl, by simp [ci_length, *], rfl, by simp [okCell], by dsimp only; omega, by omega, by decide⟩ ?_; conv => whnf) | (refine Req.mk (show pendP _ _ by repeat' constructor) ?_; conv => whnf) | ((with_reducible refine brT ?_ ?_); (next => assumption); (conv => whnf)) | ((with_reducible refine brF ?_ ?_); (next => assumption); (conv => whnf)) | ((with_reducible refine brDT ?_ ?_); (next => omega); (conv => whnf)) | ((with_reducible refine brDF ?_ ?_); (next => omega); (conv => whnf)) | ((with_reducible refine brET ?_ ?_); (next => omega); (conv => whnf)) | ((with_reducible refine brEF ?_ ?_); (next => omega); (conv => whnf)) | ((with_reducible refine brNET ?_ ?_); (next => omega); (conv => whnf)) | ((with_reducible refine brNEF ?_ ?_); (next => omega); (conv => whnf)) | (with_reducible refine brNot ?_))
      rfl
    · have hP : P.take 4096 = P := List.take_of_length_le (by omega)
      have hPl : P.length < 4096 := by omega
      rw [hP] at c1 c2 hne h4
      have c3' := c3 (by omega)
      have c4' := c4 P (by omega)
      have c5' := c5 P (by omega)
      conv => whnf
      refine CallH.lift seat_g c_wakes trivial (by simp [Closed]) ?_
      conv => whnf
      refine CallH.lift seat_g cr ⟨Cv.closed _, trivial⟩ (by simp [Closed]) ?_
      conv => whnf
      refine c1 (fun h => absurd h hne) (fun _ => ?_)
      conv => whnf
      refine CallH.lift seat_g c2 ⟨Cv.closed _, trivial⟩ (by simp [Closed]) ?_
      conv => whnf
      repeat' (first | (refine WrapH.quo (by omega) (by omega) (by omega) ?_; conv => whnf) | (refine NumH.rem (by omega) ?_; conv => whnf) | (refine WrapH.is _ (wrap_i64 (by omega) (by omega)) ?_; conv => whnf) | (refine WrapH.is _ (wrap_u64 (by omega) (by omega)) ?_; conv => whnf) | (refine WrapH.is _ wrap_u64m ?_; conv => whnf) | (refine Req.mk (by omega) ?_; conv => whnf) | (refine Req.mk (by dsimp only; omega) ?_; conv => whnf) | (refine Req.mk ⟨rfl, rfl, rfl, by simp [ci_length, *], rfl, by simp [okCell], by dsimp only; omega, by omega, by decide⟩ ?_; conv => whnf) | (refine Req.mk (show pendP _ _ by repeat' constructor) ?_; conv => whnf) | ((with_reducible refine brT ?_ ?_); (next => assumption); (conv => whnf)) | ((with_reducible refine brF ?_ ?_); (next => assumption); (conv => whnf)) | ((with_reducible refine brDT ?_ ?_); (next => omega); (conv => whnf)) | ((with_reducible refine brDF ?_ ?_); (next => omega); (conv => whnf)) | ((with_reducible refine brET ?_ ?_); (next => omega); (conv => whnf)) | ((with_reducible refine brEF ?_ ?_); (next => omega); (conv => whnf)) | ((with_reducible refine brNET ?_ ?_); (next => omega); (conv => whnf)) | ((with_reducible refine brNEF ?_ ?_); (next => omega); (conv => whnf)) | (with_reducible refine brNot ?_))
      refine CallH.lift seat_g c3' ⟨Cv.closed _, trivial⟩ (elv_closed _) ?_
      conv => whnf
      repeat' (first | (refine WrapH.quo (by omega) (by omega) (by omega) ?_; conv => whnf) | (refine NumH.rem (by omega) ?_; conv => whnf) | (refine WrapH.is _ (wrap_i64 (by omega) (by omega)) ?_; conv => whnf) | (refine WrapH.is _ (wrap_u64 (by omega) (by omega)) ?_; conv => whnf) | (refine WrapH.is _ wrap_u64m ?_; conv => whnf) | (refine Req.mk (by omega) ?_; conv => whnf) | (refine Req.mk (by dsimp only; omega) ?_; conv => whnf) | (refine Req.mk ⟨rfl, rfl, rfl, by simp [ci_length, *], rfl, by simp [okCell], by dsimp only; omega, by omega, by decide⟩ ?_; conv => whnf) | (refine Req.mk (show pendP _ _ by repeat' constructor) ?_; conv => whnf) | ((with_reducible refine brT ?_ ?_); (next => assumption); (conv => whnf)) | ((with_reducible refine brF ?_ ?_); (next => assumption); (conv => whnf)) | ((with_reducible refine brDT ?_ ?_); (next => omega); (conv => whnf)) | ((with_reducible refine brDF ?_ ?_); (next => omega); (conv => whnf)) | ((with_reducible refine brET ?_ ?_); (next => omega); (conv => whnf)) | ((with_reducible refine brEF ?_ ?_); (next => omega); (conv => whnf)) | ((with_reducible refine brNET ?_ ?_); (next => omega); (conv => whnf)) | ((with_reducible refine brNEF ?_ ?_); (next => omega); (conv => whnf)) | (with_reducible refine brNot ?_))
      refine CallH.weakA (args' := [cvl P]) (WeakL.cons Weak.tok WeakL.nil) ?_
      refine CallH.lift seat_g c4' ⟨cvl_closed _, trivial⟩ (elv_closed _) ?_
      conv => whnf
      repeat' (first | (refine WrapH.quo (by omega) (by omega) (by omega) ?_; conv => whnf) | (refine NumH.rem (by omega) ?_; conv => whnf) | (refine WrapH.is _ (wrap_i64 (by omega) (by omega)) ?_; conv => whnf) | (refine WrapH.is _ (wrap_u64 (by omega) (by omega)) ?_; conv => whnf) | (refine WrapH.is _ wrap_u64m ?_; conv => whnf) | (refine Req.mk (by omega) ?_; conv => whnf) | (refine Req.mk (by dsimp only; omega) ?_; conv => whnf) | (refine Req.mk ⟨rfl, rfl, rfl, by simp [ci_length, *], rfl, by simp [okCell], by dsimp only; omega, by omega, by decide⟩ ?_; conv => whnf) | (refine Req.mk (show pendP _ _ by repeat' constructor) ?_; conv => whnf) | ((with_reducible refine brT ?_ ?_); (next => assumption); (conv => whnf)) | ((with_reducible refine brF ?_ ?_); (next => assumption); (conv => whnf)) | ((with_reducible refine brDT ?_ ?_); (next => omega); (conv => whnf)) | ((with_reducible refine brDF ?_ ?_); (next => omega); (conv => whnf)) | ((with_reducible refine brET ?_ ?_); (next => omega); (conv => whnf)) | ((with_reducible refine brEF ?_ ?_); (next => omega); (conv => whnf)) | ((with_reducible refine brNET ?_ ?_); (next => omega); (conv => whnf)) | ((with_reducible refine brNEF ?_ ?_); (next => omega); (conv => whnf)) | (with_reducible refine brNot ?_))
      refine CallH.lift seat_g c5' ⟨elv_closed _, elv_closed _, trivial⟩ (by simp [Closed]) ?_
      conv => whnf
      repeat' (first | (refine WrapH.quo (by omega) (by omega) (by omega) ?_; conv => whnf) | (refine NumH.rem (by omega) ?_; conv => whnf) | (refine WrapH.is _ (wrap_i64 (by omega) (by omega)) ?_; conv => whnf) | (refine WrapH.is _ (wrap_u64 (by omega) (by omega)) ?_; conv => whnf) | (refine WrapH.is _ wrap_u64m ?_; conv => whnf) | (refine Req.mk (by omega) ?_; conv => whnf) | (refine Req.mk (by dsimp only; omega) ?_; conv => whnf) | (refine Req.mk ⟨rfl, rfl, rfl, by simp [ci_length, *], rfl, by simp [okCell], by dsimp only; omega, by omega, by decide⟩ ?_; conv => whnf) | (refine Req.mk (show pendP _ _ by repeat' constructor) ?_; conv => whnf) | ((with_reducible refine brT ?_ ?_); (next => assumption); (conv => whnf)) | ((with_reducible refine brF ?_ ?_); (next => assumption); (conv => whnf)) | ((with_reducible refine brDT ?_ ?_); (next => omega); (conv => whnf)) | ((with_reducible refine brDF ?_ ?_); (next => omega); (conv => whnf)) | ((with_reducible refine brET ?_ ?_); (next => omega); (conv => whnf)) | ((with_reducible refine brEF ?_ ?_); (next => omega); (conv => whnf)) | ((with_reducible refine brNET ?_ ?_); (next => omega); (conv => whnf)) | ((with_reducible refine brNEF ?_ ?_); (next => omega); (conv => whnf)) | (with_reducible refine brNot ?_))
      rfl
  · rw [decide_eq_false hr] at cr
    conv => whnf
    refine CallH.lift seat_g c_wakes trivial (by simp [Closed]) ?_
    conv => whnf
    refine CallH.lift seat_g cr ⟨Cv.closed _, trivial⟩ (by simp [Closed]) ?_
    conv => whnf
    rfl

def mn (a b : Int) : Int := if b < a then b else a
def mx (a b : Int) : Int := if b > a then b else a
theorem mn_le (a b : Int) : mn a b ≤ a ∧ mn a b ≤ b := by unfold mn; split <;> omega
theorem mx_ge (a b : Int) : a ≤ mx a b ∧ b ≤ mx a b := by unfold mx; split <;> omega
def boxH (c : Cv) (b : Bool) (l h u o : Int) (n : Nat) : Heap := [.var c.c 25, .var [.bool b] 4, .var [.int .i64 l] 2, .var [.int .i64 h] 2, .var [.int .i64 u] 2, .var [.int .i64 o] 2, .var [.int .i64 n] 3]
def boxI (c : Cv) (P : List Cv) (l h u o : Int) (seen : List (List AV)) (e : AExit) (H : Heap) : Prop := ∃ L R : List Cv, P = L ++ R ∧ seen = toldS L ∧ H = boxH c false l h u o L.length ∧ ((e = .normal ∧ L.length < 3000) ∨ (e = .exit 0 ∧ L.length = 3000))
theorem boxH_ids (c : Cv) (b : Bool) (l h u o : Int) (n : Nat) : IdsH (· < 7) (boxH c b l h u o n) := by simp [boxH, IdsH, IdsC, IdsL, Ids, Cv.c]
set_option maxRecDepth 20000 in
theorem l_flatBox (c : Cv) : ACalls seat 6 [c.a] [] (fun x _ => x = .ret (.bool true)) := by
  refine ACalls.body seat_ok Try.func6 rfl rfl ?_
  have cr := c_right c
  by_cases hr : c.in 1099511627776
  · have hin : c.in 4398046511104 := Cv.in_mono hr (by decide)
    rw [decide_eq_true hr] at cr
    have c1 := c_points c
    have c2 := c_tellS c hin
    have hpos := pieces_pos 20 c
    obtain ⟨l, hl⟩ : ∃ l, l = mn (mn (mn c.p.x c.q.x) c.r.x) c.s.x := ⟨_, rfl⟩
    obtain ⟨h, hh⟩ : ∃ l, l = mx (mx (mx c.p.x c.q.x) c.r.x) c.s.x := ⟨_, rfl⟩
    obtain ⟨u, hu⟩ : ∃ l, l = mn (mn (mn c.p.y c.q.y) c.r.y) c.s.y := ⟨_, rfl⟩
    obtain ⟨o, ho⟩ : ∃ l, l = mx (mx (mx c.p.y c.q.y) c.r.y) c.s.y := ⟨_, rfl⟩
    have hb : ∀ x ∈ pieces 20 c, x.box l h u o := pieces_box 20 c (by
      have a1 := mn_le c.p.x c.q.x
      have a2 := mn_le (mn c.p.x c.q.x) c.r.x
      have a3 := mn_le (mn (mn c.p.x c.q.x) c.r.x) c.s.x
      have b1 := mx_ge c.p.x c.q.x
      have b2 := mx_ge (mx c.p.x c.q.x) c.r.x
      have b3 := mx_ge (mx (mx c.p.x c.q.x) c.r.x) c.s.x
      have d1 := mn_le c.p.y c.q.y
      have d2 := mn_le (mn c.p.y c.q.y) c.r.y
      have d3 := mn_le (mn (mn c.p.y c.q.y) c.r.y) c.s.y
      have e1 := mx_ge c.p.y c.q.y
      have e2 := mx_ge (mx c.p.y c.q.y) c.r.y
      have e3 := mx_ge (mx (mx c.p.y c.q.y) c.r.y) c.s.y
      unfold Cv.box ptBox
      omega)
    generalize pieces 20 c = P at *
    conv => whnf
    refine CallH.lift seat_g c_wakes trivial (by simp [Closed]) ?_
    conv => whnf
    refine CallH.lift seat_g cr ⟨Cv.closed _, trivial⟩ (by simp [Closed]) ?_
    conv => whnf
    refine DrawH.cut (AV.undef :: .ptr 0 0 :: .ptr 1 0 :: .ptr 2 0 :: .ptr 3 0 :: AV.undef :: AV.undef :: AV.undef :: AV.undef :: AV.undef :: AV.undef :: AV.undef :: AV.undef :: AV.undef :: AV.undef :: AV.undef :: AV.undef :: AV.undef :: AV.undef :: AV.undef :: AV.undef :: AV.undef :: AV.undef :: AV.undef :: AV.undef :: AV.undef :: AV.undef :: AV.undef :: AV.undef :: AV.undef :: AV.undef :: AV.undef :: AV.undef :: AV.undef :: AV.undef :: AV.undef :: AV.undef :: AV.undef :: AV.undef :: AV.undef :: AV.undef :: AV.undef :: AV.undef :: AV.undef :: AV.undef :: AV.undef :: AV.undef :: AV.undef :: AV.undef :: AV.undef :: AV.undef :: AV.undef :: AV.undef :: AV.undef :: AV.undef :: AV.undef :: AV.undef :: AV.undef :: AV.undef :: AV.undef :: AV.undef :: AV.undef :: AV.undef :: AV.undef :: AV.undef :: AV.undef :: AV.undef :: AV.undef :: AV.undef :: AV.undef :: AV.undef :: AV.undef :: AV.undef :: AV.undef :: AV.undef :: AV.undef :: AV.undef :: AV.undef :: AV.undef :: AV.undef :: AV.undef :: AV.undef :: AV.undef :: AV.undef :: AV.undef :: AV.undef :: AV.undef :: AV.undef :: AV.undef :: AV.undef :: AV.undef :: AV.undef :: AV.undef :: AV.undef :: AV.undef :: AV.undef :: AV.undef :: AV.undef :: AV.undef :: AV.undef :: AV.undef :: []) [.var c.c 25, .var [.bool false] 4, .var [.int .i64 l] 2, .var [.int .i64 h] 2] ?_ ?_
    · subst hl hh
      refine DrawH.plan seat_ok (.take 0 (.take 1 (.take 2 (.take 3 (.take 4 (.take 5 (.take 6 (.take 7 (.take 8 (.take 9 (.take 10 (.take 11 (.take 12 (.take 13 (.take 14 (.take 15 (.take 16 (.take 17 (.take 18 (.take 19 (.take 20 (.take 21 (.take 22 (.take 23 (.take 24 (.take 25 (.both (.perform 26 (some 2) (.perform 27 (some 3) (.perform 28 none (.perform 29 none Plan.done)))) (.perform 27 (some 3) (.perform 26 (some 2) (.perform 28 none (.perform 29 none Plan.done))))))))))))))))))))))))))))))) 2 (by kernel_rfl) ?_
      conv => whnf
      repeat' (first | exact ⟨rfl, keepT_weak (maskOf 101 [1, 2, 3, 4]) _, rfl⟩ | (first | (refine WrapH.quo (by omega) (by omega) (by omega) ?_; conv => whnf) | (refine NumH.rem (by omega) ?_; conv => whnf) | (refine WrapH.is _ (wrap_i64 (by omega) (by omega)) ?_; conv => whnf) | (refine WrapH.is _ (wrap_u64 (by omega) (by omega)) ?_; conv => whnf) | (refine WrapH.is _ wrap_u64m ?_; conv => whnf) | (refine Req.mk (by omega) ?_; conv => whnf) | (refine Req.mk (by dsimp only; omega) ?_; conv => whnf) | (refine Req.mk ⟨rfl, rfl, rfl, by simp [ci_length, *], rfl, by simp [okCell], by dsimp only; omega, by omega, by decide⟩ ?_; conv => whnf) | (refine Req.mk (show pendP _ _ by repeat' constructor) ?_; conv => whnf) | ((with_reducible refine brT ?_ ?_); (next => assumption); (conv => whnf)) | ((with_reducible refine brF ?_ ?_); (next => assumption); (conv => whnf)) | ((with_reducible refine brDT ?_ ?_); (next => omega); (conv => whnf)) | ((with_reducible refine brDF ?_ ?_); (next => omega); (conv => whnf)) | ((with_reducible refine brET ?_ ?_); (next => omega); (conv => whnf)) | ((with_reducible refine brEF ?_ ?_); (next => omega); (conv => whnf)) | ((with_reducible refine brNET ?_ ?_); (next => omega); (conv => whnf)) | ((with_reducible refine brNEF ?_ ?_); (next => omega); (conv => whnf)) | (with_reducible refine brNot ?_)) | (refine ⟨?_, ?_⟩ <;> (conv => whnf)))
    refine DrawH.cut (AV.undef :: .ptr 0 0 :: .ptr 1 0 :: .ptr 2 0 :: .ptr 3 0 :: .ptr 4 0 :: .ptr 5 0 :: AV.undef :: AV.undef :: AV.undef :: AV.undef :: AV.undef :: AV.undef :: AV.undef :: AV.undef :: AV.undef :: AV.undef :: AV.undef :: AV.undef :: AV.undef :: AV.undef :: AV.undef :: AV.undef :: AV.undef :: AV.undef :: AV.undef :: AV.undef :: AV.undef :: AV.undef :: AV.undef :: AV.undef :: AV.undef :: AV.undef :: AV.undef :: AV.undef :: AV.undef :: AV.undef :: AV.undef :: AV.undef :: AV.undef :: AV.undef :: AV.undef :: AV.undef :: AV.undef :: AV.undef :: AV.undef :: AV.undef :: AV.undef :: AV.undef :: AV.undef :: AV.undef :: AV.undef :: AV.undef :: AV.undef :: AV.undef :: AV.undef :: AV.undef :: AV.undef :: AV.undef :: AV.undef :: AV.undef :: AV.undef :: AV.undef :: AV.undef :: AV.undef :: AV.undef :: AV.undef :: AV.undef :: AV.undef :: AV.undef :: AV.undef :: AV.undef :: AV.undef :: AV.undef :: AV.undef :: AV.undef :: AV.undef :: AV.undef :: AV.undef :: AV.undef :: AV.undef :: AV.undef :: AV.undef :: AV.undef :: AV.undef :: AV.undef :: AV.undef :: AV.undef :: AV.undef :: AV.undef :: AV.undef :: AV.undef :: AV.undef :: AV.undef :: AV.undef :: AV.undef :: AV.undef :: AV.undef :: AV.undef :: AV.undef :: AV.undef :: []) [.var c.c 25, .var [.bool false] 4, .var [.int .i64 l] 2, .var [.int .i64 h] 2, .var [.int .i64 u] 2, .var [.int .i64 o] 2] ?_ ?_
    · subst hu ho
      refine DrawH.plan seat_ok (.take 0 (.take 1 (.take 2 (.take 3 (.take 4 (.take 5 (.take 6 (.take 7 (.take 8 (.take 9 (.take 10 (.take 11 (.take 12 (.take 13 (.take 14 (.take 15 (.take 16 (.take 17 (.take 18 (.take 19 (.take 20 (.take 21 (.take 22 (.take 23 (.take 24 (.take 25 (.both (.perform 26 (some 4) (.perform 27 (some 5) (.perform 28 none (.perform 29 none Plan.done)))) (.perform 27 (some 5) (.perform 26 (some 4) (.perform 28 none (.perform 29 none Plan.done))))))))))))))))))))))))))))))) 2 (by kernel_rfl) ?_
      conv => whnf
      repeat' (first | exact ⟨rfl, keepT_weak (maskOf 101 [1, 2, 3, 4, 5, 6]) _, rfl⟩ | (first | (refine WrapH.quo (by omega) (by omega) (by omega) ?_; conv => whnf) | (refine NumH.rem (by omega) ?_; conv => whnf) | (refine WrapH.is _ (wrap_i64 (by omega) (by omega)) ?_; conv => whnf) | (refine WrapH.is _ (wrap_u64 (by omega) (by omega)) ?_; conv => whnf) | (refine WrapH.is _ wrap_u64m ?_; conv => whnf) | (refine Req.mk (by omega) ?_; conv => whnf) | (refine Req.mk (by dsimp only; omega) ?_; conv => whnf) | (refine Req.mk ⟨rfl, rfl, rfl, by simp [ci_length, *], rfl, by simp [okCell], by dsimp only; omega, by omega, by decide⟩ ?_; conv => whnf) | (refine Req.mk (show pendP _ _ by repeat' constructor) ?_; conv => whnf) | ((with_reducible refine brT ?_ ?_); (next => assumption); (conv => whnf)) | ((with_reducible refine brF ?_ ?_); (next => assumption); (conv => whnf)) | ((with_reducible refine brDT ?_ ?_); (next => omega); (conv => whnf)) | ((with_reducible refine brDF ?_ ?_); (next => omega); (conv => whnf)) | ((with_reducible refine brET ?_ ?_); (next => omega); (conv => whnf)) | ((with_reducible refine brEF ?_ ?_); (next => omega); (conv => whnf)) | ((with_reducible refine brNET ?_ ?_); (next => omega); (conv => whnf)) | ((with_reducible refine brNEF ?_ ?_); (next => omega); (conv => whnf)) | (with_reducible refine brNot ?_)) | (refine ⟨?_, ?_⟩ <;> (conv => whnf)))
    conv => whnf
    refine CallH.lift seat_g c1 ⟨Cv.closed c, trivial⟩ (by simp [Closed, ClosedL, Cv.c]) ?_
    conv => whnf
    refine Sat.range seat_ok seat_g (f := 32) (first := []) (caps := [.iptr c.c]) rfl trivial (by simp [Closed, ClosedL, Cv.c]) rfl rfl rfl (accS P)
      (boxI c P l h u o) (finS P) c2 ⟨[], P, rfl, rfl, rfl, .inl ⟨rfl, by simp⟩⟩ ?_ ?_
    · rintro seen args h1 ⟨L0, x, R, hP, hs0, rfl⟩ ⟨L, R0, hP0, rfl, rfl, ⟨-, hL⟩ | ⟨he, -⟩⟩
      rotate_left
      · cases he
      obtain rfl := toldS_inj hP hP0 hs0.symm
      refine ⟨rfl, codeR_sound seat_ok _ _ _ _ ?_⟩
      have hs := toldS_snoc L0 x
      have hl' : (L0 ++ [x]).length = L0.length + 1 := by simp
      have hP1 : P = (L0 ++ [x]) ++ R := by rw [hP]; simp
      obtain ⟨-, -, ⟨⟨g1, g2⟩, g3, g4⟩⟩ := hb x (by rw [hP]; simp)
      by_cases g : L0.length + 1 = 3000
      · conv => whnf
        refine ⟨rfl, codeR_sound seat_ok _ _ _ _ ?_⟩
        conv => whnf
        repeat' (first | (refine WrapH.quo (by omega) (by omega) (by omega) ?_; conv => whnf) | (refine NumH.rem (by omega) ?_; conv => whnf) | (refine WrapH.is _ (wrap_i64 (by omega) (by omega)) ?_; conv => whnf) | (refine WrapH.is _ (wrap_u64 (by omega) (by omega)) ?_; conv => whnf) | (refine WrapH.is _ wrap_u64m ?_; conv => whnf) | (refine Req.mk (by omega) ?_; conv => whnf) | (refine Req.mk (by dsimp only; omega) ?_; conv => whnf) | (refine Req.mk ⟨rfl, rfl, rfl, by simp [ci_length, *], rfl, by simp [okCell], by dsimp only; omega, by omega, by decide⟩ ?_; conv => whnf) | (refine Req.mk (show pendP _ _ by repeat' constructor) ?_; conv => whnf) | ((with_reducible refine brT ?_ ?_); (next => assumption); (conv => whnf)) | ((with_reducible refine brF ?_ ?_); (next => assumption); (conv => whnf)) | ((with_reducible refine brDT ?_ ?_); (next => omega); (conv => whnf)) | ((with_reducible refine brDF ?_ ?_); (next => omega); (conv => whnf)) | ((with_reducible refine brET ?_ ?_); (next => omega); (conv => whnf)) | ((with_reducible refine brEF ?_ ?_); (next => omega); (conv => whnf)) | ((with_reducible refine brNET ?_ ?_); (next => omega); (conv => whnf)) | ((with_reducible refine brNEF ?_ ?_); (next => omega); (conv => whnf)) | (with_reducible refine brNot ?_))
        exact roundEnd (boxH c false l h u o (L0 ++ [x]).length) (by rw [hl']; rfl) ⟨L0 ++ [x], R, hP1, hs, rfl, .inr ⟨rfl, by rw [hl']; exact g⟩⟩ (boxH_ids _ _ _ _ _ _ _)
      · conv => whnf
        refine ⟨rfl, codeR_sound seat_ok _ _ _ _ ?_⟩
        conv => whnf
        repeat' (first | (refine WrapH.quo (by omega) (by omega) (by omega) ?_; conv => whnf) | (refine NumH.rem (by omega) ?_; conv => whnf) | (refine WrapH.is _ (wrap_i64 (by omega) (by omega)) ?_; conv => whnf) | (refine WrapH.is _ (wrap_u64 (by omega) (by omega)) ?_; conv => whnf) | (refine WrapH.is _ wrap_u64m ?_; conv => whnf) | (refine Req.mk (by omega) ?_; conv => whnf) | (refine Req.mk (by dsimp only; omega) ?_; conv => whnf) | (refine Req.mk ⟨rfl, rfl, rfl, by simp [ci_length, *], rfl, by simp [okCell], by dsimp only; omega, by omega, by decide⟩ ?_; conv => whnf) | (refine Req.mk (show pendP _ _ by repeat' constructor) ?_; conv => whnf) | ((with_reducible refine brT ?_ ?_); (next => assumption); (conv => whnf)) | ((with_reducible refine brF ?_ ?_); (next => assumption); (conv => whnf)) | ((with_reducible refine brDT ?_ ?_); (next => omega); (conv => whnf)) | ((with_reducible refine brDF ?_ ?_); (next => omega); (conv => whnf)) | ((with_reducible refine brET ?_ ?_); (next => omega); (conv => whnf)) | ((with_reducible refine brEF ?_ ?_); (next => omega); (conv => whnf)) | ((with_reducible refine brNET ?_ ?_); (next => omega); (conv => whnf)) | ((with_reducible refine brNEF ?_ ?_); (next => omega); (conv => whnf)) | (with_reducible refine brNot ?_))
        exact roundEnd (boxH c false l h u o (L0 ++ [x]).length) (by rw [hl']; rfl) ⟨L0 ++ [x], R, hP1, hs, rfl, .inl ⟨rfl, by rw [hl']; omega⟩⟩ (boxH_ids _ _ _ _ _ _ _)
    · rintro seen e h1 ⟨L0, R, hP, hs0, hst⟩ ⟨L, R0, hP0, hs, rfl, h⟩
      obtain rfl := toldS_inj hP hP0 (hs0.symm.trans hs)
      rcases h with ⟨rfl, hl⟩ | ⟨rfl, hl⟩
      · obtain rfl := hst rfl
        have : (0 : Int) < L0.length := by rw [List.append_nil] at hP; subst hP; omega
        conv => whnf
        repeat' (first | (refine WrapH.quo (by omega) (by omega) (by omega) ?_; conv => whnf) | (refine NumH.rem (by omega) ?_; conv => whnf) | (refine WrapH.is _ (wrap_i64 (by omega) (by omega)) ?_; conv => whnf) | (refine WrapH.is _ (wrap_u64 (by omega) (by omega)) ?_; conv => whnf) | (refine WrapH.is _ wrap_u64m ?_; conv => whnf) | (refine Req.mk (by omega) ?_; conv => whnf) | (refine Req.mk (by dsimp only; omega) ?_; conv => whnf) | (refine Req.mk ⟨rfl, rfl, rfl, by simp [ci_length, *], rfl, by simp [okCell], by dsimp only; omega, by omega, by decide⟩ ?_; conv => whnf) | (refine Req.mk (show pendP _ _ by repeat' constructor) ?_; conv => whnf) | ((with_reducible refine brT ?_ ?_); (next => assumption); (conv => whnf)) | ((with_reducible refine brF ?_ ?_); (next => assumption); (conv => whnf)) | ((with_reducible refine brDT ?_ ?_); (next => omega); (conv => whnf)) | ((with_reducible refine brDF ?_ ?_); (next => omega); (conv => whnf)) | ((with_reducible refine brET ?_ ?_); (next => omega); (conv => whnf)) | ((with_reducible refine brEF ?_ ?_); (next => omega); (conv => whnf)) | ((with_reducible refine brNET ?_ ?_); (next => omega); (conv => whnf)) | ((with_reducible refine brNEF ?_ ?_); (next => omega); (conv => whnf)) | (with_reducible refine brNot ?_))
        exact congrArg AEnd.ret (congrArg AV.bool (decide_eq_true this))
      · have : (0 : Int) < L0.length := by omega
        conv => whnf
        repeat' (first | (refine WrapH.quo (by omega) (by omega) (by omega) ?_; conv => whnf) | (refine NumH.rem (by omega) ?_; conv => whnf) | (refine WrapH.is _ (wrap_i64 (by omega) (by omega)) ?_; conv => whnf) | (refine WrapH.is _ (wrap_u64 (by omega) (by omega)) ?_; conv => whnf) | (refine WrapH.is _ wrap_u64m ?_; conv => whnf) | (refine Req.mk (by omega) ?_; conv => whnf) | (refine Req.mk (by dsimp only; omega) ?_; conv => whnf) | (refine Req.mk ⟨rfl, rfl, rfl, by simp [ci_length, *], rfl, by simp [okCell], by dsimp only; omega, by omega, by decide⟩ ?_; conv => whnf) | (refine Req.mk (show pendP _ _ by repeat' constructor) ?_; conv => whnf) | ((with_reducible refine brT ?_ ?_); (next => assumption); (conv => whnf)) | ((with_reducible refine brF ?_ ?_); (next => assumption); (conv => whnf)) | ((with_reducible refine brDT ?_ ?_); (next => omega); (conv => whnf)) | ((with_reducible refine brDF ?_ ?_); (next => omega); (conv => whnf)) | ((with_reducible refine brET ?_ ?_); (next => omega); (conv => whnf)) | ((with_reducible refine brEF ?_ ?_); (next => omega); (conv => whnf)) | ((with_reducible refine brNET ?_ ?_); (next => omega); (conv => whnf)) | ((with_reducible refine brNEF ?_ ?_); (next => omega); (conv => whnf)) | (with_reducible refine brNot ?_))
        exact congrArg AEnd.ret (congrArg AV.bool (decide_eq_true this))
  · rw [decide_eq_false hr] at cr
    conv => whnf
    refine CallH.lift seat_g c_wakes trivial (by simp [Closed]) ?_
    conv => whnf
    refine CallH.lift seat_g cr ⟨Cv.closed _, trivial⟩ (by simp [Closed]) ?_
    conv => whnf
    rfl
end Go.Proofs.Ytfiekficbbikaaa
