/- The laws of layer 12 answer true: pieces, joins. No condition. -/
import Derived.Test.YtfiekficbbikaaaFlatLaws
set_option linter.unusedSimpArgs false
set_option linter.unusedVariables false
set_option linter.deprecated false
namespace Go.Proofs.Ytfiekficbbikaaa
open Go.Abs
theorem c_refp' (c : Cv) (m : Nat) (hm : m ≤ 1000000) (hc : c.in 4398046511104) : ACalls seat 14 [c.a, .int .i64 0, .int .i64 m] [] (fun x _ => x = .ret (cvl ((pieces 20 c).take m))) := by
  refine ACalls.weakR ((c_refp 20 c m (by omega) hm hc).mono ?_)
  rintro r h' (⟨hL, rfl⟩ | ⟨hL, j, rfl, -⟩)
  · exact .inl ⟨_, _, rfl, Weak.nils, by rw [hL]; rfl⟩
  · exact .inl ⟨_, _, rfl, Weak.tok, rfl⟩
def pcH (c : Cv) (Q : List Cv) (n : Nat) : Heap := [.var c.c 25, .var [.bool false] 4, .var [cvl Q] 35, .var [cvl Q] 35, .var [.int .i64 n] 3]
def pcI (c : Cv) (P Q : List Cv) (seen : List (List AV)) (e : AExit) (H : Heap) : Prop := ∃ L R : List Cv, P = L ++ R ∧ ((e = .normal ∧ seen = toldS L ∧ L.length ≤ Q.length ∧ H = pcH c Q L.length) ∨ (e = .exit 0 ∧ H = pcH c Q Q.length))
theorem pcH_ids (c : Cv) (Q : List Cv) (n : Nat) : IdsH (· < 5) (pcH c Q n) := by simp [pcH, IdsH, IdsC, IdsL, Ids, Cv.c, Closed.ids _ (cvl_closed _)]
set_option maxRecDepth 20000 in
theorem l_flatPieces (c : Cv) (stop : Nat) (hs : stop < 256) : ACalls seat 5 [c.a, .int .u8 stop] [] (fun x _ => x = .ret (.bool true)) := by
  refine ACalls.body seat_ok Try.func5 rfl rfl ?_
  have cr := c_right c
  by_cases hr : c.in 1099511627776
  · have hin : c.in 4398046511104 := Cv.in_mono hr (by decide)
    rw [decide_eq_true hr] at cr
    have c1 := c_points c
    have c2 := c_tellS c hin
    have c3 := c_refp' c stop (by omega) hin
    have c4 := c_told c hin stop (by omega)
    obtain ⟨Q, hQ⟩ : ∃ Q, Q = (pieces 20 c).take stop := ⟨_, rfl⟩
    rw [← hQ] at c3 c4
    generalize pieces 20 c = P at *
    have hQl : Q.length ≤ stop := by rw [hQ, List.length_take]; omega
    conv => whnf
    refine CallH.lift seat_g c_wakes trivial (by simp [Closed]) ?_
    conv => whnf
    refine CallH.lift seat_g cr ⟨Cv.closed _, trivial⟩ (by simp [Closed]) ?_
    conv => whnf
    repeat' (first | (refine WrapH.quo (by omega) (by omega) (by omega) ?_; conv => whnf) | (refine NumH.rem (by omega) ?_; conv => whnf) | (refine WrapH.is _ (wrap_i64 (by omega) (by omega)) ?_; conv => whnf) | (refine WrapH.is _ (wrap_u64 (by omega) (by omega)) ?_; conv => whnf) | (refine WrapH.is _ wrap_u64m ?_; conv => whnf) | (refine Req.mk (by omega) ?_; conv => whnf) | (refine Req.mk (by dsimp only; omega) ?_; conv => whnf) | (refine Req.mk ⟨rfl, rfl, rfl, by simp [ci_length, *], rfl, by simp [okCell], by dsimp only; omega, by omega, by decide⟩ ?_; conv => whnf) | (refine Req.mk (show pendP _ _ by repeat' constructor) ?_; conv => whnf) | ((with_reducible refine brT ?_ ?_); (next => assumption); (conv => whnf)) | ((with_reducible refine brF ?_ ?_); (next => assumption); (conv => whnf)) | ((with_reducible refine brDT ?_ ?_); (next => omega); (conv => whnf)) | ((with_reducible refine brDF ?_ ?_); (next => omega); (conv => whnf)) | ((with_reducible refine brET ?_ ?_); (next => omega); (conv => whnf)) | ((with_reducible refine brEF ?_ ?_); (next => omega); (conv => whnf)) | ((with_reducible refine brNET ?_ ?_); (next => omega); (conv => whnf)) | ((with_reducible refine brNEF ?_ ?_); (next => omega); (conv => whnf)) | (with_reducible refine brNot ?_))
    refine CallH.lift seat_g c3 ⟨Cv.closed _, by simp [Closed], by simp [Closed], trivial⟩ (cvl_closed _) ?_
    conv => whnf
    repeat' (first | (refine WrapH.quo (by omega) (by omega) (by omega) ?_; conv => whnf) | (refine NumH.rem (by omega) ?_; conv => whnf) | (refine WrapH.is _ (wrap_i64 (by omega) (by omega)) ?_; conv => whnf) | (refine WrapH.is _ (wrap_u64 (by omega) (by omega)) ?_; conv => whnf) | (refine WrapH.is _ wrap_u64m ?_; conv => whnf) | (refine Req.mk (by omega) ?_; conv => whnf) | (refine Req.mk (by dsimp only; omega) ?_; conv => whnf) | (refine Req.mk ⟨rfl, rfl, rfl, by simp [ci_length, *], rfl, by simp [okCell], by dsimp only; omega, by omega, by decide⟩ ?_; conv => whnf) | (refine Req.mk (show pendP _ _ by repeat' constructor) ?_; conv => whnf) | ((with_reducible refine brT ?_ ?_); (next => assumption); (conv => whnf)) | ((with_reducible refine brF ?_ ?_); (next => assumption); (conv => whnf)) | ((with_reducible refine brDT ?_ ?_); (next => omega); (conv => whnf)) | ((with_reducible refine brDF ?_ ?_); (next => omega); (conv => whnf)) | ((with_reducible refine brET ?_ ?_); (next => omega); (conv => whnf)) | ((with_reducible refine brEF ?_ ?_); (next => omega); (conv => whnf)) | ((with_reducible refine brNET ?_ ?_); (next => omega); (conv => whnf)) | ((with_reducible refine brNEF ?_ ?_); (next => omega); (conv => whnf)) | (with_reducible refine brNot ?_))
    refine CallH.lift seat_g c4 ⟨Cv.closed _, by simp [Closed], trivial⟩ (cvl_closed _) ?_
    conv => whnf
    repeat' (first | (refine WrapH.quo (by omega) (by omega) (by omega) ?_; conv => whnf) | (refine NumH.rem (by omega) ?_; conv => whnf) | (refine WrapH.is _ (wrap_i64 (by omega) (by omega)) ?_; conv => whnf) | (refine WrapH.is _ (wrap_u64 (by omega) (by omega)) ?_; conv => whnf) | (refine WrapH.is _ wrap_u64m ?_; conv => whnf) | (refine Req.mk (by omega) ?_; conv => whnf) | (refine Req.mk (by dsimp only; omega) ?_; conv => whnf) | (refine Req.mk ⟨rfl, rfl, rfl, by simp [ci_length, *], rfl, by simp [okCell], by dsimp only; omega, by omega, by decide⟩ ?_; conv => whnf) | (refine Req.mk (show pendP _ _ by repeat' constructor) ?_; conv => whnf) | ((with_reducible refine brT ?_ ?_); (next => assumption); (conv => whnf)) | ((with_reducible refine brF ?_ ?_); (next => assumption); (conv => whnf)) | ((with_reducible refine brDT ?_ ?_); (next => omega); (conv => whnf)) | ((with_reducible refine brDF ?_ ?_); (next => omega); (conv => whnf)) | ((with_reducible refine brET ?_ ?_); (next => omega); (conv => whnf)) | ((with_reducible refine brEF ?_ ?_); (next => omega); (conv => whnf)) | ((with_reducible refine brNET ?_ ?_); (next => omega); (conv => whnf)) | ((with_reducible refine brNEF ?_ ?_); (next => omega); (conv => whnf)) | (with_reducible refine brNot ?_))
    refine CallH.lift seat_g c1 ⟨Cv.closed c, trivial⟩ (by simp [Closed, ClosedL, Cv.c]) ?_
    conv => whnf
    refine Sat.range seat_ok seat_g (f := 32) (first := []) (caps := [.iptr c.c]) rfl trivial (by simp [Closed, ClosedL, Cv.c]) rfl rfl rfl (accS P)
      (pcI c P Q) (finS P) c2 ⟨[], P, rfl, .inl ⟨rfl, rfl, by simp, rfl⟩⟩ ?_ ?_
    · rintro seen args h1 ⟨L0, x, R, hP, hs0, rfl⟩ ⟨L, R0, hP0, ⟨-, rfl, hL, rfl⟩ | ⟨he, -⟩⟩
      rotate_left
      · cases he
      obtain rfl := toldS_inj hP hP0 hs0.symm
      refine ⟨rfl, codeR_sound seat_ok _ _ _ _ ?_⟩
      have hs := toldS_snoc L0 x
      have hl' : (L0 ++ [x]).length = L0.length + 1 := by simp
      have hP1 : P = (L0 ++ [x]) ++ R := by rw [hP]; simp
      by_cases g : L0.length < Q.length
      · have hx : Q[L0.length]? = some x := by
          rw [hQ] at g ⊢
          rw [List.length_take] at g
          rw [List.getElem?_take, if_pos (by omega), hP]; simp
        have hb : (x.p.x == x.p.x && (x.p.y == x.p.y && (x.q.x == x.q.x && (x.q.y == x.q.y && (x.r.x == x.r.x && (x.r.y == x.r.y && (x.s.x == x.s.x && (x.s.y == x.s.y && true)))))))) = true := by simp
        have hb2 : (x.s.x == x.s.x && (x.s.y == x.s.y && true)) = true := by simp
        conv => whnf
        refine ⟨rfl, codeR_sound seat_ok _ _ _ _ ?_⟩
        conv => whnf
        repeat' (first | (refine WrapH.quo (by omega) (by omega) (by omega) ?_; conv => whnf) | (refine NumH.rem (by omega) ?_; conv => whnf) | (refine WrapH.is _ (wrap_i64 (by omega) (by omega)) ?_; conv => whnf) | (refine WrapH.is _ (wrap_u64 (by omega) (by omega)) ?_; conv => whnf) | (refine WrapH.is _ wrap_u64m ?_; conv => whnf) | (refine Req.mk (by omega) ?_; conv => whnf) | (refine Req.mk (by dsimp only; omega) ?_; conv => whnf) | (refine Req.mk ⟨rfl, rfl, rfl, by simp [ci_length, *], rfl, by simp [okCell], by dsimp only; omega, by omega, by decide⟩ ?_; conv => whnf) | (refine Req.mk (show pendP _ _ by repeat' constructor) ?_; conv => whnf) | ((with_reducible refine brT ?_ ?_); (next => assumption); (conv => whnf)) | ((with_reducible refine brF ?_ ?_); (next => assumption); (conv => whnf)) | ((with_reducible refine brDT ?_ ?_); (next => omega); (conv => whnf)) | ((with_reducible refine brDF ?_ ?_); (next => omega); (conv => whnf)) | ((with_reducible refine brET ?_ ?_); (next => omega); (conv => whnf)) | ((with_reducible refine brEF ?_ ?_); (next => omega); (conv => whnf)) | ((with_reducible refine brNET ?_ ?_); (next => omega); (conv => whnf)) | ((with_reducible refine brNEF ?_ ?_); (next => omega); (conv => whnf)) | (with_reducible refine brNot ?_))
        refine DrawH.plan seat_ok (.take 0 (.take 1 (.take 2 (.take 3 (.take 4 (.take 5 (.take 6 (.take 7 (.take 8 (.take 9 (.take 10 (.take 11 (.take 12 (.take 13 (.take 14 (.take 15 (.take 16 (.take 17 Plan.done)))))))))))))))))) 0 (by kernel_rfl) ?_
        conv => whnf
        repeat' (first | exact roundEnd (pcH c Q (L0 ++ [x]).length) (by rw [hl']; rfl) ⟨L0 ++ [x], R, hP1, .inl ⟨rfl, hs, by rw [hl']; omega, rfl⟩⟩ (pcH_ids _ _ _) | (refine ldI _ (cs_sub (sz := 8) Cv.c_len hx) ?_; conv => whnf) | (refine brNot (brT hb ?_); conv => whnf) | (refine brNot (brT hb2 ?_); conv => whnf) | (first | (refine WrapH.quo (by omega) (by omega) (by omega) ?_; conv => whnf) | (refine NumH.rem (by omega) ?_; conv => whnf) | (refine WrapH.is _ (wrap_i64 (by omega) (by omega)) ?_; conv => whnf) | (refine WrapH.is _ (wrap_u64 (by omega) (by omega)) ?_; conv => whnf) | (refine WrapH.is _ wrap_u64m ?_; conv => whnf) | (refine Req.mk (by omega) ?_; conv => whnf) | (refine Req.mk (by dsimp only; omega) ?_; conv => whnf) | (refine Req.mk ⟨rfl, rfl, rfl, by simp [ci_length, *], rfl, by simp [okCell], by dsimp only; omega, by omega, by decide⟩ ?_; conv => whnf) | (refine Req.mk (show pendP _ _ by repeat' constructor) ?_; conv => whnf) | ((with_reducible refine brT ?_ ?_); (next => assumption); (conv => whnf)) | ((with_reducible refine brF ?_ ?_); (next => assumption); (conv => whnf)) | ((with_reducible refine brDT ?_ ?_); (next => omega); (conv => whnf)) | ((with_reducible refine brDF ?_ ?_); (next => omega); (conv => whnf)) | ((with_reducible refine brET ?_ ?_); (next => omega); (conv => whnf)) | ((with_reducible refine brEF ?_ ?_); (next => omega); (conv => whnf)) | ((with_reducible refine brNET ?_ ?_); (next => omega); (conv => whnf)) | ((with_reducible refine brNEF ?_ ?_); (next => omega); (conv => whnf)) | (with_reducible refine brNot ?_)) | (refine ⟨?_, ?_⟩ <;> (conv => whnf)))
      · conv => whnf
        refine ⟨rfl, codeR_sound seat_ok _ _ _ _ ?_⟩
        conv => whnf
        repeat' (first | (refine WrapH.quo (by omega) (by omega) (by omega) ?_; conv => whnf) | (refine NumH.rem (by omega) ?_; conv => whnf) | (refine WrapH.is _ (wrap_i64 (by omega) (by omega)) ?_; conv => whnf) | (refine WrapH.is _ (wrap_u64 (by omega) (by omega)) ?_; conv => whnf) | (refine WrapH.is _ wrap_u64m ?_; conv => whnf) | (refine Req.mk (by omega) ?_; conv => whnf) | (refine Req.mk (by dsimp only; omega) ?_; conv => whnf) | (refine Req.mk ⟨rfl, rfl, rfl, by simp [ci_length, *], rfl, by simp [okCell], by dsimp only; omega, by omega, by decide⟩ ?_; conv => whnf) | (refine Req.mk (show pendP _ _ by repeat' constructor) ?_; conv => whnf) | ((with_reducible refine brT ?_ ?_); (next => assumption); (conv => whnf)) | ((with_reducible refine brF ?_ ?_); (next => assumption); (conv => whnf)) | ((with_reducible refine brDT ?_ ?_); (next => omega); (conv => whnf)) | ((with_reducible refine brDF ?_ ?_); (next => omega); (conv => whnf)) | ((with_reducible refine brET ?_ ?_); (next => omega); (conv => whnf)) | ((with_reducible refine brEF ?_ ?_); (next => omega); (conv => whnf)) | ((with_reducible refine brNET ?_ ?_); (next => omega); (conv => whnf)) | ((with_reducible refine brNEF ?_ ?_); (next => omega); (conv => whnf)) | (with_reducible refine brNot ?_))
        exact roundEnd (pcH c Q Q.length) (by rw [show L0.length = Q.length by omega]; rfl) ⟨L0 ++ [x], R, hP1, .inr ⟨rfl, rfl⟩⟩ (pcH_ids _ _ _)
    · rintro seen e h1 ⟨L0, R, hP, hs0, hst⟩ ⟨L, R0, hP0, ⟨rfl, rfl, hL, rfl⟩ | ⟨rfl, rfl⟩⟩
      · obtain rfl := toldS_inj hP hP0 hs0.symm
        obtain rfl := hst rfl
        have : Q.length ≤ L0.length := by rw [hQ, List.length_take, hP]; simp; omega
        rw [show L0.length = Q.length by omega]
        conv => whnf
        exact congrArg AEnd.ret (congrArg AV.bool (by simp))
      · conv => whnf
        exact congrArg AEnd.ret (congrArg AV.bool (by simp))
  · rw [decide_eq_false hr] at cr
    conv => whnf
    refine CallH.lift seat_g c_wakes trivial (by simp [Closed]) ?_
    conv => whnf
    refine CallH.lift seat_g cr ⟨Cv.closed _, trivial⟩ (by simp [Closed]) ?_
    conv => whnf
    rfl

def jnH (c : Cv) (b : Bool) (a : Pt) (n : Nat) : Heap := [.var c.c 25, .var [.bool b] 4, .tok 4 23 2, .var c.p.c 23, .var c.q.c 23, .var c.r.c 23, .var c.s.c 23, .var a.c 23, .var [.int .i64 n] 3]
def jnI (c : Cv) (P : List Cv) (seen : List (List AV)) (e : AExit) (H : Heap) : Prop := ∃ L R : List Cv, P = L ++ R ∧ seen = toldC L ∧ ((e = .normal ∧ L.length < 5000 ∧ H = jnH c false (endOf c.p L) L.length) ∨ (e = .ret ∧ H = jnH c true (endOf c.p L) L.length))
theorem jnH_ids (c : Cv) (b : Bool) (a : Pt) (n : Nat) : IdsH (· < 9) (jnH c b a n) := by simp [jnH, IdsH, IdsC, IdsL, Ids, Cv.c, Pt.c]
set_option maxRecDepth 20000 in
theorem l_flatJoins (c : Cv) : ACalls seat 3 [c.a] [] (fun x _ => x = .ret (.bool true)) := by
  refine ACalls.body seat_ok Try.func3 rfl rfl ?_
  by_cases hb : c.in 8589934592
  · have hin : c.in 4398046511104 := Cv.in_mono hb (by decide)
    have c1 := c_pieces c
    have c2 := c_tell c hin
    have hpos := pieces_pos 20 c
    have hch := pieces_chain 20 c
    have hfl : ∀ x ∈ pieces 20 c, x.flat := pieces20_flat hb
    have hpin : ∀ x ∈ pieces 20 c, x.in 4398046511104 := pieces_in 20 hin
    generalize pieces 20 c = P at *
    obtain ⟨⟨⟨g1, g2⟩, g3, g4⟩, ⟨g5, g6⟩, g7, g8⟩ := hb
    conv => whnf
    refine CallH.lift seat_g c_wakes trivial (by simp [Closed]) ?_
    conv => whnf
    repeat' (first | (refine WrapH.quo (by omega) (by omega) (by omega) ?_; conv => whnf) | (refine NumH.rem (by omega) ?_; conv => whnf) | (refine WrapH.is _ (wrap_i64 (by omega) (by omega)) ?_; conv => whnf) | (refine WrapH.is _ (wrap_u64 (by omega) (by omega)) ?_; conv => whnf) | (refine WrapH.is _ wrap_u64m ?_; conv => whnf) | (refine Req.mk (by omega) ?_; conv => whnf) | (refine Req.mk (by dsimp only; omega) ?_; conv => whnf) | (refine Req.mk ⟨rfl, rfl, rfl, by simp [ci_length, *], rfl, by simp [okCell], by dsimp only; omega, by omega, by decide⟩ ?_; conv => whnf) | (refine Req.mk (show pendP _ _ by repeat' constructor) ?_; conv => whnf) | ((with_reducible refine brT ?_ ?_); (next => assumption); (conv => whnf)) | ((with_reducible refine brF ?_ ?_); (next => assumption); (conv => whnf)) | ((with_reducible refine brDT ?_ ?_); (next => omega); (conv => whnf)) | ((with_reducible refine brDF ?_ ?_); (next => omega); (conv => whnf)) | ((with_reducible refine brET ?_ ?_); (next => omega); (conv => whnf)) | ((with_reducible refine brEF ?_ ?_); (next => omega); (conv => whnf)) | ((with_reducible refine brNET ?_ ?_); (next => omega); (conv => whnf)) | ((with_reducible refine brNEF ?_ ?_); (next => omega); (conv => whnf)) | (with_reducible refine brNot ?_))
    refine Sat.unroll seat_ok 6 ?_
    conv => whnf
    repeat' (first | (refine WrapH.quo (by omega) (by omega) (by omega) ?_; conv => whnf) | (refine NumH.rem (by omega) ?_; conv => whnf) | (refine WrapH.is _ (wrap_i64 (by omega) (by omega)) ?_; conv => whnf) | (refine WrapH.is _ (wrap_u64 (by omega) (by omega)) ?_; conv => whnf) | (refine WrapH.is _ wrap_u64m ?_; conv => whnf) | (refine Req.mk (by omega) ?_; conv => whnf) | (refine Req.mk (by dsimp only; omega) ?_; conv => whnf) | (refine Req.mk ⟨rfl, rfl, rfl, by simp [ci_length, *], rfl, by simp [okCell], by dsimp only; omega, by omega, by decide⟩ ?_; conv => whnf) | (refine Req.mk (show pendP _ _ by repeat' constructor) ?_; conv => whnf) | ((with_reducible refine brT ?_ ?_); (next => assumption); (conv => whnf)) | ((with_reducible refine brF ?_ ?_); (next => assumption); (conv => whnf)) | ((with_reducible refine brDT ?_ ?_); (next => omega); (conv => whnf)) | ((with_reducible refine brDF ?_ ?_); (next => omega); (conv => whnf)) | ((with_reducible refine brET ?_ ?_); (next => omega); (conv => whnf)) | ((with_reducible refine brEF ?_ ?_); (next => omega); (conv => whnf)) | ((with_reducible refine brNET ?_ ?_); (next => omega); (conv => whnf)) | ((with_reducible refine brNEF ?_ ?_); (next => omega); (conv => whnf)) | (with_reducible refine brNot ?_))
    refine CallH.lift seat_g c1 ⟨Cv.closed c, trivial⟩ (by simp [Closed, ClosedL, Cv.c]) ?_
    conv => whnf
    repeat' (first | (refine WrapH.quo (by omega) (by omega) (by omega) ?_; conv => whnf) | (refine NumH.rem (by omega) ?_; conv => whnf) | (refine WrapH.is _ (wrap_i64 (by omega) (by omega)) ?_; conv => whnf) | (refine WrapH.is _ (wrap_u64 (by omega) (by omega)) ?_; conv => whnf) | (refine WrapH.is _ wrap_u64m ?_; conv => whnf) | (refine Req.mk (by omega) ?_; conv => whnf) | (refine Req.mk (by dsimp only; omega) ?_; conv => whnf) | (refine Req.mk ⟨rfl, rfl, rfl, by simp [ci_length, *], rfl, by simp [okCell], by dsimp only; omega, by omega, by decide⟩ ?_; conv => whnf) | (refine Req.mk (show pendP _ _ by repeat' constructor) ?_; conv => whnf) | ((with_reducible refine brT ?_ ?_); (next => assumption); (conv => whnf)) | ((with_reducible refine brF ?_ ?_); (next => assumption); (conv => whnf)) | ((with_reducible refine brDT ?_ ?_); (next => omega); (conv => whnf)) | ((with_reducible refine brDF ?_ ?_); (next => omega); (conv => whnf)) | ((with_reducible refine brET ?_ ?_); (next => omega); (conv => whnf)) | ((with_reducible refine brEF ?_ ?_); (next => omega); (conv => whnf)) | ((with_reducible refine brNET ?_ ?_); (next => omega); (conv => whnf)) | ((with_reducible refine brNEF ?_ ?_); (next => omega); (conv => whnf)) | (with_reducible refine brNot ?_))
    refine Sat.range seat_ok seat_g (f := 21) (first := []) (caps := [.iptr c.c]) rfl trivial (by simp [Closed, ClosedL, Cv.c]) rfl rfl rfl (accC P)
      (jnI c P) (finC P) c2 ⟨[], P, rfl, rfl, .inl ⟨rfl, by simp, rfl⟩⟩ ?_ ?_
    · rintro seen args h1 ⟨L0, x, R, hP, hs0, rfl⟩ ⟨L, R0, hP0, rfl, ⟨-, hL, rfl⟩ | ⟨he, -⟩⟩
      rotate_left
      · cases he
      obtain rfl := toldC_inj hs0
      refine ⟨rfl, codeR_sound seat_ok _ _ _ _ ?_⟩
      have hs := toldC_snoc L x
      have hl' : (L ++ [x]).length = L.length + 1 := by simp
      have hP1 : P = (L ++ [x]) ++ R := by rw [hP]; simp
      have hx : x ∈ P := by rw [hP]; simp
      have hat : x.p = endOf c.p L := chain_at (by rw [hP] at hch; exact hch)
      have hen := endOf_snoc c.p L x
      have cf := c_rflat x (hpin x hx)
      rw [decide_eq_true (hfl x hx)] at cf
      rw [← hat]
      have hbb : (x.p.x == x.p.x && (x.p.y == x.p.y && true)) = true := by simp
      by_cases g : L.length + 1 = 5000
      · conv => whnf
        refine ⟨rfl, codeR_sound seat_ok _ _ _ _ ?_⟩
        conv => whnf
        repeat' (first | (refine brNot (brT hbb ?_); conv => whnf) | (refine CallH.lift seat_g cf ⟨Cv.closed x, trivial⟩ (by simp [Closed]) ?_; conv => whnf) | (first | (refine WrapH.quo (by omega) (by omega) (by omega) ?_; conv => whnf) | (refine NumH.rem (by omega) ?_; conv => whnf) | (refine WrapH.is _ (wrap_i64 (by omega) (by omega)) ?_; conv => whnf) | (refine WrapH.is _ (wrap_u64 (by omega) (by omega)) ?_; conv => whnf) | (refine WrapH.is _ wrap_u64m ?_; conv => whnf) | (refine Req.mk (by omega) ?_; conv => whnf) | (refine Req.mk (by dsimp only; omega) ?_; conv => whnf) | (refine Req.mk ⟨rfl, rfl, rfl, by simp [ci_length, *], rfl, by simp [okCell], by dsimp only; omega, by omega, by decide⟩ ?_; conv => whnf) | (refine Req.mk (show pendP _ _ by repeat' constructor) ?_; conv => whnf) | ((with_reducible refine brT ?_ ?_); (next => assumption); (conv => whnf)) | ((with_reducible refine brF ?_ ?_); (next => assumption); (conv => whnf)) | ((with_reducible refine brDT ?_ ?_); (next => omega); (conv => whnf)) | ((with_reducible refine brDF ?_ ?_); (next => omega); (conv => whnf)) | ((with_reducible refine brET ?_ ?_); (next => omega); (conv => whnf)) | ((with_reducible refine brEF ?_ ?_); (next => omega); (conv => whnf)) | ((with_reducible refine brNET ?_ ?_); (next => omega); (conv => whnf)) | ((with_reducible refine brNEF ?_ ?_); (next => omega); (conv => whnf)) | (with_reducible refine brNot ?_)))
        exact roundEnd (jnH c true (endOf c.p (L ++ [x])) (L ++ [x]).length) (by rw [hl', hen]; rfl) ⟨L ++ [x], R, hP1, hs, .inr ⟨rfl, rfl⟩⟩ (jnH_ids _ _ _ _)
      · conv => whnf
        refine ⟨rfl, codeR_sound seat_ok _ _ _ _ ?_⟩
        conv => whnf
        repeat' (first | (refine brNot (brT hbb ?_); conv => whnf) | (refine CallH.lift seat_g cf ⟨Cv.closed x, trivial⟩ (by simp [Closed]) ?_; conv => whnf) | (first | (refine WrapH.quo (by omega) (by omega) (by omega) ?_; conv => whnf) | (refine NumH.rem (by omega) ?_; conv => whnf) | (refine WrapH.is _ (wrap_i64 (by omega) (by omega)) ?_; conv => whnf) | (refine WrapH.is _ (wrap_u64 (by omega) (by omega)) ?_; conv => whnf) | (refine WrapH.is _ wrap_u64m ?_; conv => whnf) | (refine Req.mk (by omega) ?_; conv => whnf) | (refine Req.mk (by dsimp only; omega) ?_; conv => whnf) | (refine Req.mk ⟨rfl, rfl, rfl, by simp [ci_length, *], rfl, by simp [okCell], by dsimp only; omega, by omega, by decide⟩ ?_; conv => whnf) | (refine Req.mk (show pendP _ _ by repeat' constructor) ?_; conv => whnf) | ((with_reducible refine brT ?_ ?_); (next => assumption); (conv => whnf)) | ((with_reducible refine brF ?_ ?_); (next => assumption); (conv => whnf)) | ((with_reducible refine brDT ?_ ?_); (next => omega); (conv => whnf)) | ((with_reducible refine brDF ?_ ?_); (next => omega); (conv => whnf)) | ((with_reducible refine brET ?_ ?_); (next => omega); (conv => whnf)) | ((with_reducible refine brEF ?_ ?_); (next => omega); (conv => whnf)) | ((with_reducible refine brNET ?_ ?_); (next => omega); (conv => whnf)) | ((with_reducible refine brNEF ?_ ?_); (next => omega); (conv => whnf)) | (with_reducible refine brNot ?_)))
        exact roundEnd (jnH c false (endOf c.p (L ++ [x])) (L ++ [x]).length) (by rw [hl', hen]; rfl) ⟨L ++ [x], R, hP1, hs, .inl ⟨rfl, by rw [hl']; omega, rfl⟩⟩ (jnH_ids _ _ _ _)
    · rintro seen e h1 ⟨L0, R, hP, hs0, hst⟩ ⟨L, R0, hP0, hs, ⟨rfl, hL, rfl⟩ | ⟨rfl, rfl⟩⟩
      · obtain rfl := toldC_inj (hs0.symm.trans hs)
        obtain rfl := hst rfl
        rw [List.append_nil] at hP; subst hP
        rw [chain_end hch]
        have hbb : (c.s.x == c.s.x && (c.s.y == c.s.y && true)) = true := by simp
        have : (1 : Int) ≤ P.length := by omega
        conv => whnf
        repeat' (first | (refine WrapH.quo (by omega) (by omega) (by omega) ?_; conv => whnf) | (refine NumH.rem (by omega) ?_; conv => whnf) | (refine WrapH.is _ (wrap_i64 (by omega) (by omega)) ?_; conv => whnf) | (refine WrapH.is _ (wrap_u64 (by omega) (by omega)) ?_; conv => whnf) | (refine WrapH.is _ wrap_u64m ?_; conv => whnf) | (refine Req.mk (by omega) ?_; conv => whnf) | (refine Req.mk (by dsimp only; omega) ?_; conv => whnf) | (refine Req.mk ⟨rfl, rfl, rfl, by simp [ci_length, *], rfl, by simp [okCell], by dsimp only; omega, by omega, by decide⟩ ?_; conv => whnf) | (refine Req.mk (show pendP _ _ by repeat' constructor) ?_; conv => whnf) | ((with_reducible refine brT ?_ ?_); (next => assumption); (conv => whnf)) | ((with_reducible refine brF ?_ ?_); (next => assumption); (conv => whnf)) | ((with_reducible refine brDT ?_ ?_); (next => omega); (conv => whnf)) | ((with_reducible refine brDF ?_ ?_); (next => omega); (conv => whnf)) | ((with_reducible refine brET ?_ ?_); (next => omega); (conv => whnf)) | ((with_reducible refine brEF ?_ ?_); (next => omega); (conv => whnf)) | ((with_reducible refine brNET ?_ ?_); (next => omega); (conv => whnf)) | ((with_reducible refine brNEF ?_ ?_); (next => omega); (conv => whnf)) | (with_reducible refine brNot ?_))
        exact congrArg AEnd.ret (congrArg AV.bool hbb)
      · conv => whnf
        rfl
  · unfold Cv.in Pt.in at hb
    conv => whnf
    refine CallH.lift seat_g c_wakes trivial (by simp [Closed]) ?_
    conv => whnf
    repeat' (first | (refine WrapH.quo (by omega) (by omega) (by omega) ?_; conv => whnf) | (refine NumH.rem (by omega) ?_; conv => whnf) | (refine WrapH.is _ (wrap_i64 (by omega) (by omega)) ?_; conv => whnf) | (refine WrapH.is _ (wrap_u64 (by omega) (by omega)) ?_; conv => whnf) | (refine WrapH.is _ wrap_u64m ?_; conv => whnf) | (refine Req.mk (by omega) ?_; conv => whnf) | (refine Req.mk (by dsimp only; omega) ?_; conv => whnf) | (refine Req.mk ⟨rfl, rfl, rfl, by simp [ci_length, *], rfl, by simp [okCell], by dsimp only; omega, by omega, by decide⟩ ?_; conv => whnf) | (refine Req.mk (show pendP _ _ by repeat' constructor) ?_; conv => whnf) | ((with_reducible refine brT ?_ ?_); (next => assumption); (conv => whnf)) | ((with_reducible refine brF ?_ ?_); (next => assumption); (conv => whnf)) | ((with_reducible refine brDT ?_ ?_); (next => omega); (conv => whnf)) | ((with_reducible refine brDF ?_ ?_); (next => omega); (conv => whnf)) | ((with_reducible refine brET ?_ ?_); (next => omega); (conv => whnf)) | ((with_reducible refine brEF ?_ ?_); (next => omega); (conv => whnf)) | ((with_reducible refine brNET ?_ ?_); (next => omega); (conv => whnf)) | ((with_reducible refine brNEF ?_ ?_); (next => omega); (conv => whnf)) | (with_reducible refine brNot ?_))
    refine Sat.unroll seat_ok 6 ?_
    conv => whnf
    repeat' (first | (first | (refine WrapH.quo (by omega) (by omega) (by omega) ?_; conv => whnf) | (refine NumH.rem (by omega) ?_; conv => whnf) | (refine WrapH.is _ (wrap_i64 (by omega) (by omega)) ?_; conv => whnf) | (refine WrapH.is _ (wrap_u64 (by omega) (by omega)) ?_; conv => whnf) | (refine WrapH.is _ wrap_u64m ?_; conv => whnf) | (refine Req.mk (by omega) ?_; conv => whnf) | (refine Req.mk (by dsimp only; omega) ?_; conv => whnf) | (refine Req.mk ⟨rfl, rfl, rfl, by simp [ci_length, *], rfl, by simp [okCell], by dsimp only; omega, by omega, by decide⟩ ?_; conv => whnf) | (refine Req.mk (show pendP _ _ by repeat' constructor) ?_; conv => whnf) | ((with_reducible refine brT ?_ ?_); (next => assumption); (conv => whnf)) | ((with_reducible refine brF ?_ ?_); (next => assumption); (conv => whnf)) | ((with_reducible refine brDT ?_ ?_); (next => omega); (conv => whnf)) | ((with_reducible refine brDF ?_ ?_); (next => omega); (conv => whnf)) | ((with_reducible refine brET ?_ ?_); (next => omega); (conv => whnf)) | ((with_reducible refine brEF ?_ ?_); (next => omega); (conv => whnf)) | ((with_reducible refine brNET ?_ ?_); (next => omega); (conv => whnf)) | ((with_reducible refine brNEF ?_ ?_); (next => omega); (conv => whnf)) | (with_reducible refine brNot ?_)) | (first | ((with_reducible refine brD (fun _ => ?_) (fun _ => ?_)) <;> (conv => whnf)) | ((with_reducible refine brE (fun _ => ?_) (fun _ => ?_)) <;> (conv => whnf)) | ((with_reducible refine brNE (fun _ => ?_) (fun _ => ?_)) <;> (conv => whnf)) | ((with_reducible refine brI (fun _ => ?_) (fun _ => ?_)) <;> (conv => whnf))))
    all_goals first | rfl | (exfalso; omega)
end Go.Proofs.Ytfiekficbbikaaa
