/- Definitions and lemmas for the law, part 5. No condition beyond those in each statement. -/
import Derived.Test.YteicdddheaajlaaDoorT4
set_option linter.unusedSimpArgs false
set_option linter.unusedVariables false
set_option linter.deprecated false
namespace Go.Proofs.YteicdddheaajlaaDoor
open Go.Abs
def stH (s : St) : Heap := [.var (stC s) 68, .tok s.out.length 43 12]
theorem stH_ids (s : St) : IdsH (· < 2) (stH s) := by simp [stH, stC, IdsH, IdsC, IdsL, Ids, sg_ids]
theorem CallH.st {f : Nat} {args args0 : List AV} {s s' : St} {rest : Heap} {v : AV} {k : AEnd → Heap → Prop} (hA : ACalls seat f args (stH s) (fun r h' => r = .ret v ∧ h' = stH s'))
    (h1 : IdsL (· < 2) args) (h4 : Ids (· < 2) v) (ha : args0 = args) (hk : k (.ret v) (stH s' ++ rest)) : CallH seat f args0 (stH s ++ rest) k := by
  subst ha; exact CallH.mem01 seat_g hA h1 (stH_ids s) (stH_ids s') h4 hk
theorem c_within2 (a b : Int) : ACalls seat 38 [.int .i64 4294967296, .vec [.int .i64 a, .int .i64 b] 2 none] [] (fun x _ => x = .ret (.bool (decide (IB a ∧ IB b)))) := by
  refine ACalls.body seat_ok Tryd.func38 rfl rfl ?_
  unfold IB
  by_cases h : (-4294967296 < a ∧ a < 4294967296) ∧ -4294967296 < b ∧ b < 4294967296
  · rw [decide_eq_true h]
    conv => whnf
    repeat' ((first | refine zs (by omega) ?_ | refine zq6 ?_ | refine zs (by dsimp only; omega) ?_ | refine zs (show pendP _ _ by repeat' constructor) ?_ | (with_reducible first | refine brT ‹_› ?_ | refine brF ‹_› ?_ | refine zt (by omega) ?_ | refine zf (by omega) ?_ | refine brNot ?_)); conv => whnf)
    refine Sat.unroll seat_ok 4 ?_
    conv => whnf
    repeat' ((first | refine zs (by omega) ?_ | refine zq6 ?_ | refine zs (by dsimp only; omega) ?_ | refine zs (show pendP _ _ by repeat' constructor) ?_ | (with_reducible first | refine brT ‹_› ?_ | refine brF ‹_› ?_ | refine zt (by omega) ?_ | refine zf (by omega) ?_ | refine brNot ?_)); conv => whnf)
    rfl
  · rw [decide_eq_false h]
    conv => whnf
    repeat' ((first | refine zs (by omega) ?_ | refine zq6 ?_ | refine zs (by dsimp only; omega) ?_ | refine zs (show pendP _ _ by repeat' constructor) ?_ | (with_reducible first | refine brT ‹_› ?_ | refine brF ‹_› ?_ | refine zt (by omega) ?_ | refine zf (by omega) ?_ | refine brNot ?_)); conv => whnf)
    refine Sat.unroll seat_ok 4 ?_
    conv => whnf
    repeat' (first | ((first | refine zs (by omega) ?_ | refine zq6 ?_ | refine zs (by dsimp only; omega) ?_ | refine zs (show pendP _ _ by repeat' constructor) ?_ | (with_reducible first | refine brT ‹_› ?_ | refine brF ‹_› ?_ | refine zt (by omega) ?_ | refine zf (by omega) ?_ | refine brNot ?_)); conv => whnf) | (first | ((with_reducible refine brD (fun _ => ?_) (fun _ => ?_)) <;> (conv => whnf)) | ((with_reducible refine brE (fun _ => ?_) (fun _ => ?_)) <;> (conv => whnf)) | ((with_reducible refine brNE (fun _ => ?_) (fun _ => ?_)) <;> (conv => whnf)) | ((with_reducible refine brI (fun _ => ?_) (fun _ => ?_)) <;> (conv => whnf))))
    all_goals first | rfl | (exfalso; omega)
def sumOk (f : Pt) (x y : Int) : Prop := (-9000000000000000000 < f.x + x ∧ f.x + x < 9000000000000000000) ∧ (-9000000000000000000 < f.y + y ∧ f.y + y < 9000000000000000000)
theorem c_point (s : St) (f : Pt) (x y : Int) (hb : sumOk f x y) : ACalls seat 75 [.ptr 0 0, f.a, .int .i64 x, .int .i64 y] (stH s) (fun r h => r = .ret (adP f x y).a ∧ h = stH (tell s (adP f x y))) := by
  refine ACalls.take seat_g 2 (by simp [stH]) (by simp [Ids, IdsL, Pt.a, Pt.c]) (stH_ids _) ?_
  refine ACalls.body seat_ok Tryd.func75 rfl rfl ?_
  unfold sumOk at hb
  have cw := c_within2 (f.x + x) (f.y + y)
  by_cases g : IB (f.x + x) ∧ IB (f.y + y)
  · rw [decide_eq_true g] at cw
    have e : tell s (adP f x y) = s := by
      unfold tell; rw [decide_eq_true (show inP (adP f x y) from g)]; cases s; simp
    rw [e]
    clear g e
    conv => whnf
    repeat' (first | exact ⟨rfl, rfl⟩ | (refine CallH.weakA (WeakL.cons (Weak.refl _) (WeakL.cons Weak.tok WeakL.nil)) ?_; refine lf seat_g cw ?_; conv => whnf) | ((first | refine zs (by omega) ?_ | refine zq6 ?_ | refine zs (by dsimp only; omega) ?_ | refine zs (show pendP _ _ by repeat' constructor) ?_ | (with_reducible first | refine brT ‹_› ?_ | refine brF ‹_› ?_ | refine zt (by omega) ?_ | refine zf (by omega) ?_ | refine brNot ?_)); conv => whnf))
  · rw [decide_eq_false g] at cw
    have e : tell s (adP f x y) = { s with bad := true } := by
      unfold tell; rw [decide_eq_false (show ¬ inP (adP f x y) from g)]; simp
    rw [e]
    clear g e
    conv => whnf
    repeat' (first | exact ⟨rfl, rfl⟩ | (refine CallH.weakA (WeakL.cons (Weak.refl _) (WeakL.cons Weak.tok WeakL.nil)) ?_; refine lf seat_g cw ?_; conv => whnf) | ((first | refine zs (by omega) ?_ | refine zq6 ?_ | refine zs (by dsimp only; omega) ?_ | refine zs (show pendP _ _ by repeat' constructor) ?_ | (with_reducible first | refine brT ‹_› ?_ | refine brF ‹_› ?_ | refine zt (by omega) ?_ | refine zf (by omega) ?_ | refine brNot ?_)); conv => whnf))
theorem c_put (s : St) (x : Sg) (hl : s.out.length ≤ 1000000) : ACalls seat 47 [.ptr 0 0, .agg (sgC x)] (stH s) (fun r h => r = .ret (.tup []) ∧ h = stH (putS s x)) := by
  refine ACalls.take seat_g 2 (by simp [stH]) (by simp [Ids, IdsL]) (stH_ids _) ?_
  refine ACalls.body seat_ok Tryd.func47 rfl rfl ?_
  have hlen := sg_length s.out
  have e : stH (putS s x) = [.var (stC { putS s x with out := s.out ++ [x] }) 68, .tok (s.out.length + 1) 43 12] := by simp [stH, putS]
  have e2 : AV.vec (cs sgC (s.out ++ [x])) (s.out ++ [x]).length (some 1) = .vec (cs sgC s.out ++ sgC x) (s.out.length + 1) (some 1) := by rw [sg_snoc]; simp
  have e3 : stC { putS s x with out := s.out ++ [x] } = [.int .i64 x.to.x, .int .i64 x.to.y, .int .i64 s.bg.x, .int .i64 s.bg.y, .bool s.opn, .int .u8 s.was, .int .i64 s.ct.x, .int .i64 s.ct.y, .vec (cs sgC s.out ++ sgC x) (s.out.length + 1) (some 1), .bool s.bad] := by
    unfold stC; simp only; rw [e2]; rfl
  rw [e, e3]
  clear e e2 e3
  conv => whnf
  repeat' ((first | refine zs (by omega) ?_ | refine zq6 ?_ | refine zs (by dsimp only; omega) ?_ | refine zs (show pendP _ _ by repeat' constructor) ?_ | (with_reducible first | refine brT ‹_› ?_ | refine brF ‹_› ?_ | refine zt (by omega) ?_ | refine zf (by omega) ?_ | refine brNot ?_)); conv => whnf)
  refine DrawH.plan seat_ok (.take 0 (.take 1 (.take 2 (.take 3 (.take 4 (.take 5 (.perform 6 (some 3) (.perform 7 (some 4) (.take 8 (.take 9 (.perform 10 none Plan.done))))))))))) 2 (by kernel_rfl) ?_
  conv => whnf
  repeat' (first | exact ⟨rfl, rfl⟩ | (refine Req.mk ⟨rfl, rfl, rfl, hlen, rfl, by simp [okCell, sgC], by dsimp only; omega, by omega, by decide⟩ ?_; conv => whnf) | ((first | refine zs (by omega) ?_ | refine zq6 ?_ | refine zs (by dsimp only; omega) ?_ | refine zs (show pendP _ _ by repeat' constructor) ?_ | (with_reducible first | refine brT ‹_› ?_ | refine brF ‹_› ?_ | refine zt (by omega) ?_ | refine zf (by omega) ?_ | refine brNot ?_)); conv => whnf))
end Go.Proofs.YteicdddheaajlaaDoor
namespace Go.Proofs.YteicdddheaajlaaDoor
open Go.Abs
theorem sum_ok {f : Pt} {x y : Int} (hf : inP f) (hx : IB x) (hy : IB y) : sumOk f x y := by
  unfold inP at hf; unfold IB at *; unfold sumOk; omega
theorem IB0 : IB 0 := by decide
theorem inP0 : inP p0 := by decide
set_option maxRecDepth 20000 in
theorem c_mirror (s : St) (a b : Int) (hp : inP s.pos) (hc : inP s.ct) : ACalls seat 76 [.ptr 0 0, .int .u8 a, .int .u8 b] (stH s) (fun r h => r = .ret (mirP s a b).a ∧ h = stH (mirS s a b)) := by
  refine ACalls.take seat_g 2 (by simp [stH]) (by simp [Ids, IdsL, Pt.a, Pt.c]) (stH_ids _) ?_
  refine ACalls.body seat_ok Tryd.func76 rfl rfl ?_
  have hx : I64 (s.pos.x - s.ct.x) ∧ I64 (s.pos.y - s.ct.y) := by
    unfold inP IB at *; unfold I64; omega
  have cp := c_point s s.pos (s.pos.x - s.ct.x) (s.pos.y - s.ct.y) (by unfold inP IB at *; unfold sumOk; omega)
  unfold I64 at hx
  have h3 : s.was = a ∨ (s.was ≠ a ∧ s.was = b) ∨ (s.was ≠ a ∧ s.was ≠ b) := by omega
  rcases h3 with g | ⟨g, g2⟩ | ⟨g, g2⟩
  · have e1 : mirP s a b = adP s.pos (s.pos.x - s.ct.x) (s.pos.y - s.ct.y) := if_pos (.inl g)
    have e2 : mirS s a b = tell s (adP s.pos (s.pos.x - s.ct.x) (s.pos.y - s.ct.y)) := by unfold mirS; rw [if_pos (.inl g), e1]
    rw [e1, e2]
    clear e1 e2
    conv => whnf
    repeat' ((first | refine zs (by omega) ?_ | refine zq6 ?_ | refine zs (by dsimp only; omega) ?_ | refine zs (show pendP _ _ by repeat' constructor) ?_ | (with_reducible first | refine brT ‹_› ?_ | refine brF ‹_› ?_ | refine zt (by omega) ?_ | refine zf (by omega) ?_ | refine brNot ?_)); conv => whnf)
    refine DrawH.plan seat_ok (.take 0 (.take 1 (.take 2 (.take 3 (.take 4 (.take 5 (.take 6 (.take 7 (.take 8 (.take 9 (.take 10 (.take 11 (.take 12 (.take 13 (.take 14 (.take 16 (.take 17 (.take 18 (.take 19 (.take 20 (.take 21 (.take 22 (.take 23 (.take 24 (.take 25 (.both (.perform 15 none (.perform 26 none (.perform 27 none (.perform 28 none Plan.done)))) (.perform 26 none (.perform 15 none (.perform 27 none (.perform 28 none Plan.done)))))))))))))))))))))))))))))) 0 (by kernel_rfl) ?_
    conv => whnf
    repeat' (first | exact ⟨rfl, rfl⟩ | (refine CallH.st cp (by simp [IdsL, Ids, Pt.a, Pt.c, sgC]) (by simp [Ids, IdsL, Pt.a, Pt.c]) rfl ?_; conv => whnf) | ((first | refine zs (by omega) ?_ | refine zq6 ?_ | refine zs (by dsimp only; omega) ?_ | refine zs (show pendP _ _ by repeat' constructor) ?_ | (with_reducible first | refine brT ‹_› ?_ | refine brF ‹_› ?_ | refine zt (by omega) ?_ | refine zf (by omega) ?_ | refine brNot ?_)); conv => whnf) | (refine And.intro ?_ ?_ <;> (conv => whnf)))
  · have e1 : mirP s a b = adP s.pos (s.pos.x - s.ct.x) (s.pos.y - s.ct.y) := if_pos (.inr g2)
    have e2 : mirS s a b = tell s (adP s.pos (s.pos.x - s.ct.x) (s.pos.y - s.ct.y)) := by unfold mirS; rw [if_pos (.inr g2), e1]
    rw [e1, e2]
    clear e1 e2
    conv => whnf
    repeat' ((first | refine zs (by omega) ?_ | refine zq6 ?_ | refine zs (by dsimp only; omega) ?_ | refine zs (show pendP _ _ by repeat' constructor) ?_ | (with_reducible first | refine brT ‹_› ?_ | refine brF ‹_› ?_ | refine zt (by omega) ?_ | refine zf (by omega) ?_ | refine brNot ?_)); conv => whnf)
    refine DrawH.plan seat_ok (.take 0 (.take 1 (.take 2 (.take 3 (.take 4 (.take 5 (.take 6 (.take 7 (.take 8 (.take 9 (.take 10 (.take 11 (.take 12 (.take 13 (.take 14 (.take 16 (.take 17 (.take 18 (.take 19 (.take 20 (.take 21 (.take 22 (.take 23 (.take 24 (.take 25 (.both (.perform 15 none (.perform 26 none (.perform 27 none (.perform 28 none Plan.done)))) (.perform 26 none (.perform 15 none (.perform 27 none (.perform 28 none Plan.done)))))))))))))))))))))))))))))) 0 (by kernel_rfl) ?_
    conv => whnf
    repeat' (first | exact ⟨rfl, rfl⟩ | (refine CallH.st cp (by simp [IdsL, Ids, Pt.a, Pt.c, sgC]) (by simp [Ids, IdsL, Pt.a, Pt.c]) rfl ?_; conv => whnf) | ((first | refine zs (by omega) ?_ | refine zq6 ?_ | refine zs (by dsimp only; omega) ?_ | refine zs (show pendP _ _ by repeat' constructor) ?_ | (with_reducible first | refine brT ‹_› ?_ | refine brF ‹_› ?_ | refine zt (by omega) ?_ | refine zf (by omega) ?_ | refine brNot ?_)); conv => whnf) | (refine And.intro ?_ ?_ <;> (conv => whnf)))
  · have e1 : mirP s a b = s.pos := if_neg (fun h => h.elim g g2)
    have e2 : mirS s a b = s := if_neg (fun h => h.elim g g2)
    rw [e1, e2]
    clear e1 e2 cp
    conv => whnf
    repeat' (first | exact ⟨rfl, rfl⟩ | ((first | refine zs (by omega) ?_ | refine zq6 ?_ | refine zs (by dsimp only; omega) ?_ | refine zs (show pendP _ _ by repeat' constructor) ?_ | (with_reducible first | refine brT ‹_› ?_ | refine brF ‹_› ?_ | refine zt (by omega) ?_ | refine zf (by omega) ?_ | refine brNot ?_)); conv => whnf) | (refine And.intro ?_ ?_ <;> (conv => whnf)))
set_option maxRecDepth 20000 in
theorem c_move (s : St) (f : Pt) (a b : Int) (hl : s.out.length ≤ 900000) (hf : inP f) (ha : IB a) (hb : IB b)  : ACalls seat 60 [.ptr 0 0, f.a, .vec [.int .i64 a, .int .i64 b] 2 none] (stH s) (fun r h => r = .ret (.tup []) ∧ h = stH (mvS s f a b)) := by
  refine ACalls.take seat_g 2 (by simp [stH]) (by simp [Ids, IdsL, Pt.a, Pt.c]) (stH_ids _) ?_
  refine ACalls.body seat_ok Tryd.func60 rfl rfl ?_
  have cp := c_point s f a b (sum_ok hf ha hb)
  have cq := c_put (tell s (adP f a b)) (lnS 1 (adP f a b)) (by show s.out.length ≤ _; omega)
  conv => whnf
  repeat' ((first | refine zs (by omega) ?_ | refine zq6 ?_ | refine zs (by dsimp only; omega) ?_ | refine zs (show pendP _ _ by repeat' constructor) ?_ | (with_reducible first | refine brT ‹_› ?_ | refine brF ‹_› ?_ | refine zt (by omega) ?_ | refine zf (by omega) ?_ | refine brNot ?_)); conv => whnf)
  refine DrawH.plan seat_ok (.take 0 (.take 1 (.take 2 (.take 3 (.take 4 (.take 5 (.take 6 (.take 7 (.take 8 (.perform 9 none (.take 10 (.perform 11 none Plan.done)))))))))))) 0 (by kernel_rfl) ?_
  conv => whnf
  repeat' (first | exact ⟨rfl, rfl⟩ | (refine CallH.st cp (by simp [IdsL, Ids, Pt.a, Pt.c, sgC]) (by simp [Ids, IdsL, Pt.a, Pt.c]) rfl ?_; conv => whnf) | (refine CallH.st cq (by simp [IdsL, Ids, Pt.a, Pt.c, sgC]) (by simp [Ids, IdsL, Pt.a, Pt.c]) rfl ?_; conv => whnf) | ((first | refine zs (by omega) ?_ | refine zq6 ?_ | refine zs (by dsimp only; omega) ?_ | refine zs (show pendP _ _ by repeat' constructor) ?_ | (with_reducible first | refine brT ‹_› ?_ | refine brF ‹_› ?_ | refine zt (by omega) ?_ | refine zf (by omega) ?_ | refine brNot ?_)); conv => whnf) | (refine And.intro ?_ ?_ <;> (conv => whnf)))
set_option maxRecDepth 20000 in
theorem c_line (s : St) (f : Pt) (a b : Int) (hl : s.out.length ≤ 900000) (hf : inP f) (ha : IB a) (hb : IB b)  : ACalls seat 61 [.ptr 0 0, f.a, .vec [.int .i64 a, .int .i64 b] 2 none] (stH s) (fun r h => r = .ret (.tup []) ∧ h = stH (liS s f a b)) := by
  refine ACalls.take seat_g 2 (by simp [stH]) (by simp [Ids, IdsL, Pt.a, Pt.c]) (stH_ids _) ?_
  refine ACalls.body seat_ok Tryd.func61 rfl rfl ?_
  have cp := c_point s f a b (sum_ok hf ha hb)
  have cq := c_put (tell s (adP f a b)) (lnS 2 (adP f a b)) (by show s.out.length ≤ _; omega)
  conv => whnf
  repeat' ((first | refine zs (by omega) ?_ | refine zq6 ?_ | refine zs (by dsimp only; omega) ?_ | refine zs (show pendP _ _ by repeat' constructor) ?_ | (with_reducible first | refine brT ‹_› ?_ | refine brF ‹_› ?_ | refine zt (by omega) ?_ | refine zf (by omega) ?_ | refine brNot ?_)); conv => whnf)
  refine DrawH.plan seat_ok (.take 0 (.take 1 (.take 2 (.take 3 (.take 4 (.take 5 (.take 6 (.take 7 (.take 8 (.perform 9 none (.take 10 (.perform 11 none Plan.done)))))))))))) 0 (by kernel_rfl) ?_
  conv => whnf
  repeat' (first | exact ⟨rfl, rfl⟩ | (refine CallH.st cp (by simp [IdsL, Ids, Pt.a, Pt.c, sgC]) (by simp [Ids, IdsL, Pt.a, Pt.c]) rfl ?_; conv => whnf) | (refine CallH.st cq (by simp [IdsL, Ids, Pt.a, Pt.c, sgC]) (by simp [Ids, IdsL, Pt.a, Pt.c]) rfl ?_; conv => whnf) | ((first | refine zs (by omega) ?_ | refine zq6 ?_ | refine zs (by dsimp only; omega) ?_ | refine zs (show pendP _ _ by repeat' constructor) ?_ | (with_reducible first | refine brT ‹_› ?_ | refine brF ‹_› ?_ | refine zt (by omega) ?_ | refine zf (by omega) ?_ | refine brNot ?_)); conv => whnf) | (refine And.intro ?_ ?_ <;> (conv => whnf)))
set_option maxRecDepth 20000 in
theorem c_across (s : St) (f : Pt) (a : Int) (hl : s.out.length ≤ 900000) (hf : inP f) (ha : IB a) (hp : inP s.pos) : ACalls seat 62 [.ptr 0 0, f.a, .vec [.int .i64 a] 1 none] (stH s) (fun r h => r = .ret (.tup []) ∧ h = stH (liS s ⟨f.x, s.pos.y⟩ a 0)) := by
  refine ACalls.take seat_g 2 (by simp [stH]) (by simp [Ids, IdsL, Pt.a, Pt.c]) (stH_ids _) ?_
  refine ACalls.body seat_ok Tryd.func62 rfl rfl ?_
  have cl := c_line s ⟨f.x, s.pos.y⟩ a 0 hl ⟨hf.1, hp.2⟩ ha IB0
  conv => whnf
  repeat' ((first | refine zs (by omega) ?_ | refine zq6 ?_ | refine zs (by dsimp only; omega) ?_ | refine zs (show pendP _ _ by repeat' constructor) ?_ | (with_reducible first | refine brT ‹_› ?_ | refine brF ‹_› ?_ | refine zt (by omega) ?_ | refine zf (by omega) ?_ | refine brNot ?_)); conv => whnf)
  refine DrawH.plan seat_ok (.take 0 (.take 1 (.take 2 (.take 3 (.take 4 (.perform 5 (some 3) (.perform 6 none Plan.done))))))) 1 (by kernel_rfl) ?_
  conv => whnf
  repeat' (first | exact ⟨rfl, rfl⟩ | (refine CallH.weakA (WeakL.cons (Weak.refl _) (WeakL.cons (Weak.refl _) (WeakL.cons Weak.tok WeakL.nil))) ?_; refine CallH.st cl (by simp [IdsL, Ids, Pt.a, Pt.c, sgC]) (by simp [Ids, IdsL, Pt.a, Pt.c]) rfl ?_; conv => whnf) | ((first | refine zs (by omega) ?_ | refine zq6 ?_ | refine zs (by dsimp only; omega) ?_ | refine zs (show pendP _ _ by repeat' constructor) ?_ | (with_reducible first | refine brT ‹_› ?_ | refine brF ‹_› ?_ | refine zt (by omega) ?_ | refine zf (by omega) ?_ | refine brNot ?_)); conv => whnf))
set_option maxRecDepth 20000 in
theorem c_down (s : St) (f : Pt) (a : Int) (hl : s.out.length ≤ 900000) (hf : inP f) (ha : IB a) (hp : inP s.pos) : ACalls seat 63 [.ptr 0 0, f.a, .vec [.int .i64 a] 1 none] (stH s) (fun r h => r = .ret (.tup []) ∧ h = stH (liS s ⟨s.pos.x, f.y⟩ 0 a)) := by
  refine ACalls.take seat_g 2 (by simp [stH]) (by simp [Ids, IdsL, Pt.a, Pt.c]) (stH_ids _) ?_
  refine ACalls.body seat_ok Tryd.func63 rfl rfl ?_
  have cl := c_line s ⟨s.pos.x, f.y⟩ 0 a hl ⟨hp.1, hf.2⟩ IB0 ha
  conv => whnf
  repeat' ((first | refine zs (by omega) ?_ | refine zq6 ?_ | refine zs (by dsimp only; omega) ?_ | refine zs (show pendP _ _ by repeat' constructor) ?_ | (with_reducible first | refine brT ‹_› ?_ | refine brF ‹_› ?_ | refine zt (by omega) ?_ | refine zf (by omega) ?_ | refine brNot ?_)); conv => whnf)
  refine DrawH.plan seat_ok (.take 0 (.take 1 (.take 2 (.take 3 (.take 4 (.perform 5 (some 3) (.perform 6 none Plan.done))))))) 1 (by kernel_rfl) ?_
  conv => whnf
  repeat' (first | exact ⟨rfl, rfl⟩ | (refine CallH.weakA (WeakL.cons (Weak.refl _) (WeakL.cons (Weak.refl _) (WeakL.cons Weak.tok WeakL.nil))) ?_; refine CallH.st cl (by simp [IdsL, Ids, Pt.a, Pt.c, sgC]) (by simp [Ids, IdsL, Pt.a, Pt.c]) rfl ?_; conv => whnf) | ((first | refine zs (by omega) ?_ | refine zq6 ?_ | refine zs (by dsimp only; omega) ?_ | refine zs (show pendP _ _ by repeat' constructor) ?_ | (with_reducible first | refine brT ‹_› ?_ | refine brF ‹_› ?_ | refine zt (by omega) ?_ | refine zf (by omega) ?_ | refine brNot ?_)); conv => whnf))
set_option maxRecDepth 20000 in
theorem c_cubic (s : St) (f : Pt) (a b c d e g : Int) (hl : s.out.length ≤ 900000) (hf : inP f) (ha : IB a) (hb : IB b) (hc : IB c) (hd : IB d) (he : IB e) (hg : IB g)  : ACalls seat 64 [.ptr 0 0, f.a, .vec [.int .i64 a, .int .i64 b, .int .i64 c, .int .i64 d, .int .i64 e, .int .i64 g] 6 none] (stH s) (fun r h => r = .ret (.tup []) ∧ h = stH (cuS s f a b c d e g)) := by
  refine ACalls.take seat_g 2 (by simp [stH]) (by simp [Ids, IdsL, Pt.a, Pt.c]) (stH_ids _) ?_
  refine ACalls.body seat_ok Tryd.func64 rfl rfl ?_
  have c1 := c_point s f c d (sum_ok hf hc hd)
  have c2 := c_point { tell s (adP f c d) with ct := adP f c d } f a b (sum_ok hf ha hb)
  have c3 := c_point (tell { tell s (adP f c d) with ct := adP f c d } (adP f a b)) f e g (sum_ok hf he hg)
  have cq := c_put (tell (tell { tell s (adP f c d) with ct := adP f c d } (adP f a b)) (adP f e g)) ⟨3, adP f e g, adP f a b, adP f c d, 0, 0, 0, false, false⟩ (by show s.out.length ≤ _; omega)
  conv => whnf
  repeat' ((first | refine zs (by omega) ?_ | refine zq6 ?_ | refine zs (by dsimp only; omega) ?_ | refine zs (show pendP _ _ by repeat' constructor) ?_ | (with_reducible first | refine brT ‹_› ?_ | refine brF ‹_› ?_ | refine zt (by omega) ?_ | refine zf (by omega) ?_ | refine brNot ?_)); conv => whnf)
  refine DrawH.plan seat_ok (.take 0 (.take 1 (.take 2 (.take 3 (.take 4 (.take 5 (.take 6 (.take 7 (.take 8 (.perform 9 none (.take 10 (.take 11 (.perform 12 none Plan.done))))))))))))) 0 (by kernel_rfl) ?_
  conv => whnf
  repeat' (first | (refine CallH.st c1 (by simp [IdsL, Ids, Pt.a, Pt.c, sgC]) (by simp [Ids, IdsL, Pt.a, Pt.c]) rfl ?_; conv => whnf) | ((first | refine zs (by omega) ?_ | refine zq6 ?_ | refine zs (by dsimp only; omega) ?_ | refine zs (show pendP _ _ by repeat' constructor) ?_ | (with_reducible first | refine brT ‹_› ?_ | refine brF ‹_› ?_ | refine zt (by omega) ?_ | refine zf (by omega) ?_ | refine brNot ?_)); conv => whnf) | (refine And.intro ?_ ?_ <;> (conv => whnf)))
  refine DrawH.plan seat_ok (.take 0 (.take 1 (.take 2 (.take 3 (.take 4 (.take 5 (.take 6 (.take 7 (.take 8 (.take 10 (.take 11 (.take 12 (.take 14 (.take 15 (.take 16 (.take 17 (.take 18 (.take 19 (.take 20 (.take 21 (.both (.perform 9 none (.both (.perform 13 none (.perform 22 none (.take 23 (.perform 24 none Plan.done)))) (.perform 22 none (.perform 13 none (.take 23 (.perform 24 none Plan.done)))))) (.perform 13 none (.perform 9 none (.perform 22 none (.take 23 (.perform 24 none Plan.done)))))))))))))))))))))))))) 0 (by kernel_rfl) ?_
  conv => whnf
  repeat' (first | exact ⟨rfl, rfl⟩ | (refine CallH.st c2 (by simp [IdsL, Ids, Pt.a, Pt.c, sgC]) (by simp [Ids, IdsL, Pt.a, Pt.c]) rfl ?_; conv => whnf) | (refine CallH.st c3 (by simp [IdsL, Ids, Pt.a, Pt.c, sgC]) (by simp [Ids, IdsL, Pt.a, Pt.c]) rfl ?_; conv => whnf) | (refine CallH.st cq (by simp [IdsL, Ids, Pt.a, Pt.c, sgC]) (by simp [Ids, IdsL, Pt.a, Pt.c]) rfl ?_; conv => whnf) | ((first | refine zs (by omega) ?_ | refine zq6 ?_ | refine zs (by dsimp only; omega) ?_ | refine zs (show pendP _ _ by repeat' constructor) ?_ | (with_reducible first | refine brT ‹_› ?_ | refine brF ‹_› ?_ | refine zt (by omega) ?_ | refine zf (by omega) ?_ | refine brNot ?_)); conv => whnf) | (refine And.intro ?_ ?_ <;> (conv => whnf)))
set_option maxRecDepth 20000 in
theorem c_quad (s : St) (f : Pt) (a b c d : Int) (hl : s.out.length ≤ 900000) (hf : inP f) (ha : IB a) (hb : IB b) (hc : IB c) (hd : IB d)  : ACalls seat 66 [.ptr 0 0, f.a, .vec [.int .i64 a, .int .i64 b, .int .i64 c, .int .i64 d] 4 none] (stH s) (fun r h => r = .ret (.tup []) ∧ h = stH (quS s f a b c d)) := by
  refine ACalls.take seat_g 2 (by simp [stH]) (by simp [Ids, IdsL, Pt.a, Pt.c]) (stH_ids _) ?_
  refine ACalls.body seat_ok Tryd.func66 rfl rfl ?_
  have c1 := c_point s f a b (sum_ok hf ha hb)
  have c2 := c_point { tell s (adP f a b) with ct := adP f a b } f c d (sum_ok hf hc hd)
  have cq := c_put (tell { tell s (adP f a b) with ct := adP f a b } (adP f c d)) ⟨4, adP f c d, adP f a b, p0, 0, 0, 0, false, false⟩ (by show s.out.length ≤ _; omega)
  conv => whnf
  repeat' ((first | refine zs (by omega) ?_ | refine zq6 ?_ | refine zs (by dsimp only; omega) ?_ | refine zs (show pendP _ _ by repeat' constructor) ?_ | (with_reducible first | refine brT ‹_› ?_ | refine brF ‹_› ?_ | refine zt (by omega) ?_ | refine zf (by omega) ?_ | refine brNot ?_)); conv => whnf)
  refine DrawH.plan seat_ok (.take 0 (.take 1 (.take 2 (.take 3 (.take 4 (.take 5 (.take 6 (.take 7 (.take 8 (.perform 9 none (.take 10 (.take 11 (.perform 12 none Plan.done))))))))))))) 0 (by kernel_rfl) ?_
  conv => whnf
  repeat' (first | (refine CallH.st c1 (by simp [IdsL, Ids, Pt.a, Pt.c, sgC]) (by simp [Ids, IdsL, Pt.a, Pt.c]) rfl ?_; conv => whnf) | ((first | refine zs (by omega) ?_ | refine zq6 ?_ | refine zs (by dsimp only; omega) ?_ | refine zs (show pendP _ _ by repeat' constructor) ?_ | (with_reducible first | refine brT ‹_› ?_ | refine brF ‹_› ?_ | refine zt (by omega) ?_ | refine zf (by omega) ?_ | refine brNot ?_)); conv => whnf) | (refine And.intro ?_ ?_ <;> (conv => whnf)))
  refine DrawH.plan seat_ok (.take 0 (.take 1 (.take 2 (.take 3 (.take 5 (.take 6 (.take 7 (.take 8 (.take 9 (.take 10 (.take 11 (.take 12 (.both (.perform 4 none (.perform 13 none (.take 14 (.perform 15 none Plan.done)))) (.perform 13 none (.perform 4 none (.take 14 (.perform 15 none Plan.done))))))))))))))))) 0 (by kernel_rfl) ?_
  conv => whnf
  repeat' (first | exact ⟨rfl, rfl⟩ | (refine CallH.st c2 (by simp [IdsL, Ids, Pt.a, Pt.c, sgC]) (by simp [Ids, IdsL, Pt.a, Pt.c]) rfl ?_; conv => whnf) | (refine CallH.st cq (by simp [IdsL, Ids, Pt.a, Pt.c, sgC]) (by simp [Ids, IdsL, Pt.a, Pt.c]) rfl ?_; conv => whnf) | ((first | refine zs (by omega) ?_ | refine zq6 ?_ | refine zs (by dsimp only; omega) ?_ | refine zs (show pendP _ _ by repeat' constructor) ?_ | (with_reducible first | refine brT ‹_› ?_ | refine brF ‹_› ?_ | refine zt (by omega) ?_ | refine zf (by omega) ?_ | refine brNot ?_)); conv => whnf) | (refine And.intro ?_ ?_ <;> (conv => whnf)))
set_option maxRecDepth 20000 in
theorem c_arc (s : St) (f : Pt) (a b c d e g i : Int) (hl : s.out.length ≤ 900000) (hf : inP f) (ha : IB a) (hb : IB b) (hc : IB c) (hd : IB d) (he : IB e) (hg : IB g) (hi : IB i)  : ACalls seat 68 [.ptr 0 0, f.a, .vec [.int .i64 a, .int .i64 b, .int .i64 c, .int .i64 d, .int .i64 e, .int .i64 g, .int .i64 i] 7 none] (stH s) (fun r h => r = .ret (.tup []) ∧ h = stH (arS s f a b c d e g i)) := by
  refine ACalls.take seat_g 2 (by simp [stH]) (by simp [Ids, IdsL, Pt.a, Pt.c]) (stH_ids _) ?_
  refine ACalls.body seat_ok Tryd.func68 rfl rfl ?_
  have c1 := c_point s f g i (sum_ok hf hg hi)
  have cq := c_put (tell s (adP f g i)) ⟨5, adP f g i, p0, p0, a, b, c, d == 1, e == 1⟩ (by show s.out.length ≤ _; omega)
  conv => whnf
  repeat' ((first | refine zs (by omega) ?_ | refine zq6 ?_ | refine zs (by dsimp only; omega) ?_ | refine zs (show pendP _ _ by repeat' constructor) ?_ | (with_reducible first | refine brT ‹_› ?_ | refine brF ‹_› ?_ | refine zt (by omega) ?_ | refine zf (by omega) ?_ | refine brNot ?_)); conv => whnf)
  refine DrawH.plan seat_ok (.take 0 (.take 1 (.take 2 (.take 3 (.take 4 (.take 5 (.take 6 (.take 7 (.take 8 (.take 9 (.take 10 (.take 11 (.take 12 (.take 13 (.take 14 (.take 15 (.take 16 (.take 17 (.take 18 (.take 19 (.take 20 (.take 21 (.take 22 (.take 23 (.take 24 (.take 25 (.perform 26 none (.take 27 (.perform 28 none Plan.done))))))))))))))))))))))))))))) 0 (by kernel_rfl) ?_
  conv => whnf
  repeat' (first | exact ⟨rfl, rfl⟩ | (refine CallH.st c1 (by simp [IdsL, Ids, Pt.a, Pt.c, sgC]) (by simp [Ids, IdsL, Pt.a, Pt.c]) rfl ?_; conv => whnf) | (refine CallH.st cq (by simp [IdsL, Ids, Pt.a, Pt.c, sgC]) (by simp [Ids, IdsL, Pt.a, Pt.c]) rfl ?_; conv => whnf) | ((first | refine zs (by omega) ?_ | refine zq6 ?_ | refine zs (by dsimp only; omega) ?_ | refine zs (show pendP _ _ by repeat' constructor) ?_ | (with_reducible first | refine brT ‹_› ?_ | refine brF ‹_› ?_ | refine zt (by omega) ?_ | refine zf (by omega) ?_ | refine brNot ?_)); conv => whnf) | (refine And.intro ?_ ?_ <;> (conv => whnf)))
set_option maxRecDepth 20000 in
theorem c_smooth (s : St) (f : Pt) (a b c d : Int) (hl : s.out.length ≤ 900000) (hf : inP f) (ha : IB a) (hb : IB b) (hc : IB c) (hd : IB d) (hp : inP s.pos) (hq : inP s.ct) : ACalls seat 65 [.ptr 0 0, f.a, .vec [.int .i64 a, .int .i64 b, .int .i64 c, .int .i64 d] 4 none] (stH s) (fun r h => r = .ret (.tup []) ∧ h = stH (smS s f a b c d)) := by
  refine ACalls.take seat_g 2 (by simp [stH]) (by simp [Ids, IdsL, Pt.a, Pt.c]) (stH_ids _) ?_
  refine ACalls.body seat_ok Tryd.func65 rfl rfl ?_
  have cm := c_mirror s 67 83 hp hq
  have c1 := c_point (mirS s 67 83) f a b (sum_ok hf ha hb)
  have c2 := c_point { tell (mirS s 67 83) (adP f a b) with ct := adP f a b } f c d (sum_ok hf hc hd)
  have e1 : (mirS s 67 83).out = s.out := by unfold mirS; split <;> rfl
  have cq := c_put (tell { tell (mirS s 67 83) (adP f a b) with ct := adP f a b } (adP f c d)) ⟨3, adP f c d, mirP s 67 83, adP f a b, 0, 0, 0, false, false⟩ (by show (mirS s 67 83).out.length ≤ _; rw [e1]; omega)
  have e2 : smS s f a b c d = putS (tell { tell (mirS s 67 83) (adP f a b) with ct := adP f a b } (adP f c d)) ⟨3, adP f c d, mirP s 67 83, adP f a b, 0, 0, 0, false, false⟩ := rfl
  rw [e2]
  clear e1 e2
  generalize mirS s 67 83 = u at *
  generalize mirP s 67 83 = m at *
  conv => whnf
  repeat' (first | (refine CallH.st cm (by simp [IdsL, Ids, Pt.a, Pt.c, sgC]) (by simp [Ids, IdsL, Pt.a, Pt.c]) rfl ?_; conv => whnf) | ((first | refine zs (by omega) ?_ | refine zq6 ?_ | refine zs (by dsimp only; omega) ?_ | refine zs (show pendP _ _ by repeat' constructor) ?_ | (with_reducible first | refine brT ‹_› ?_ | refine brF ‹_› ?_ | refine zt (by omega) ?_ | refine zf (by omega) ?_ | refine brNot ?_)); conv => whnf) | (refine And.intro ?_ ?_ <;> (conv => whnf)))
  refine DrawH.plan seat_ok (.take 0 (.take 1 (.take 2 (.take 3 (.take 4 (.take 5 (.take 6 (.take 7 (.take 8 (.perform 9 none (.take 10 (.take 11 (.perform 12 none Plan.done))))))))))))) 0 (by kernel_rfl) ?_
  conv => whnf
  repeat' (first | (refine CallH.st c1 (by simp [IdsL, Ids, Pt.a, Pt.c, sgC]) (by simp [Ids, IdsL, Pt.a, Pt.c]) rfl ?_; conv => whnf) | ((first | refine zs (by omega) ?_ | refine zq6 ?_ | refine zs (by dsimp only; omega) ?_ | refine zs (show pendP _ _ by repeat' constructor) ?_ | (with_reducible first | refine brT ‹_› ?_ | refine brF ‹_› ?_ | refine zt (by omega) ?_ | refine zf (by omega) ?_ | refine brNot ?_)); conv => whnf) | (refine And.intro ?_ ?_ <;> (conv => whnf)))
  refine DrawH.plan seat_ok (.take 0 (.take 1 (.take 2 (.take 3 (.take 4 (.take 6 (.take 7 (.take 8 (.take 9 (.take 10 (.take 11 (.take 12 (.take 13 (.both (.perform 5 none (.perform 14 none (.take 15 (.perform 16 none Plan.done)))) (.perform 14 none (.perform 5 none (.take 15 (.perform 16 none Plan.done)))))))))))))))))) 0 (by kernel_rfl) ?_
  conv => whnf
  repeat' (first | exact ⟨rfl, rfl⟩ | (refine CallH.st c2 (by simp [IdsL, Ids, Pt.a, Pt.c, sgC]) (by simp [Ids, IdsL, Pt.a, Pt.c]) rfl ?_; conv => whnf) | (refine CallH.st cq (by simp [IdsL, Ids, Pt.a, Pt.c, sgC]) (by simp [Ids, IdsL, Pt.a, Pt.c]) rfl ?_; conv => whnf) | ((first | refine zs (by omega) ?_ | refine zq6 ?_ | refine zs (by dsimp only; omega) ?_ | refine zs (show pendP _ _ by repeat' constructor) ?_ | (with_reducible first | refine brT ‹_› ?_ | refine brF ‹_› ?_ | refine zt (by omega) ?_ | refine zf (by omega) ?_ | refine brNot ?_)); conv => whnf) | (refine And.intro ?_ ?_ <;> (conv => whnf)))
set_option maxRecDepth 20000 in
theorem c_again (s : St) (f : Pt) (a b : Int) (hl : s.out.length ≤ 900000) (hf : inP f) (ha : IB a) (hb : IB b) (hp : inP s.pos) (hq : inP s.ct) : ACalls seat 67 [.ptr 0 0, f.a, .vec [.int .i64 a, .int .i64 b] 2 none] (stH s) (fun r h => r = .ret (.tup []) ∧ h = stH (agS s f a b)) := by
  refine ACalls.take seat_g 2 (by simp [stH]) (by simp [Ids, IdsL, Pt.a, Pt.c]) (stH_ids _) ?_
  refine ACalls.body seat_ok Tryd.func67 rfl rfl ?_
  have cm := c_mirror s 81 84 hp hq
  have c1 := c_point { mirS s 81 84 with ct := mirP s 81 84 } f a b (sum_ok hf ha hb)
  have e1 : (mirS s 81 84).out = s.out := by unfold mirS; split <;> rfl
  have cq := c_put (tell { mirS s 81 84 with ct := mirP s 81 84 } (adP f a b)) ⟨4, adP f a b, mirP s 81 84, p0, 0, 0, 0, false, false⟩ (by show (mirS s 81 84).out.length ≤ _; rw [e1]; omega)
  have e2 : agS s f a b = putS (tell { mirS s 81 84 with ct := mirP s 81 84 } (adP f a b)) ⟨4, adP f a b, mirP s 81 84, p0, 0, 0, 0, false, false⟩ := rfl
  rw [e2]
  clear e1 e2
  generalize mirS s 81 84 = u at *
  generalize mirP s 81 84 = m at *
  conv => whnf
  repeat' (first | (refine CallH.st cm (by simp [IdsL, Ids, Pt.a, Pt.c, sgC]) (by simp [Ids, IdsL, Pt.a, Pt.c]) rfl ?_; conv => whnf) | ((first | refine zs (by omega) ?_ | refine zq6 ?_ | refine zs (by dsimp only; omega) ?_ | refine zs (show pendP _ _ by repeat' constructor) ?_ | (with_reducible first | refine brT ‹_› ?_ | refine brF ‹_› ?_ | refine zt (by omega) ?_ | refine zf (by omega) ?_ | refine brNot ?_)); conv => whnf) | (refine And.intro ?_ ?_ <;> (conv => whnf)))
  refine DrawH.plan seat_ok (.take 0 (.take 1 (.take 2 (.take 3 (.take 5 (.take 6 (.take 7 (.take 8 (.take 9 (.take 10 (.take 11 (.take 12 (.both (.perform 4 none (.perform 13 none (.take 14 (.perform 15 none Plan.done)))) (.perform 13 none (.perform 4 none (.take 14 (.perform 15 none Plan.done))))))))))))))))) 0 (by kernel_rfl) ?_
  conv => whnf
  repeat' (first | exact ⟨rfl, rfl⟩ | (refine CallH.st c1 (by simp [IdsL, Ids, Pt.a, Pt.c, sgC]) (by simp [Ids, IdsL, Pt.a, Pt.c]) rfl ?_; conv => whnf) | (refine CallH.st cq (by simp [IdsL, Ids, Pt.a, Pt.c, sgC]) (by simp [Ids, IdsL, Pt.a, Pt.c]) rfl ?_; conv => whnf) | ((first | refine zs (by omega) ?_ | refine zq6 ?_ | refine zs (by dsimp only; omega) ?_ | refine zs (show pendP _ _ by repeat' constructor) ?_ | (with_reducible first | refine brT ‹_› ?_ | refine brF ‹_› ?_ | refine zt (by omega) ?_ | refine zf (by omega) ?_ | refine brNot ?_)); conv => whnf) | (refine And.intro ?_ ?_ <;> (conv => whnf)))
set_option maxRecDepth 20000 in
theorem c_end (s : St) (f : Pt) (v : AV) (hv : Closed v) (hl : s.out.length ≤ 900000) : ACalls seat 69 [.ptr 0 0, f.a, v] (stH s) (fun r h => r = .ret (.tup []) ∧ h = stH (enS s)) := by
  refine ACalls.take seat_g 2 (by simp [stH]) (by simp [Ids, IdsL, Pt.a, Pt.c]) (stH_ids _) ?_
  refine ACalls.body seat_ok Tryd.func69 rfl rfl ?_
  have cq := c_put s (lnS 6 s.bg) (by omega)
  conv => whnf
  repeat' (first | exact ⟨rfl, rfl⟩ | (refine CallH.st cq (by simp [IdsL, Ids, Pt.a, Pt.c, sgC]) (by simp [Ids, IdsL, Pt.a, Pt.c]) rfl ?_; conv => whnf) | ((first | refine zs (by omega) ?_ | refine zq6 ?_ | refine zs (by dsimp only; omega) ?_ | refine zs (show pendP _ _ by repeat' constructor) ?_ | (with_reducible first | refine brT ‹_› ?_ | refine brF ‹_› ?_ | refine zt (by omega) ?_ | refine zf (by omega) ?_ | refine brNot ?_)); conv => whnf) | (refine And.intro ?_ ?_ <;> (conv => whnf)))
end Go.Proofs.YteicdddheaajlaaDoor
namespace Go.Proofs.YteicdddheaajlaaDoor
open Go.Abs
theorem trim_step {m : List Int} {x : Int} {n : Int} (hn : n = m.length - 1) (h0 : 0 < m.length) (hx : m[n.toNat]? = some x) : m = m.dropLast ++ [x] ∧ m.take n.toNat = m.dropLast := by
  have e : n.toNat = m.length - 1 := by omega
  rw [e] at hx ⊢
  have h1 : m ≠ [] := by intro h; simp [h] at h0
  refine ⟨?_, List.dropLast_eq_take.symm⟩
  conv => lhs; rw [← List.dropLast_concat_getLast h1]
  rw [List.getLast_eq_getElem]
  rw [List.getElem?_eq_getElem (by omega)] at hx
  rw [Option.some.inj hx]
theorem c_trim (l : List Int) (hl : l.length < 4611686018427387904) : ACalls seat 89 [lv l] [] (fun x _ => x = .ret (lv (trimL l))) := by
  refine ACalls.body seat_ok Tryd.func89 rfl rfl ?_
  conv => whnf
  refine Sat.invN seat_ok seat_g (maskOf 21 [0]) 0 (fun m => lv m :: undefs 20) (fun _ => []) (fun m => m.length ≤ l.length ∧ trimL m = trimL l) (fun m => m.length) l ⟨Nat.le_refl _, rfl⟩ (WeakL.of_eq rfl) rfl (fun _ _ => rfl) ?_
  rintro m ⟨h1, h2⟩
  conv => whnf
  refine brD (fun g => ?_) (fun g => ?_)
  · conv => whnf
    repeat' ((first | refine zs (by omega) ?_ | refine zq6 ?_ | refine zs (by dsimp only; omega) ?_ | refine Req.mk ⟨rfl, rfl, rfl, by simp [ci_length, *], rfl, by simp [okCell], by dsimp only; omega, by omega, by decide⟩ ?_ | refine zs (show pendP _ _ by repeat' constructor) ?_ | (with_reducible first | refine brT ‹_› ?_ | refine brF ‹_› ?_ | refine zt (by omega) ?_ | refine zf (by omega) ?_ | refine brNot ?_)); conv => whnf)
    refine ldSub (by omega) fun x hx => ?_
    conv => whnf
    repeat' ((first | refine zs (by omega) ?_ | refine zq6 ?_ | refine zs (by dsimp only; omega) ?_ | refine Req.mk ⟨rfl, rfl, rfl, by simp [ci_length, *], rfl, by simp [okCell], by dsimp only; omega, by omega, by decide⟩ ?_ | refine zs (show pendP _ _ by repeat' constructor) ?_ | (with_reducible first | refine brT ‹_› ?_ | refine brF ‹_› ?_ | refine zt (by omega) ?_ | refine zf (by omega) ?_ | refine brNot ?_)); conv => whnf)
    obtain ⟨e1, e2⟩ := trim_step rfl (by omega) hx
    refine brE (fun g2 => ?_) (fun g2 => ?_)
    · conv => whnf
      repeat' ((first | refine zs (by omega) ?_ | refine zq6 ?_ | refine zs (by dsimp only; omega) ?_ | refine Req.mk ⟨rfl, rfl, rfl, by simp [ci_length, *], rfl, by simp [okCell], by dsimp only; omega, by omega, by decide⟩ ?_ | refine zs (show pendP _ _ by repeat' constructor) ?_ | (with_reducible first | refine brT ‹_› ?_ | refine brF ‹_› ?_ | refine zt (by omega) ?_ | refine zf (by omega) ?_ | refine brNot ?_)); conv => whnf)
      refine ⟨m.dropLast, ⟨?_, ?_⟩, ?_, ?_, ?_, rfl, trivial⟩
      · rw [List.length_dropLast]; omega
      · rw [← h2]; conv => rhs; rw [e1, trimL_last, if_pos g2]
      · rw [List.length_dropLast]; omega
      · refine ⟨weak_eq ?_, WeakL.of_eq rfl⟩
        refine (ci_part .i64 m 0 (m.length - 1 : Int).toNat).trans ?_
        rw [List.drop_zero, Nat.sub_zero, lv_take (by omega), e2]
      · exact ⟨lv_ids _, ClosedL.ids _ (by simp [undefs, ClosedL, Closed])⟩
    · conv => whnf
      repeat' ((first | refine zs (by omega) ?_ | refine zq6 ?_ | refine zs (by dsimp only; omega) ?_ | refine Req.mk ⟨rfl, rfl, rfl, by simp [ci_length, *], rfl, by simp [okCell], by dsimp only; omega, by omega, by decide⟩ ?_ | refine zs (show pendP _ _ by repeat' constructor) ?_ | (with_reducible first | refine brT ‹_› ?_ | refine brF ‹_› ?_ | refine zt (by omega) ?_ | refine zf (by omega) ?_ | refine brNot ?_)); conv => whnf)
      rw [← h2]; conv => rhs; rw [e1, trimL_last, if_neg g2, ← e1]
      rfl
  · conv => whnf
    repeat' ((first | refine zs (by omega) ?_ | refine zq6 ?_ | refine zs (by dsimp only; omega) ?_ | refine Req.mk ⟨rfl, rfl, rfl, by simp [ci_length, *], rfl, by simp [okCell], by dsimp only; omega, by omega, by decide⟩ ?_ | refine zs (show pendP _ _ by repeat' constructor) ?_ | (with_reducible first | refine brT ‹_› ?_ | refine brF ‹_› ?_ | refine zt (by omega) ?_ | refine zf (by omega) ?_ | refine brNot ?_)); conv => whnf)
    have : m = [] := List.eq_nil_of_length_eq_zero (by omega)
    subst this
    rw [← h2]; rfl
theorem c_trim' (l : List Int) (g : Option Nat) {n : Nat} (hn : l.length = n) (hl : n < 4611686018427387904) {h : Heap} {k : AEnd → Heap → Prop} {r : List Int} (he : trimL l = r) (hk : k (.ret (lv r)) h) : CallH seat 89 [.vec (ci .i64 l) n g] h k := by
  subst hn; subst he
  exact CallH.weakA (WeakL.cons lv_tok WeakL.nil) (CallH.lift seat_g (c_trim l hl) ⟨lv_closed _, trivial⟩ (lv_closed _) hk)
theorem c_plus (a b : List Int) (ha : Dg a) (hb : Dg b) (la : a.length ≤ 100000) (lb : b.length ≤ 100000) : ACalls seat 88 [lv a, lv b] [] (fun x _ => x = .ret (lv (trimL (plusC 0 a b)))) := by
  refine ACalls.body seat_ok Tryd.func88 rfl rfl ?_
  conv => whnf
  refine Sat.nilTok 5 3 1 rfl ?_
  refine Sat.invP seat_ok seat_g (maskOf 55 [0, 1, 5, 6, 7]) 1 (fun μ t h => ∃ (i : Nat) (c : Int) (o : List Int), (c = 0 ∨ c = 1) ∧ o.length = i ∧ o ++ plusC c (a.drop i) (b.drop i) = plusC 0 a b ∧
    μ = 2 * (a.length - i) + 2 * (b.length - i) + c.toNat ∧ t = (lv a::lv b::uu::uu::uu::.vec (ci .i64 o) i (some 0)::.int .i64 c::.int .i64 i::uu::uu::uu::uu::uu::uu::uu::uu::uu::uu::uu::uu::uu::uu::uu::uu::uu::uu::uu::uu::uu::uu::uu::uu::uu::uu::uu::uu::uu::uu::uu::uu::uu::uu::uu::uu::uu::uu::uu::uu::uu::uu::uu::uu::uu::uu::uu::[]) ∧ h = [.tok i 3 1]) ?_ ⟨_, _, WeakL.of_eq rfl, 0, 0, [], .inl rfl, rfl, rfl, rfl, rfl, rfl⟩ ?_
  · rintro _ _ _ ⟨i, c, o, -, -, -, rfl, rfl, rfl⟩
    exact ⟨rfl, (by simp [IdsL, Ids, IdsH, IdsC, lv_ids, ci_ids]), (by simp [IdsL, Ids, IdsH, IdsC, lv_ids, ci_ids])⟩
  rintro _ _ _ ⟨i, c, o, hc, hi, ho, rfl, rfl, rfl⟩
  have hlen : i ≤ 100001 := by
    have h1 := (plusC_spec 0 a b (.inl rfl) ha hb).2.2
    rw [← ho, List.length_append] at h1; omega
  conv => whnf
  by_cases g1 : i < a.length <;> by_cases g2 : i < b.length
  · repeat' ((first | refine zs (by omega) ?_ | refine zq6 ?_ | refine zs (by dsimp only; omega) ?_ | refine Req.mk ⟨rfl, rfl, rfl, by simp [ci_length, *], rfl, by simp [okCell], by dsimp only; omega, by omega, by decide⟩ ?_ | refine zs (show pendP _ _ by repeat' constructor) ?_ | (with_reducible first | refine brT ‹_› ?_ | refine brF ‹_› ?_ | refine zt (by omega) ?_ | refine zf (by omega) ?_ | refine brNot ?_)); conv => whnf)
    refine ldSub (by omega) fun x hx => ?_
    have hx : a[i]? = some x := hx
    have hxb := ha x (List.mem_of_getElem? hx)
    conv => whnf
    repeat' ((first | refine zs (by omega) ?_ | refine zq6 ?_ | refine zs (by dsimp only; omega) ?_ | refine Req.mk ⟨rfl, rfl, rfl, by simp [ci_length, *], rfl, by simp [okCell], by dsimp only; omega, by omega, by decide⟩ ?_ | refine zs (show pendP _ _ by repeat' constructor) ?_ | (with_reducible first | refine brT ‹_› ?_ | refine brF ‹_› ?_ | refine zt (by omega) ?_ | refine zf (by omega) ?_ | refine brNot ?_)); conv => whnf)
    refine ldSub (by omega) fun y hy => ?_
    have hy : b[i]? = some y := hy
    have hyb := hb y (List.mem_of_getElem? hy)
    conv => whnf
    repeat' ((first | refine zs (by omega) ?_ | refine zq6 ?_ | refine zs (by dsimp only; omega) ?_ | refine Req.mk ⟨rfl, rfl, rfl, by simp [ci_length, *], rfl, by simp [okCell], by dsimp only; omega, by omega, by decide⟩ ?_ | refine zs (show pendP _ _ by repeat' constructor) ?_ | (with_reducible first | refine brT ‹_› ?_ | refine brF ‹_› ?_ | refine zt (by omega) ?_ | refine zf (by omega) ?_ | refine brNot ?_)); conv => whnf)
    refine ⟨_, _, ?_, WeakL.of_eq rfl, i + 1, (c + x + y) / 65536, o ++ [(c + x + y) % 65536], by omega, by simp [hi], ?_, rfl, ?_, rfl⟩
    · omega
    · rw [← ho, drop_cons' hx, drop_cons' hy, plusC]; simp
    · rw [← ci_append]; rfl
  · repeat' ((first | refine zs (by omega) ?_ | refine zq6 ?_ | refine zs (by dsimp only; omega) ?_ | refine Req.mk ⟨rfl, rfl, rfl, by simp [ci_length, *], rfl, by simp [okCell], by dsimp only; omega, by omega, by decide⟩ ?_ | refine zs (show pendP _ _ by repeat' constructor) ?_ | (with_reducible first | refine brT ‹_› ?_ | refine brF ‹_› ?_ | refine zt (by omega) ?_ | refine zf (by omega) ?_ | refine brNot ?_)); conv => whnf)
    refine ldSub (by omega) fun x hx => ?_
    have hx : a[i]? = some x := hx
    have hxb := ha x (List.mem_of_getElem? hx)
    conv => whnf
    repeat' ((first | refine zs (by omega) ?_ | refine zq6 ?_ | refine zs (by dsimp only; omega) ?_ | refine Req.mk ⟨rfl, rfl, rfl, by simp [ci_length, *], rfl, by simp [okCell], by dsimp only; omega, by omega, by decide⟩ ?_ | refine zs (show pendP _ _ by repeat' constructor) ?_ | (with_reducible first | refine brT ‹_› ?_ | refine brF ‹_› ?_ | refine zt (by omega) ?_ | refine zf (by omega) ?_ | refine brNot ?_)); conv => whnf)
    refine ⟨_, _, ?_, WeakL.of_eq rfl, i + 1, (c + x) / 65536, o ++ [(c + x) % 65536], by omega, by simp [hi], ?_, rfl, ?_, rfl⟩
    · omega
    · rw [← ho, drop_cons' hx, drop_nil' (l := b) (by omega), drop_nil' (l := b) (by omega), plusC]; simp
    · rw [← ci_append]; rfl
  · repeat' ((first | refine zs (by omega) ?_ | refine zq6 ?_ | refine zs (by dsimp only; omega) ?_ | refine Req.mk ⟨rfl, rfl, rfl, by simp [ci_length, *], rfl, by simp [okCell], by dsimp only; omega, by omega, by decide⟩ ?_ | refine zs (show pendP _ _ by repeat' constructor) ?_ | (with_reducible first | refine brT ‹_› ?_ | refine brF ‹_› ?_ | refine zt (by omega) ?_ | refine zf (by omega) ?_ | refine brNot ?_)); conv => whnf)
    refine ldSub (by omega) fun y hy => ?_
    have hy : b[i]? = some y := hy
    have hyb := hb y (List.mem_of_getElem? hy)
    conv => whnf
    repeat' ((first | refine zs (by omega) ?_ | refine zq6 ?_ | refine zs (by dsimp only; omega) ?_ | refine Req.mk ⟨rfl, rfl, rfl, by simp [ci_length, *], rfl, by simp [okCell], by dsimp only; omega, by omega, by decide⟩ ?_ | refine zs (show pendP _ _ by repeat' constructor) ?_ | (with_reducible first | refine brT ‹_› ?_ | refine brF ‹_› ?_ | refine zt (by omega) ?_ | refine zf (by omega) ?_ | refine brNot ?_)); conv => whnf)
    refine ⟨_, _, ?_, WeakL.of_eq rfl, i + 1, (c + y) / 65536, o ++ [(c + y) % 65536], by omega, by simp [hi], ?_, rfl, ?_, rfl⟩
    · omega
    · rw [← ho, drop_cons' hy, drop_nil' (l := a) (by omega), drop_nil' (l := a) (by omega), plusC]; simp
    · rw [← ci_append]; rfl
  · rcases hc with rfl | rfl
    · repeat' ((first | refine zs (by omega) ?_ | refine zq6 ?_ | refine zs (by dsimp only; omega) ?_ | refine Req.mk ⟨rfl, rfl, rfl, by simp [ci_length, *], rfl, by simp [okCell], by dsimp only; omega, by omega, by decide⟩ ?_ | refine zs (show pendP _ _ by repeat' constructor) ?_ | (with_reducible first | refine brT ‹_› ?_ | refine brF ‹_› ?_ | refine zt (by omega) ?_ | refine zf (by omega) ?_ | refine brNot ?_)); conv => whnf)
      refine c_trim' o _ hi (by omega) rfl ?_
      conv => whnf
      rw [drop_nil' (l := a) (by omega), drop_nil' (l := b) (by omega)] at ho
      rw [← ho]; simp [plusC, retK, lv]
    · repeat' ((first | refine zs (by omega) ?_ | refine zq6 ?_ | refine zs (by dsimp only; omega) ?_ | refine Req.mk ⟨rfl, rfl, rfl, by simp [ci_length, *], rfl, by simp [okCell], by dsimp only; omega, by omega, by decide⟩ ?_ | refine zs (show pendP _ _ by repeat' constructor) ?_ | (with_reducible first | refine brT ‹_› ?_ | refine brF ‹_› ?_ | refine zt (by omega) ?_ | refine zf (by omega) ?_ | refine brNot ?_)); conv => whnf)
      refine ⟨_, _, ?_, WeakL.of_eq rfl, i + 1, 0, o ++ [1], by omega, by simp [hi], ?_, rfl, ?_, rfl⟩
      · omega
      · rw [← ho, drop_nil' (l := a) (by omega), drop_nil' (l := a) (by omega), drop_nil' (l := b) (by omega), drop_nil' (l := b) (by omega)]; simp [plusC]
      · rw [← ci_append]; rfl
theorem c_plusN (m n : Nat) (hm : (dig m).length ≤ 100000) (hn : (dig n).length ≤ 100000) : ACalls seat 88 [lv (dig m), lv (dig n)] [] (fun x _ => x = .ret (lv (dig (m + n)))) := by
  rw [← plus_dig]; exact c_plus _ _ (dig_Dg m) (dig_Dg n) hm hn
theorem c_minus (a b : List Int) (ha : Dg a) (hb : Dg b) (la : a.length ≤ 100000) (lb : b.length ≤ 100000) : ACalls seat 98 [lv a, lv b] [] (fun x _ => x = .ret (lv (trimL (minusC 0 a b)))) := by
  refine ACalls.body seat_ok Tryd.func98 rfl rfl ?_
  conv => whnf
  refine Sat.nilTok 5 3 1 rfl ?_
  refine Sat.invP seat_ok seat_g (maskOf 41 [0, 1, 5, 6, 7]) 1 (fun μ t h => ∃ (i : Nat) (r : Int) (o : List Int), (r = 0 ∨ r = 1) ∧ o.length = i ∧ o ++ minusC r (a.drop i) (b.drop i) = minusC 0 a b ∧
    μ = a.length - i ∧ t = (lv a::lv b::uu::uu::uu::.vec (ci .i64 o) i (some 0)::.int .i64 r::.int .i64 i::uu::uu::uu::uu::uu::uu::uu::uu::uu::uu::uu::uu::uu::uu::uu::uu::uu::uu::uu::uu::uu::uu::uu::uu::uu::uu::uu::uu::uu::uu::uu::uu::uu::[]) ∧ h = [.tok i 3 1]) ?_ ⟨_, _, WeakL.of_eq rfl, 0, 0, [], .inl rfl, rfl, rfl, rfl, rfl, rfl⟩ ?_
  · rintro _ _ _ ⟨i, c, o, -, -, -, rfl, rfl, rfl⟩
    exact ⟨rfl, (by simp [IdsL, Ids, IdsH, IdsC, lv_ids, ci_ids]), (by simp [IdsL, Ids, IdsH, IdsC, lv_ids, ci_ids])⟩
  rintro _ _ _ ⟨i, r, o, hr, hi, ho, rfl, rfl, rfl⟩
  have hlen : i ≤ 100000 := by
    have h1 := (minusC_spec 0 a b (.inl rfl) ha hb).1
    rw [← ho, List.length_append] at h1; omega
  conv => whnf
  by_cases g1 : i < a.length
  · obtain ⟨x, hx⟩ : ∃ x, a[i]? = some x := ⟨_, List.getElem?_eq_getElem g1⟩
    have hxb := ha x (List.mem_of_getElem? hx)
    rw [drop_cons' hx] at ho
    by_cases g2 : i < b.length
    · obtain ⟨y, hy⟩ : ∃ y, b[i]? = some y := ⟨_, List.getElem?_eq_getElem g2⟩
      have hyb := hb y (List.mem_of_getElem? hy)
      rw [drop_cons' hy, minusC] at ho
      repeat' ((first | refine zs (by omega) ?_ | refine zq6 ?_ | refine zs (by dsimp only; omega) ?_ | refine Req.mk ⟨rfl, rfl, rfl, by simp [ci_length, *], rfl, by simp [okCell], by dsimp only; omega, by omega, by decide⟩ ?_ | refine zs (show pendP _ _ by repeat' constructor) ?_ | (with_reducible first | refine brT ‹_› ?_ | refine brF ‹_› ?_ | refine zt (by omega) ?_ | refine zf (by omega) ?_ | refine brNot ?_)); conv => whnf)
      refine ldI _ (ci_sub .i64 hx) ?_
      conv => whnf
      repeat' ((first | refine zs (by omega) ?_ | refine zq6 ?_ | refine zs (by dsimp only; omega) ?_ | refine Req.mk ⟨rfl, rfl, rfl, by simp [ci_length, *], rfl, by simp [okCell], by dsimp only; omega, by omega, by decide⟩ ?_ | refine zs (show pendP _ _ by repeat' constructor) ?_ | (with_reducible first | refine brT ‹_› ?_ | refine brF ‹_› ?_ | refine zt (by omega) ?_ | refine zf (by omega) ?_ | refine brNot ?_)); conv => whnf)
      refine ldI _ (ci_sub .i64 hy) ?_
      conv => whnf
      repeat' ((first | refine zs (by omega) ?_ | refine zq6 ?_ | refine zs (by dsimp only; omega) ?_ | refine Req.mk ⟨rfl, rfl, rfl, by simp [ci_length, *], rfl, by simp [okCell], by dsimp only; omega, by omega, by decide⟩ ?_ | refine zs (show pendP _ _ by repeat' constructor) ?_ | (with_reducible first | refine brT ‹_› ?_ | refine brF ‹_› ?_ | refine zt (by omega) ?_ | refine zf (by omega) ?_ | refine brNot ?_)); conv => whnf)
      by_cases g3 : x - r - y < 0
      · rw [if_pos g3] at ho
        repeat' ((first | refine zs (by omega) ?_ | refine zq6 ?_ | refine zs (by dsimp only; omega) ?_ | refine Req.mk ⟨rfl, rfl, rfl, by simp [ci_length, *], rfl, by simp [okCell], by dsimp only; omega, by omega, by decide⟩ ?_ | refine zs (show pendP _ _ by repeat' constructor) ?_ | (with_reducible first | refine brT ‹_› ?_ | refine brF ‹_› ?_ | refine zt (by omega) ?_ | refine zf (by omega) ?_ | refine brNot ?_)); conv => whnf)
        refine ⟨_, _, ?_, WeakL.of_eq rfl, i + 1, 1, o ++ [x - r - y + 65536], .inr rfl, by simp [hi], ?_, rfl, ?_, rfl⟩
        · omega
        · rw [← ho]; simp
        · rw [← ci_append]; rfl
      · rw [if_neg g3] at ho
        repeat' ((first | refine zs (by omega) ?_ | refine zq6 ?_ | refine zs (by dsimp only; omega) ?_ | refine Req.mk ⟨rfl, rfl, rfl, by simp [ci_length, *], rfl, by simp [okCell], by dsimp only; omega, by omega, by decide⟩ ?_ | refine zs (show pendP _ _ by repeat' constructor) ?_ | (with_reducible first | refine brT ‹_› ?_ | refine brF ‹_› ?_ | refine zt (by omega) ?_ | refine zf (by omega) ?_ | refine brNot ?_)); conv => whnf)
        refine ⟨_, _, ?_, WeakL.of_eq rfl, i + 1, 0, o ++ [x - r - y], .inl rfl, by simp [hi], ?_, rfl, ?_, rfl⟩
        · omega
        · rw [← ho]; simp
        · rw [← ci_append]; rfl
    · rw [drop_nil' (l := b) (by omega), minusC] at ho
      repeat' ((first | refine zs (by omega) ?_ | refine zq6 ?_ | refine zs (by dsimp only; omega) ?_ | refine Req.mk ⟨rfl, rfl, rfl, by simp [ci_length, *], rfl, by simp [okCell], by dsimp only; omega, by omega, by decide⟩ ?_ | refine zs (show pendP _ _ by repeat' constructor) ?_ | (with_reducible first | refine brT ‹_› ?_ | refine brF ‹_› ?_ | refine zt (by omega) ?_ | refine zf (by omega) ?_ | refine brNot ?_)); conv => whnf)
      refine ldI _ (ci_sub .i64 hx) ?_
      conv => whnf
      repeat' ((first | refine zs (by omega) ?_ | refine zq6 ?_ | refine zs (by dsimp only; omega) ?_ | refine Req.mk ⟨rfl, rfl, rfl, by simp [ci_length, *], rfl, by simp [okCell], by dsimp only; omega, by omega, by decide⟩ ?_ | refine zs (show pendP _ _ by repeat' constructor) ?_ | (with_reducible first | refine brT ‹_› ?_ | refine brF ‹_› ?_ | refine zt (by omega) ?_ | refine zf (by omega) ?_ | refine brNot ?_)); conv => whnf)
      by_cases g3 : x - r < 0
      · rw [if_pos g3] at ho
        repeat' ((first | refine zs (by omega) ?_ | refine zq6 ?_ | refine zs (by dsimp only; omega) ?_ | refine Req.mk ⟨rfl, rfl, rfl, by simp [ci_length, *], rfl, by simp [okCell], by dsimp only; omega, by omega, by decide⟩ ?_ | refine zs (show pendP _ _ by repeat' constructor) ?_ | (with_reducible first | refine brT ‹_› ?_ | refine brF ‹_› ?_ | refine zt (by omega) ?_ | refine zf (by omega) ?_ | refine brNot ?_)); conv => whnf)
        refine ⟨_, _, ?_, WeakL.of_eq rfl, i + 1, 1, o ++ [x - r + 65536], .inr rfl, by simp [hi], ?_, rfl, ?_, rfl⟩
        · omega
        · rw [← ho, drop_nil' (l := b) (by omega)]; simp
        · rw [← ci_append]; rfl
      · rw [if_neg g3] at ho
        repeat' ((first | refine zs (by omega) ?_ | refine zq6 ?_ | refine zs (by dsimp only; omega) ?_ | refine Req.mk ⟨rfl, rfl, rfl, by simp [ci_length, *], rfl, by simp [okCell], by dsimp only; omega, by omega, by decide⟩ ?_ | refine zs (show pendP _ _ by repeat' constructor) ?_ | (with_reducible first | refine brT ‹_› ?_ | refine brF ‹_› ?_ | refine zt (by omega) ?_ | refine zf (by omega) ?_ | refine brNot ?_)); conv => whnf)
        refine ⟨_, _, ?_, WeakL.of_eq rfl, i + 1, 0, o ++ [x - r], .inl rfl, by simp [hi], ?_, rfl, ?_, rfl⟩
        · omega
        · rw [← ho, drop_nil' (l := b) (by omega)]; simp
        · rw [← ci_append]; rfl
  · repeat' ((first | refine zs (by omega) ?_ | refine zq6 ?_ | refine zs (by dsimp only; omega) ?_ | refine Req.mk ⟨rfl, rfl, rfl, by simp [ci_length, *], rfl, by simp [okCell], by dsimp only; omega, by omega, by decide⟩ ?_ | refine zs (show pendP _ _ by repeat' constructor) ?_ | (with_reducible first | refine brT ‹_› ?_ | refine brF ‹_› ?_ | refine zt (by omega) ?_ | refine zf (by omega) ?_ | refine brNot ?_)); conv => whnf)
    refine c_trim' o _ hi (by omega) rfl ?_
    conv => whnf
    rw [drop_nil' (l := a) (by omega)] at ho
    rw [← ho]; simp [minusC, retK, lv]
theorem c_minusN (m n : Nat) (h : n ≤ m) (hm : (dig m).length ≤ 100000) (hn : (dig n).length ≤ 100000) : ACalls seat 98 [lv (dig m), lv (dig n)] [] (fun x _ => x = .ret (lv (dig (m - n)))) := by
  rw [← minus_dig h]; exact c_minus _ _ (dig_Dg m) (dig_Dg n) hm hn
theorem c_less (a b : List Int) (la : a.length ≤ 100000) (lb : b.length ≤ 100000) : ACalls seat 97 [lv a, lv b] [] (fun x _ => x = .ret (.bool (lessL a b))) := by
  refine ACalls.body seat_ok Tryd.func97 rfl rfl ?_
  conv => whnf
  by_cases g : a.length = b.length
  · repeat' ((first | refine zs (by omega) ?_ | refine zq6 ?_ | refine zs (by dsimp only; omega) ?_ | refine Req.mk ⟨rfl, rfl, rfl, by simp [ci_length, *], rfl, by simp [okCell], by dsimp only; omega, by omega, by decide⟩ ?_ | refine zs (show pendP _ _ by repeat' constructor) ?_ | (with_reducible first | refine brT ‹_› ?_ | refine brF ‹_› ?_ | refine zt (by omega) ?_ | refine zf (by omega) ?_ | refine brNot ?_)); conv => whnf)
    refine Sat.invP seat_ok seat_g (maskOf 41 [0, 1, 5]) 0 (fun μ t h => ∃ i : Nat, i ≤ a.length ∧ lessL a b = lessR (a.take i).reverse (b.take i).reverse ∧
      μ = i ∧ t = (lv a::lv b::uu::uu::uu::.int .i64 ((i : Int) - 1)::uu::uu::uu::uu::uu::uu::uu::uu::uu::uu::uu::uu::uu::uu::uu::uu::uu::uu::uu::uu::uu::uu::uu::uu::uu::uu::uu::uu::uu::uu::uu::uu::uu::uu::uu::[]) ∧ h = []) ?_ ⟨_, _, WeakL.of_eq rfl, a.length, Nat.le_refl _, ?_, rfl, rfl, rfl⟩ ?_
    · rintro _ _ _ ⟨i, -, -, rfl, rfl, rfl⟩
      exact ⟨rfl, (by simp [IdsL, Ids, IdsH, IdsC, lv_ids, ci_ids]), (by simp [IdsL, Ids, IdsH, IdsC, lv_ids, ci_ids])⟩
    · unfold lessL
      rw [if_neg (by simpa using g), List.take_length, g, List.take_length]
    rintro i _ _ ⟨_, hi, hl, rfl, rfl, rfl⟩
    conv => whnf
    cases i with
    | zero =>
      repeat' ((first | refine zs (by omega) ?_ | refine zq6 ?_ | refine zs (by dsimp only; omega) ?_ | refine Req.mk ⟨rfl, rfl, rfl, by simp [ci_length, *], rfl, by simp [okCell], by dsimp only; omega, by omega, by decide⟩ ?_ | refine zs (show pendP _ _ by repeat' constructor) ?_ | (with_reducible first | refine brT ‹_› ?_ | refine brF ‹_› ?_ | refine zt (by omega) ?_ | refine zf (by omega) ?_ | refine brNot ?_)); conv => whnf)
      rw [hl]; rfl
    | succ i =>
      obtain ⟨x, hx⟩ : ∃ x, a[i]? = some x := ⟨_, List.getElem?_eq_getElem (by omega)⟩
      obtain ⟨y, hy⟩ : ∃ y, b[i]? = some y := ⟨_, List.getElem?_eq_getElem (by omega)⟩
      rw [List.take_add_one, List.take_add_one, hx, hy] at hl
      simp only [Option.toList_some, List.reverse_append, List.reverse_singleton, List.singleton_append, lessR] at hl
      have e1 : ((i + 1 : Nat) : Int) - 1 = i := by omega
      rw [e1]
      repeat' ((first | refine zs (by omega) ?_ | refine zq6 ?_ | refine zs (by dsimp only; omega) ?_ | refine Req.mk ⟨rfl, rfl, rfl, by simp [ci_length, *], rfl, by simp [okCell], by dsimp only; omega, by omega, by decide⟩ ?_ | refine zs (show pendP _ _ by repeat' constructor) ?_ | (with_reducible first | refine brT ‹_› ?_ | refine brF ‹_› ?_ | refine zt (by omega) ?_ | refine zf (by omega) ?_ | refine brNot ?_)); conv => whnf)
      refine DrawH.plan seat_ok (.take 0 (.take 1 (.take 2 (.take 3 (.take 4 (.take 5 (.take 6 (.take 7 (.take 8 Plan.done))))))))) 0 (by kernel_rfl) ?_
      conv => whnf
      repeat' ((first | refine zs (by omega) ?_ | refine zq6 ?_ | refine zs (by dsimp only; omega) ?_ | refine Req.mk ⟨rfl, rfl, rfl, by simp [ci_length, *], rfl, by simp [okCell], by dsimp only; omega, by omega, by decide⟩ ?_ | refine zs (show pendP _ _ by repeat' constructor) ?_ | (with_reducible first | refine brT ‹_› ?_ | refine brF ‹_› ?_ | refine zt (by omega) ?_ | refine zf (by omega) ?_ | refine brNot ?_)); conv => whnf)
      refine ldI _ (ci_sub .i64 hx) ?_
      conv => whnf
      repeat' ((first | refine zs (by omega) ?_ | refine zq6 ?_ | refine zs (by dsimp only; omega) ?_ | refine Req.mk ⟨rfl, rfl, rfl, by simp [ci_length, *], rfl, by simp [okCell], by dsimp only; omega, by omega, by decide⟩ ?_ | refine zs (show pendP _ _ by repeat' constructor) ?_ | (with_reducible first | refine brT ‹_› ?_ | refine brF ‹_› ?_ | refine zt (by omega) ?_ | refine zf (by omega) ?_ | refine brNot ?_)); conv => whnf)
      refine ldI _ (ci_sub .i64 hy) ?_
      conv => whnf
      by_cases g3 : x = y
      · rw [if_pos g3] at hl
        repeat' ((first | refine zs (by omega) ?_ | refine zq6 ?_ | refine zs (by dsimp only; omega) ?_ | refine Req.mk ⟨rfl, rfl, rfl, by simp [ci_length, *], rfl, by simp [okCell], by dsimp only; omega, by omega, by decide⟩ ?_ | refine zs (show pendP _ _ by repeat' constructor) ?_ | (with_reducible first | refine brT ‹_› ?_ | refine brF ‹_› ?_ | refine zt (by omega) ?_ | refine zf (by omega) ?_ | refine brNot ?_)); conv => whnf)
        exact ⟨_, _, Nat.lt_succ_self i, WeakL.of_eq rfl, i, by omega, hl, rfl, rfl, rfl⟩
      · rw [if_neg g3] at hl
        repeat' ((first | refine zs (by omega) ?_ | refine zq6 ?_ | refine zs (by dsimp only; omega) ?_ | refine Req.mk ⟨rfl, rfl, rfl, by simp [ci_length, *], rfl, by simp [okCell], by dsimp only; omega, by omega, by decide⟩ ?_ | refine zs (show pendP _ _ by repeat' constructor) ?_ | (with_reducible first | refine brT ‹_› ?_ | refine brF ‹_› ?_ | refine zt (by omega) ?_ | refine zf (by omega) ?_ | refine brNot ?_)); conv => whnf)
        refine DrawH.plan seat_ok (.take 0 (.take 1 (.take 2 (.take 3 (.take 4 (.take 5 (.take 6 (.take 7 (.take 8 (.take 9 Plan.done)))))))))) 0 (by kernel_rfl) ?_
        conv => whnf
        repeat' ((first | refine zs (by omega) ?_ | refine zq6 ?_ | refine zs (by dsimp only; omega) ?_ | refine Req.mk ⟨rfl, rfl, rfl, by simp [ci_length, *], rfl, by simp [okCell], by dsimp only; omega, by omega, by decide⟩ ?_ | refine zs (show pendP _ _ by repeat' constructor) ?_ | (with_reducible first | refine brT ‹_› ?_ | refine brF ‹_› ?_ | refine zt (by omega) ?_ | refine zf (by omega) ?_ | refine brNot ?_)); conv => whnf)
        refine ldI _ (ci_sub .i64 hx) ?_
        conv => whnf
        repeat' ((first | refine zs (by omega) ?_ | refine zq6 ?_ | refine zs (by dsimp only; omega) ?_ | refine Req.mk ⟨rfl, rfl, rfl, by simp [ci_length, *], rfl, by simp [okCell], by dsimp only; omega, by omega, by decide⟩ ?_ | refine zs (show pendP _ _ by repeat' constructor) ?_ | (with_reducible first | refine brT ‹_› ?_ | refine brF ‹_› ?_ | refine zt (by omega) ?_ | refine zf (by omega) ?_ | refine brNot ?_)); conv => whnf)
        refine ldI _ (ci_sub .i64 hy) ?_
        conv => whnf
        repeat' ((first | refine zs (by omega) ?_ | refine zq6 ?_ | refine zs (by dsimp only; omega) ?_ | refine Req.mk ⟨rfl, rfl, rfl, by simp [ci_length, *], rfl, by simp [okCell], by dsimp only; omega, by omega, by decide⟩ ?_ | refine zs (show pendP _ _ by repeat' constructor) ?_ | (with_reducible first | refine brT ‹_› ?_ | refine brF ‹_› ?_ | refine zt (by omega) ?_ | refine zf (by omega) ?_ | refine brNot ?_)); conv => whnf)
        rw [hl]; rfl
  · repeat' ((first | refine zs (by omega) ?_ | refine zq6 ?_ | refine zs (by dsimp only; omega) ?_ | refine Req.mk ⟨rfl, rfl, rfl, by simp [ci_length, *], rfl, by simp [okCell], by dsimp only; omega, by omega, by decide⟩ ?_ | refine zs (show pendP _ _ by repeat' constructor) ?_ | (with_reducible first | refine brT ‹_› ?_ | refine brF ‹_› ?_ | refine zt (by omega) ?_ | refine zf (by omega) ?_ | refine brNot ?_)); conv => whnf)
    unfold lessL
    rw [if_pos g]
    simp [retK]
theorem c_lessN (m n : Nat) (hm : (dig m).length ≤ 100000) (hn : (dig n).length ≤ 100000) : ACalls seat 97 [lv (dig m), lv (dig n)] [] (fun x _ => x = .ret (.bool (decide (m < n)))) := by
  rw [← less_dig]; exact c_less _ _ hm hn
def nv (s : Bool) (m : Nat) : AV := .agg [.bool s, lv (dig m)]
theorem nv_closed (s : Bool) (m : Nat) : Closed (nv s m) := by simp only [nv, Closed, ClosedL]; exact ⟨trivial, lv_closed _, trivial⟩
theorem c_of (a : Int) (ha : I64 a) : ACalls seat 90 [.int .i64 a] [] (fun x _ => x = .ret (nv (decide (a < 0)) a.natAbs)) := by
  refine ACalls.body seat_ok Tryd.func90 rfl rfl ?_
  have hm : a.natAbs ≤ 9223372036854775808 := by unfold I64 at ha; omega
  have hs := sg_natAbs a
  generalize hS : decide (a < 0) = s at hs ⊢
  generalize a.natAbs = m0 at hs hm ⊢
  conv => whnf
  refine Sat.nilTok 4 3 1 rfl ?_
  refine Sat.invP seat_ok seat_g (maskOf 29 [0, 2, 3, 4, 5]) 2 (fun μ t h => ∃ (i m : Nat) (o : List Int), i ≤ 4 ∧ m ≤ m0 ∧ o.length = i ∧ o ++ lowD (4 - i) m = lowD 4 m0 ∧
    μ = 4 - i ∧ t = (.int .i64 (sg s m)::uu::.ptr 0 0::.bool s::.vec (ci .i64 o) i (some 1)::.int .i64 i::uu::uu::uu::uu::uu::uu::uu::uu::uu::uu::uu::uu::uu::uu::uu::uu::uu::uu::uu::uu::uu::uu::uu::[]) ∧ h = [.var [.bool false, .nils] 123, .tok i 3 1]) ?_ ⟨_, _, ?_, 0, m0, [], by omega, Nat.le_refl _, rfl, rfl, rfl, rfl, rfl⟩ ?_
  · rintro _ _ _ ⟨i, m, o, -, -, -, -, rfl, rfl, rfl⟩
    exact ⟨rfl, (by simp [IdsL, Ids, IdsH, IdsC, lv_ids, ci_ids]), (by simp [IdsL, Ids, IdsH, IdsC, lv_ids, ci_ids])⟩
  · rw [← hs, ← hS]; exact WeakL.of_eq rfl
  rintro _ _ _ ⟨i, m, o, hi, hmm, ho, hl, rfl, rfl, rfl⟩
  conv => whnf
  by_cases g : i < 4
  · have hb := sg_bounds s (m % 65536)
    have hb2 := sg_bounds s (m / 65536)
    obtain ⟨j, hj⟩ : ∃ j, 4 - i = j + 1 := ⟨3 - i, by omega⟩
    rw [hj, lowD] at hl
    repeat' ((first | refine zs (by omega) ?_ | refine zq6 ?_ | refine zs (by dsimp only; omega) ?_ | refine Req.mk ⟨rfl, rfl, rfl, by simp [ci_length, *], rfl, by simp [okCell], by dsimp only; omega, by omega, by decide⟩ ?_ | refine zs (show pendP _ _ by repeat' constructor) ?_ | (with_reducible first | refine brT ‹_› ?_ | refine brF ‹_› ?_ | refine zt (by omega) ?_ | refine zf (by omega) ?_ | refine brNot ?_)); conv => whnf)
    refine NumH.is _ (sg_tmod s m) ?_
    conv => whnf
    by_cases g2 : sg s (m % 65536) < 0
    · repeat' ((first | refine zs (by omega) ?_ | refine zq6 ?_ | refine zs (by dsimp only; omega) ?_ | refine Req.mk ⟨rfl, rfl, rfl, by simp [ci_length, *], rfl, by simp [okCell], by dsimp only; omega, by omega, by decide⟩ ?_ | refine zs (show pendP _ _ by repeat' constructor) ?_ | (with_reducible first | refine brT ‹_› ?_ | refine brF ‹_› ?_ | refine zt (by omega) ?_ | refine zf (by omega) ?_ | refine brNot ?_)); conv => whnf)
      refine WrapH.is (sg s (m / 65536)) (by rw [sg_tdiv]; exact wrap_i64 (by omega) (by omega)) ?_
      conv => whnf
      repeat' ((first | refine zs (by omega) ?_ | refine zq6 ?_ | refine zs (by dsimp only; omega) ?_ | refine Req.mk ⟨rfl, rfl, rfl, by simp [ci_length, *], rfl, by simp [okCell], by dsimp only; omega, by omega, by decide⟩ ?_ | refine zs (show pendP _ _ by repeat' constructor) ?_ | (with_reducible first | refine brT ‹_› ?_ | refine brF ‹_› ?_ | refine zt (by omega) ?_ | refine zf (by omega) ?_ | refine brNot ?_)); conv => whnf)
      refine ⟨_, _, ?_, WeakL.of_eq rfl, i + 1, m / 65536, o ++ [((m % 65536 : Nat) : Int)], by omega, by omega, by simp [ho], ?_, rfl, ?_, rfl⟩
      · omega
      · rw [← hl, show 4 - (i + 1) = j by omega]; simp
      · rw [← ci_append, ← sg_neg g2]; rfl
    · repeat' ((first | refine zs (by omega) ?_ | refine zq6 ?_ | refine zs (by dsimp only; omega) ?_ | refine Req.mk ⟨rfl, rfl, rfl, by simp [ci_length, *], rfl, by simp [okCell], by dsimp only; omega, by omega, by decide⟩ ?_ | refine zs (show pendP _ _ by repeat' constructor) ?_ | (with_reducible first | refine brT ‹_› ?_ | refine brF ‹_› ?_ | refine zt (by omega) ?_ | refine zf (by omega) ?_ | refine brNot ?_)); conv => whnf)
      refine WrapH.is (sg s (m / 65536)) (by rw [sg_tdiv]; exact wrap_i64 (by omega) (by omega)) ?_
      conv => whnf
      repeat' ((first | refine zs (by omega) ?_ | refine zq6 ?_ | refine zs (by dsimp only; omega) ?_ | refine Req.mk ⟨rfl, rfl, rfl, by simp [ci_length, *], rfl, by simp [okCell], by dsimp only; omega, by omega, by decide⟩ ?_ | refine zs (show pendP _ _ by repeat' constructor) ?_ | (with_reducible first | refine brT ‹_› ?_ | refine brF ‹_› ?_ | refine zt (by omega) ?_ | refine zf (by omega) ?_ | refine brNot ?_)); conv => whnf)
      refine ⟨_, _, ?_, WeakL.of_eq rfl, i + 1, m / 65536, o ++ [((m % 65536 : Nat) : Int)], by omega, by omega, by simp [ho], ?_, rfl, ?_, rfl⟩
      · omega
      · rw [← hl, show 4 - (i + 1) = j by omega]; simp
      · rw [← ci_append, ← sg_pos g2]; rfl
  · repeat' ((first | refine zs (by omega) ?_ | refine zq6 ?_ | refine zs (by dsimp only; omega) ?_ | refine Req.mk ⟨rfl, rfl, rfl, by simp [ci_length, *], rfl, by simp [okCell], by dsimp only; omega, by omega, by decide⟩ ?_ | refine zs (show pendP _ _ by repeat' constructor) ?_ | (with_reducible first | refine brT ‹_› ?_ | refine brF ‹_› ?_ | refine zt (by omega) ?_ | refine zf (by omega) ?_ | refine brNot ?_)); conv => whnf)
    refine c_trim' o _ ho (by omega) rfl ?_
    conv => whnf
    have : i = 4 := by omega
    subst this
    have e : o = lowD 4 m0 := by rw [← hl]; simp [lowD]
    rw [e, low_dig (by omega)]
    rfl
set_option maxRecDepth 100000 in
theorem c_mul (s1 s2 : Bool) (m n : Nat) (hm : (dig m).length ≤ 20000) (hn : (dig n).length ≤ 20000) : ACalls seat 80 [nv s1 m, nv s2 n] [] (fun x _ => x = .ret (nv (!(s1 == s2)) (m * n))) := by
  refine ACalls.body seat_ok Tryd.func80 rfl rfl ?_
  have da := dig_Dg m
  have db := dig_Dg n
  have va := dv_dig m
  have hml := dig_mul_length m n
  have hrowd := fun x hx i => row_dig (x := x) hx i n
  unfold nv
  generalize dig m = A at *
  generalize dig n = B at *
  conv => whnf
  refine Sat.cut (fun x t h => x = .exit 0 ∧ t = (uu::uu::.ptr 0 0::.ptr 1 0::.ptr 2 0::lv (dig (m * n))::uu::uu::uu::uu::uu::uu::uu::uu::uu::uu::uu::uu::uu::uu::uu::uu::uu::uu::uu::uu::uu::uu::uu::uu::uu::uu::uu::uu::uu::uu::uu::uu::uu::uu::uu::uu::uu::uu::uu::uu::uu::uu::uu::uu::uu::uu::uu::uu::uu::uu::uu::uu::uu::uu::uu::uu::uu::uu::uu::uu::uu::uu::[]) ∧
    h = [.var [.bool s1, lv A] 123, .var [.bool s2, lv B] 123, .var [.bool false, .nils] 123]) ?_ ?_
  · refine Sat.invP seat_ok seat_g (maskOf 68 [2, 3, 4, 5, 6]) 3 (fun μ t h => ∃ (i p : Nat), i ≤ A.length ∧ (p : Int) = dv (A.take i) ∧
      μ = A.length - i ∧ t = (uu::uu::.ptr 0 0::.ptr 1 0::.ptr 2 0::lv (dig (p * n))::.int .i64 i::uu::uu::uu::uu::uu::uu::uu::uu::uu::uu::uu::uu::uu::uu::uu::uu::uu::uu::uu::uu::uu::uu::uu::uu::uu::uu::uu::uu::uu::uu::uu::uu::uu::uu::uu::uu::uu::uu::uu::uu::uu::uu::uu::uu::uu::uu::uu::uu::uu::uu::uu::uu::uu::uu::uu::uu::uu::uu::uu::uu::uu::[]) ∧
      h = [.var [.bool s1, lv A] 123, .var [.bool s2, lv B] 123, .var [.bool false, .nils] 123]) ?_ ⟨_, _, WeakL.setAt 5 rfl lv_nils, 0, 0, by omega, rfl, rfl, ?_, rfl⟩ ?_
    · rintro _ _ _ ⟨i, p, -, -, rfl, rfl, rfl⟩
      exact ⟨rfl, (by simp [IdsL, Ids, IdsH, IdsC, lv_ids, ci_ids]), (by simp [IdsL, Ids, IdsH, IdsC, lv_ids, ci_ids])⟩
    · rw [Nat.zero_mul]; rfl
    rintro _ _ _ ⟨i, p, hi, hp, rfl, rfl, rfl⟩
    by_cases g : i < A.length
    · obtain ⟨x, hx⟩ : ∃ x, A[i]? = some x := ⟨_, List.getElem?_eq_getElem g⟩
      have hxb := da x (List.mem_of_getElem? hx)
      conv => whnf
      repeat' ((first | refine zs (by omega) ?_ | refine zq6 ?_ | refine zs (by dsimp only; omega) ?_ | refine Req.mk ⟨rfl, rfl, rfl, by simp [ci_length, *], rfl, by simp [okCell], by dsimp only; omega, by omega, by decide⟩ ?_ | refine zs (show pendP _ _ by repeat' constructor) ?_ | (with_reducible first | refine brT ‹_› ?_ | refine brF ‹_› ?_ | refine zt (by omega) ?_ | refine zf (by omega) ?_ | refine brNot ?_)); conv => whnf)
      refine Sat.freeze 7 3 (len := i) (cap := i) 1 rfl rfl ⟨?_, by omega, by omega⟩ ?_
      · show i * 1 = (repL i [AV.int .i64 0]).length
        rw [repL_length]; rfl
      have ez : AV.vec ((repL i [AV.int .i64 0]).take (i * 1)) i (some 3) = .vec (ci .i64 (List.replicate i 0)) i (some 3) := by
        rw [ci_zeros, ci_take, Nat.mul_one, List.take_of_length_le (by simp)]
      refine Sat.cut (fun y t h => y = .exit 2 ∧ ∃ k, t = (uu::uu::.ptr 0 0::.ptr 1 0::.ptr 2 0::lv (dig (p * n))::.int .i64 i::.vec (ci .i64 (List.replicate i 0 ++ mulC x 0 B)) k (some 3)::uu::uu::uu::uu::uu::uu::uu::uu::uu::uu::uu::uu::uu::uu::uu::uu::uu::uu::uu::uu::uu::uu::uu::uu::uu::uu::uu::uu::uu::uu::uu::uu::uu::uu::uu::uu::uu::uu::uu::uu::uu::uu::uu::uu::uu::uu::uu::uu::uu::uu::uu::uu::uu::uu::uu::uu::uu::uu::uu::uu::[]) ∧
        (List.replicate i 0 ++ mulC x 0 B).length = k ∧
        h = [.var [.bool s1, lv A] 123, .var [.bool s2, lv B] 123, .var [.bool false, .nils] 123, .tok k 3 1]) ?_ ?_
      · refine Sat.invP seat_ok seat_g (maskOf 68 [2, 3, 4, 5, 6, 7, 8, 9]) 4 (fun μ t h => ∃ (k : Nat) (c : Int) (r : List Int), (0 ≤ c ∧ c < 65536) ∧ r.length = i + k ∧ r ++ mulC x c (B.drop k) = List.replicate i 0 ++ mulC x 0 B ∧
          μ = 2 * (B.length - k) + (if c = 0 then 0 else 1) ∧ t = (uu::uu::.ptr 0 0::.ptr 1 0::.ptr 2 0::lv (dig (p * n))::.int .i64 i::.vec (ci .i64 r) (i + k) (some 3)::.int .i64 c::.int .i64 k::uu::uu::uu::uu::uu::uu::uu::uu::uu::uu::uu::uu::uu::uu::uu::uu::uu::uu::uu::uu::uu::uu::uu::uu::uu::uu::uu::uu::uu::uu::uu::uu::uu::uu::uu::uu::uu::uu::uu::uu::uu::uu::uu::uu::uu::uu::uu::uu::uu::uu::uu::uu::uu::uu::uu::uu::uu::uu::[]) ∧
          h = [.var [.bool s1, lv A] 123, .var [.bool s2, lv B] 123, .var [.bool false, .nils] 123, .tok (i + k) 3 1]) ?_ ⟨_, _, WeakL.of_eq ?_, 0, 0, List.replicate i 0, by omega, by simp, rfl, rfl, rfl, rfl⟩ ?_
        · rintro _ _ _ ⟨k, c, r, -, -, -, rfl, rfl, rfl⟩
          exact ⟨rfl, (by simp [IdsL, Ids, IdsH, IdsC, lv_ids, ci_ids]), (by simp [IdsL, Ids, IdsH, IdsC, lv_ids, ci_ids])⟩
        · rw [Nat.add_zero, ← ez]; rfl
        rintro _ _ _ ⟨k, c, r, hc, hr, hrow, rfl, rfl, rfl⟩
        have hk : k ≤ 20001 := by
          have h1 := (mulC_spec hxb B 0 (by omega) db).2.2
          have h2 := congrArg List.length hrow
          simp only [List.length_append, List.length_replicate] at h2; omega
        by_cases g2 : k < B.length
        · obtain ⟨y, hy⟩ : ∃ y, B[k]? = some y := ⟨_, List.getElem?_eq_getElem g2⟩
          have hyb := db y (List.mem_of_getElem? hy)
          have hb := mul_bound hc hxb hyb
          rw [drop_cons' hy, mulC] at hrow
          conv => whnf
          repeat' ((first | refine zs (by omega) ?_ | refine zq6 ?_ | refine zs (by dsimp only; omega) ?_ | refine Req.mk ⟨rfl, rfl, rfl, by simp [ci_length, *], rfl, by simp [okCell], by dsimp only; omega, by omega, by decide⟩ ?_ | refine zs (show pendP _ _ by repeat' constructor) ?_ | (with_reducible first | refine brT ‹_› ?_ | refine brF ‹_› ?_ | refine zt (by omega) ?_ | refine zf (by omega) ?_ | refine brNot ?_)); conv => whnf)
          refine DrawH.plan seat_ok (.take 0 (.take 1 (.take 2 (.take 3 (.take 4 (.take 5 (.take 6 (.take 7 (.take 8 (.take 9 (.take 10 (.take 11 (.take 12 (.perform 13 none Plan.done)))))))))))))) 0 (by kernel_rfl) ?_
          conv => whnf
          repeat' ((first | refine zs (by omega) ?_ | refine zq6 ?_ | refine zs (by dsimp only; omega) ?_ | refine Req.mk ⟨rfl, rfl, rfl, by simp [ci_length, *], rfl, by simp [okCell], by dsimp only; omega, by omega, by decide⟩ ?_ | refine zs (show pendP _ _ by repeat' constructor) ?_ | (with_reducible first | refine brT ‹_› ?_ | refine brF ‹_› ?_ | refine zt (by omega) ?_ | refine zf (by omega) ?_ | refine brNot ?_)); conv => whnf)
          refine ldI _ (ci_sub .i64 hx) ?_
          conv => whnf
          repeat' ((first | refine zs (by omega) ?_ | refine zq6 ?_ | refine zs (by dsimp only; omega) ?_ | refine Req.mk ⟨rfl, rfl, rfl, by simp [ci_length, *], rfl, by simp [okCell], by dsimp only; omega, by omega, by decide⟩ ?_ | refine zs (show pendP _ _ by repeat' constructor) ?_ | (with_reducible first | refine brT ‹_› ?_ | refine brF ‹_› ?_ | refine zt (by omega) ?_ | refine zf (by omega) ?_ | refine brNot ?_)); conv => whnf)
          refine ldI _ (ci_sub .i64 hy) ?_
          conv => whnf
          repeat' ((first | refine zs (by omega) ?_ | refine zq6 ?_ | refine zs (by dsimp only; omega) ?_ | refine Req.mk ⟨rfl, rfl, rfl, by simp [ci_length, *], rfl, by simp [okCell], by dsimp only; omega, by omega, by decide⟩ ?_ | refine zs (show pendP _ _ by repeat' constructor) ?_ | (with_reducible first | refine brT ‹_› ?_ | refine brF ‹_› ?_ | refine zt (by omega) ?_ | refine zf (by omega) ?_ | refine brNot ?_)); conv => whnf)
          refine ⟨_, _, ?_, WeakL.of_eq rfl, k + 1, (c + x * y) / 65536, r ++ [(c + x * y) % 65536], by omega, by simp [hr]; omega, ?_, rfl, ?_, rfl⟩
          · split <;> split <;> omega
          · rw [← hrow]; simp
          · rw [← ci_append]; rfl
        · rw [drop_nil' (l := B) (by omega), mulC] at hrow
          by_cases g3 : c > 0
          · conv => whnf
            repeat' ((first | refine zs (by omega) ?_ | refine zq6 ?_ | refine zs (by dsimp only; omega) ?_ | refine Req.mk ⟨rfl, rfl, rfl, by simp [ci_length, *], rfl, by simp [okCell], by dsimp only; omega, by omega, by decide⟩ ?_ | refine zs (show pendP _ _ by repeat' constructor) ?_ | (with_reducible first | refine brT ‹_› ?_ | refine brF ‹_› ?_ | refine zt (by omega) ?_ | refine zf (by omega) ?_ | refine brNot ?_)); conv => whnf)
            have e1 : c % 65536 = c := by omega
            have e2 : c / 65536 = 0 := by omega
            refine ⟨_, _, ?_, WeakL.of_eq rfl, k + 1, c / 65536, r ++ [c % 65536], by omega, by simp [hr]; omega, ?_, rfl, ?_, rfl⟩
            · rw [e2, if_pos rfl, if_neg (by omega)]; omega
            · rw [← hrow, e1, e2, drop_nil' (l := B) (by omega), if_neg (by omega)]; simp [mulC]
            · rw [← ci_append]; rfl
          · conv => whnf
            repeat' ((first | refine zs (by omega) ?_ | refine zq6 ?_ | refine zs (by dsimp only; omega) ?_ | refine Req.mk ⟨rfl, rfl, rfl, by simp [ci_length, *], rfl, by simp [okCell], by dsimp only; omega, by omega, by decide⟩ ?_ | refine zs (show pendP _ _ by repeat' constructor) ?_ | (with_reducible first | refine brT ‹_› ?_ | refine brF ‹_› ?_ | refine zt (by omega) ?_ | refine zf (by omega) ?_ | refine brNot ?_)); conv => whnf)
            rw [if_pos (by omega), List.append_nil] at hrow
            subst hrow
            exact ⟨_, keepT_weak (maskOf 68 [2, 3, 4, 5, 6, 7]) _, rfl, i + k, rfl, hr, rfl⟩
      · rintro _ _ _ ⟨rfl, k, rfl, hk, rfl⟩
        have hkl : k ≤ 100000 := by
          have h1 := (mulC_spec hxb B 0 (by omega) db).2.2
          simp only [List.length_append, List.length_replicate] at hk; omega
        have hsucc := dv_take_succ hx
        have htl := dv_take_le da (i + 1)
        have hnn : (65536 : Int) ^ i * x = ((65536 ^ i * x.toNat : Nat) : Int) := by
          rw [Int.natCast_mul, Int.natCast_pow, Int.toNat_of_nonneg hxb.1]; rfl
        have hp2 : ((p + 65536 ^ i * x.toNat : Nat) : Int) = dv (A.take (i + 1)) := by rw [hsucc, ← hp, hnn]; rfl
        have hpm : p + 65536 ^ i * x.toNat ≤ m := by rw [va] at htl; omega
        have hl1 : (dig (p * n)).length ≤ 100000 := by
          have := dig_length_mono (Nat.mul_le_mul_right n (by omega : p ≤ m)); omega
        have hl2 : (dig (65536 ^ i * x.toNat * n)).length ≤ 100000 := by
          have := dig_length_mono (Nat.mul_le_mul_right n (by omega : 65536 ^ i * x.toNat ≤ m)); omega
        have hrd := hrowd x hxb i
        clear hsucc htl hnn
        conv => whnf
        refine c_trim' _ _ hk (by omega) hrd ?_
        conv => whnf
        refine CallH.lift seat_g (c_plusN _ _ hl1 hl2) ⟨lv_closed _, lv_closed _, trivial⟩ (lv_closed _) ?_
        conv => whnf
        repeat' ((first | refine zs (by omega) ?_ | refine zq6 ?_ | refine zs (by dsimp only; omega) ?_ | refine Req.mk ⟨rfl, rfl, rfl, by simp [ci_length, *], rfl, by simp [okCell], by dsimp only; omega, by omega, by decide⟩ ?_ | refine zs (show pendP _ _ by repeat' constructor) ?_ | (with_reducible first | refine brT ‹_› ?_ | refine brF ‹_› ?_ | refine zt (by omega) ?_ | refine zf (by omega) ?_ | refine brNot ?_)); conv => whnf)
        refine ⟨_, _, ?_, WeakL.of_eq rfl, i + 1, _, by omega, hp2, rfl, ?_, rfl⟩
        · omega
        · rw [Nat.add_mul]; rfl
    · conv => whnf
      repeat' ((first | refine zs (by omega) ?_ | refine zq6 ?_ | refine zs (by dsimp only; omega) ?_ | refine Req.mk ⟨rfl, rfl, rfl, by simp [ci_length, *], rfl, by simp [okCell], by dsimp only; omega, by omega, by decide⟩ ?_ | refine zs (show pendP _ _ by repeat' constructor) ?_ | (with_reducible first | refine brT ‹_› ?_ | refine brF ‹_› ?_ | refine zt (by omega) ?_ | refine zf (by omega) ?_ | refine brNot ?_)); conv => whnf)
      have : p = m := by
        rw [List.take_of_length_le (by omega), va] at hp; omega
      subst this
      exact ⟨_, keepT_weak (maskOf 68 [2, 3, 4, 5]) _, rfl, rfl, rfl⟩
  · rintro _ _ _ ⟨rfl, rfl, rfl⟩
    conv => whnf
    repeat' ((first | refine zs (by omega) ?_ | refine zq6 ?_ | refine zs (by dsimp only; omega) ?_ | refine Req.mk ⟨rfl, rfl, rfl, by simp [ci_length, *], rfl, by simp [okCell], by dsimp only; omega, by omega, by decide⟩ ?_ | refine zs (show pendP _ _ by repeat' constructor) ?_ | (with_reducible first | refine brT ‹_› ?_ | refine brF ‹_› ?_ | refine zt (by omega) ?_ | refine zf (by omega) ?_ | refine brNot ?_)); conv => whnf)
    rfl
def addS (s1 : Bool) (m : Nat) (s2 : Bool) (n : Nat) : Bool := if s1 = s2 then s1 else if m < n then s2 else s1
def addM (s1 : Bool) (m : Nat) (s2 : Bool) (n : Nat) : Nat := if s1 = s2 then m + n else if m < n then n - m else m - n
theorem c_add (s1 s2 : Bool) (m n : Nat) (hm : (dig m).length ≤ 100000) (hn : (dig n).length ≤ 100000) : ACalls seat 87 [nv s1 m, nv s2 n] [] (fun x _ => x = .ret (nv (addS s1 m s2 n) (addM s1 m s2 n))) := by
  refine ACalls.body seat_ok Tryd.func87 rfl rfl ?_
  by_cases hs : s1 = s2
  · have e1 : addS s1 m s2 n = s1 := if_pos hs
    have e2 : addM s1 m s2 n = m + n := if_pos hs
    rw [e1, e2]
    conv => whnf
    refine brT (by simp [hs]) ?_
    conv => whnf
    refine DrawH.plan seat_ok (.take 0 (.take 1 (.take 2 (.take 3 (.take 4 (.take 5 (.perform 6 none (.take 7 (.perform 8 none Plan.done))))))))) 0 (by kernel_rfl) ?_
    conv => whnf
    refine CallH.lift seat_g (c_plusN m n hm hn) ⟨lv_closed _, lv_closed _, trivial⟩ (lv_closed _) ?_
    conv => whnf
    repeat' ((first | refine zs (by omega) ?_ | refine zq6 ?_ | refine zs (by dsimp only; omega) ?_ | refine Req.mk ⟨rfl, rfl, rfl, by simp [ci_length, *], rfl, by simp [okCell], by dsimp only; omega, by omega, by decide⟩ ?_ | refine zs (show pendP _ _ by repeat' constructor) ?_ | (with_reducible first | refine brT ‹_› ?_ | refine brF ‹_› ?_ | refine zt (by omega) ?_ | refine zf (by omega) ?_ | refine brNot ?_)); conv => whnf)
    rfl
  · by_cases hl : m < n
    · have e1 : addS s1 m s2 n = s2 := (if_neg hs).trans (if_pos hl)
      have e2 : addM s1 m s2 n = n - m := (if_neg hs).trans (if_pos hl)
      rw [e1, e2]
      conv => whnf
      refine brF (by simp [hs]) ?_
      conv => whnf
      refine CallH.lift seat_g (c_lessN m n hm hn) ⟨lv_closed _, lv_closed _, trivial⟩ (by simp [Closed]) ?_
      conv => whnf
      repeat' ((first | refine zs (by omega) ?_ | refine zq6 ?_ | refine zs (by dsimp only; omega) ?_ | refine Req.mk ⟨rfl, rfl, rfl, by simp [ci_length, *], rfl, by simp [okCell], by dsimp only; omega, by omega, by decide⟩ ?_ | refine zs (show pendP _ _ by repeat' constructor) ?_ | (with_reducible first | refine brT ‹_› ?_ | refine brF ‹_› ?_ | refine zt (by omega) ?_ | refine zf (by omega) ?_ | refine brNot ?_)); conv => whnf)
      refine DrawH.plan seat_ok (.take 0 (.take 1 (.take 2 (.take 3 (.take 4 (.take 5 (.perform 6 none (.take 7 (.perform 8 none Plan.done))))))))) 0 (by kernel_rfl) ?_
      conv => whnf
      refine CallH.lift seat_g (c_minusN n m (by omega) hn hm) ⟨lv_closed _, lv_closed _, trivial⟩ (lv_closed _) ?_
      conv => whnf
      repeat' ((first | refine zs (by omega) ?_ | refine zq6 ?_ | refine zs (by dsimp only; omega) ?_ | refine Req.mk ⟨rfl, rfl, rfl, by simp [ci_length, *], rfl, by simp [okCell], by dsimp only; omega, by omega, by decide⟩ ?_ | refine zs (show pendP _ _ by repeat' constructor) ?_ | (with_reducible first | refine brT ‹_› ?_ | refine brF ‹_› ?_ | refine zt (by omega) ?_ | refine zf (by omega) ?_ | refine brNot ?_)); conv => whnf)
      rfl
    · have e1 : addS s1 m s2 n = s1 := (if_neg hs).trans (if_neg hl)
      have e2 : addM s1 m s2 n = m - n := (if_neg hs).trans (if_neg hl)
      rw [e1, e2]
      conv => whnf
      refine brF (by simp [hs]) ?_
      conv => whnf
      refine CallH.lift seat_g (c_lessN m n hm hn) ⟨lv_closed _, lv_closed _, trivial⟩ (by simp [Closed]) ?_
      conv => whnf
      repeat' ((first | refine zs (by omega) ?_ | refine zq6 ?_ | refine zs (by dsimp only; omega) ?_ | refine Req.mk ⟨rfl, rfl, rfl, by simp [ci_length, *], rfl, by simp [okCell], by dsimp only; omega, by omega, by decide⟩ ?_ | refine zs (show pendP _ _ by repeat' constructor) ?_ | (with_reducible first | refine brT ‹_› ?_ | refine brF ‹_› ?_ | refine zt (by omega) ?_ | refine zf (by omega) ?_ | refine brNot ?_)); conv => whnf)
      refine DrawH.plan seat_ok (.take 0 (.take 1 (.take 2 (.take 3 (.take 4 (.take 5 (.perform 6 none (.take 7 (.perform 8 none Plan.done))))))))) 0 (by kernel_rfl) ?_
      conv => whnf
      refine CallH.lift seat_g (c_minusN m n (by omega) hm hn) ⟨lv_closed _, lv_closed _, trivial⟩ (lv_closed _) ?_
      conv => whnf
      repeat' ((first | refine zs (by omega) ?_ | refine zq6 ?_ | refine zs (by dsimp only; omega) ?_ | refine Req.mk ⟨rfl, rfl, rfl, by simp [ci_length, *], rfl, by simp [okCell], by dsimp only; omega, by omega, by decide⟩ ?_ | refine zs (show pendP _ _ by repeat' constructor) ?_ | (with_reducible first | refine brT ‹_› ?_ | refine brF ‹_› ?_ | refine zt (by omega) ?_ | refine zf (by omega) ?_ | refine brNot ?_)); conv => whnf)
      rfl
end Go.Proofs.YteicdddheaajlaaDoor
namespace Go.Proofs.YteicdddheaajlaaDoor
open Go.Abs
def kindN (n : Int) : Int := if 48 ≤ n ∧ n ≤ 57 then 0 else if n = 46 then 1 else if n = 101 ∨ n = 69 then 2 else if n = 43 ∨ n = 45 then 3 else -1
theorem kindN_cases (n : Int) : (kindN n = 0 ∧ 48 ≤ n ∧ n ≤ 57) ∨ (kindN n = 1 ∧ n = 46) ∨ (kindN n = 2 ∧ (n = 101 ∨ n = 69)) ∨ (kindN n = 3 ∧ (n = 43 ∨ n = 45)) ∨ (kindN n = -1 ∧ ¬ (48 ≤ n ∧ n ≤ 57) ∧ n ≠ 46 ∧ n ≠ 101 ∧ n ≠ 69 ∧ n ≠ 43 ∧ n ≠ 45) := by
  unfold kindN
  repeat' split
  all_goals omega
theorem c_kind (n : Int) : ACalls seat 92 [.int .u8 n] [] (fun x _ => x = .ret (.int .i64 (kindN n))) := by
  refine ACalls.body seat_ok Tryd.func92 rfl rfl ?_
  rcases kindN_cases n with ⟨h, h1, h2⟩ | ⟨h, h1⟩ | ⟨h, h1 | h1⟩ | ⟨h, h1 | h1⟩ | ⟨h, h1, h2, h3, h4, h5, h6⟩
  · rw [h]; conv => whnf
    repeat' ((first | refine zs (by omega) ?_ | refine zq6 ?_ | refine zs (by dsimp only; omega) ?_ | refine zs (show pendP _ _ by repeat' constructor) ?_ | (with_reducible first | refine brT ‹_› ?_ | refine brF ‹_› ?_ | refine zt (by omega) ?_ | refine zf (by omega) ?_ | refine brNot ?_)); conv => whnf)
    rfl
  · rw [h]; conv => whnf
    repeat' ((first | refine zs (by omega) ?_ | refine zq6 ?_ | refine zs (by dsimp only; omega) ?_ | refine zs (show pendP _ _ by repeat' constructor) ?_ | (with_reducible first | refine brT ‹_› ?_ | refine brF ‹_› ?_ | refine zt (by omega) ?_ | refine zf (by omega) ?_ | refine brNot ?_)); conv => whnf)
    rfl
  · rw [h]; conv => whnf
    repeat' ((first | refine zs (by omega) ?_ | refine zq6 ?_ | refine zs (by dsimp only; omega) ?_ | refine zs (show pendP _ _ by repeat' constructor) ?_ | (with_reducible first | refine brT ‹_› ?_ | refine brF ‹_› ?_ | refine zt (by omega) ?_ | refine zf (by omega) ?_ | refine brNot ?_)); conv => whnf)
    rfl
  · rw [h]; conv => whnf
    repeat' ((first | refine zs (by omega) ?_ | refine zq6 ?_ | refine zs (by dsimp only; omega) ?_ | refine zs (show pendP _ _ by repeat' constructor) ?_ | (with_reducible first | refine brT ‹_› ?_ | refine brF ‹_› ?_ | refine zt (by omega) ?_ | refine zf (by omega) ?_ | refine brNot ?_)); conv => whnf)
    rfl
  · rw [h]; conv => whnf
    repeat' ((first | refine zs (by omega) ?_ | refine zq6 ?_ | refine zs (by dsimp only; omega) ?_ | refine zs (show pendP _ _ by repeat' constructor) ?_ | (with_reducible first | refine brT ‹_› ?_ | refine brF ‹_› ?_ | refine zt (by omega) ?_ | refine zf (by omega) ?_ | refine brNot ?_)); conv => whnf)
    rfl
  · rw [h]; conv => whnf
    repeat' ((first | refine zs (by omega) ?_ | refine zq6 ?_ | refine zs (by dsimp only; omega) ?_ | refine zs (show pendP _ _ by repeat' constructor) ?_ | (with_reducible first | refine brT ‹_› ?_ | refine brF ‹_› ?_ | refine zt (by omega) ?_ | refine zf (by omega) ?_ | refine brNot ?_)); conv => whnf)
    rfl
  · rw [h]
    by_cases g : 48 ≤ n
    · conv => whnf
      repeat' ((first | refine zs (by omega) ?_ | refine zq6 ?_ | refine zs (by dsimp only; omega) ?_ | refine zs (show pendP _ _ by repeat' constructor) ?_ | (with_reducible first | refine brT ‹_› ?_ | refine brF ‹_› ?_ | refine zt (by omega) ?_ | refine zf (by omega) ?_ | refine brNot ?_)); conv => whnf)
      rfl
    · conv => whnf
      repeat' ((first | refine zs (by omega) ?_ | refine zq6 ?_ | refine zs (by dsimp only; omega) ?_ | refine zs (show pendP _ _ by repeat' constructor) ?_ | (with_reducible first | refine brT ‹_› ?_ | refine brF ‹_› ?_ | refine zt (by omega) ?_ | refine zf (by omega) ?_ | refine brNot ?_)); conv => whnf)
      rfl
end Go.Proofs.YteicdddheaajlaaDoor
namespace Go.Proofs.YteicdddheaajlaaDoor
open Go.Abs
def nextL : List Int := [2, 3, 0, 1, 2, 3, 0, 0, 2, 4, 6, 0, 5, 0, 0, 0, 5, 0, 6, 0, 5, 0, 6, 0, 8, 0, 0, 7, 8, 0, 0, 0, 8, 0, 0, 0]
def nextT (s : Nat) (k : Int) : Nat := (nextL[s * 4 + k.toNat]?.getD 0).toNat
def endsT (s : Nat) : Bool := s == 2 || s == 4 || s == 5 || s == 8
def stopT (signed : Bool) (st : Nat) (k : Int) : Bool := decide (k < 0) || (decide (k = 3) && decide (st = 0) && !signed) || decide (nextT st k = 0)
def dfa (signed : Bool) : Nat → List UInt8 → Nat × Nat
  | st, [] => (0, st)
  | st, b :: l => if stopT signed st (kindN b.toNat) = true then (0, st) else ((dfa signed (nextT st (kindN b.toNat)) l).1 + 1, (dfa signed (nextT st (kindN b.toNat)) l).2)
theorem nextT_lt {s : Nat} {k : Int} (hs : s < 9) (hk : 0 ≤ k ∧ k < 4) : nextT s k < 9 := by
  obtain ⟨j, rfl⟩ := Int.eq_ofNat_of_zero_le hk.1
  have : ∀ s < 9, ∀ j < 4, nextT s ((j : Nat) : Int) < 9 := by decide
  exact this s hs j (by omega)
theorem next_ld {s : Nat} {k : Int} (hs : s < 9) (hk : 0 ≤ k ∧ k < 4) : partK false (dropL (dropL (ci .i64 nextL) (s * 4)) (k.toNat * 1)) 0 1 = some (.int .i64 (nextT s k)) := by
  obtain ⟨j, rfl⟩ := Int.eq_ofNat_of_zero_le hk.1
  have : ∀ s : Fin 9, ∀ j : Fin 4, partK false (dropL (dropL (ci .i64 nextL) (s.val * 4)) (j.val * 1)) 0 1 = some (.int .i64 (nextT s.val (j.val : Nat))) := by
    intro s j
    match s, j with
    | ⟨0, _⟩, ⟨0, _⟩ => rfl
    | ⟨0, _⟩, ⟨1, _⟩ => rfl
    | ⟨0, _⟩, ⟨2, _⟩ => rfl
    | ⟨0, _⟩, ⟨3, _⟩ => rfl
    | ⟨1, _⟩, ⟨0, _⟩ => rfl
    | ⟨1, _⟩, ⟨1, _⟩ => rfl
    | ⟨1, _⟩, ⟨2, _⟩ => rfl
    | ⟨1, _⟩, ⟨3, _⟩ => rfl
    | ⟨2, _⟩, ⟨0, _⟩ => rfl
    | ⟨2, _⟩, ⟨1, _⟩ => rfl
    | ⟨2, _⟩, ⟨2, _⟩ => rfl
    | ⟨2, _⟩, ⟨3, _⟩ => rfl
    | ⟨3, _⟩, ⟨0, _⟩ => rfl
    | ⟨3, _⟩, ⟨1, _⟩ => rfl
    | ⟨3, _⟩, ⟨2, _⟩ => rfl
    | ⟨3, _⟩, ⟨3, _⟩ => rfl
    | ⟨4, _⟩, ⟨0, _⟩ => rfl
    | ⟨4, _⟩, ⟨1, _⟩ => rfl
    | ⟨4, _⟩, ⟨2, _⟩ => rfl
    | ⟨4, _⟩, ⟨3, _⟩ => rfl
    | ⟨5, _⟩, ⟨0, _⟩ => rfl
    | ⟨5, _⟩, ⟨1, _⟩ => rfl
    | ⟨5, _⟩, ⟨2, _⟩ => rfl
    | ⟨5, _⟩, ⟨3, _⟩ => rfl
    | ⟨6, _⟩, ⟨0, _⟩ => rfl
    | ⟨6, _⟩, ⟨1, _⟩ => rfl
    | ⟨6, _⟩, ⟨2, _⟩ => rfl
    | ⟨6, _⟩, ⟨3, _⟩ => rfl
    | ⟨7, _⟩, ⟨0, _⟩ => rfl
    | ⟨7, _⟩, ⟨1, _⟩ => rfl
    | ⟨7, _⟩, ⟨2, _⟩ => rfl
    | ⟨7, _⟩, ⟨3, _⟩ => rfl
    | ⟨8, _⟩, ⟨0, _⟩ => rfl
    | ⟨8, _⟩, ⟨1, _⟩ => rfl
    | ⟨8, _⟩, ⟨2, _⟩ => rfl
    | ⟨8, _⟩, ⟨3, _⟩ => rfl
  exact this ⟨s, hs⟩ ⟨j, by omega⟩
theorem ends_ld {s : Nat} (hs : s < 9) : partK false (dropL (ci .i64 [0, 0, 1, 0, 1, 1, 0, 0, 1]) (s * 1)) 0 1 = some (.int .i64 (if endsT s then 1 else 0)) := by
  have : ∀ s : Fin 9, partK false (dropL (ci .i64 [0, 0, 1, 0, 1, 1, 0, 0, 1]) (s.val * 1)) 0 1 = some (.int .i64 (if endsT s.val then 1 else 0)) := by
    intro s
    match s with
    | ⟨0, _⟩ => rfl
    | ⟨1, _⟩ => rfl
    | ⟨2, _⟩ => rfl
    | ⟨3, _⟩ => rfl
    | ⟨4, _⟩ => rfl
    | ⟨5, _⟩ => rfl
    | ⟨6, _⟩ => rfl
    | ⟨7, _⟩ => rfl
    | ⟨8, _⟩ => rfl
  exact this ⟨s, hs⟩
theorem kindN_range (n : Int) : kindN n = -1 ∨ (0 ≤ kindN n ∧ kindN n < 4) := by rcases kindN_cases n with h | h | h | h | h <;> omega
theorem dfa_le (sg : Bool) : ∀ (l : List UInt8) (st : Nat), st < 9 → (dfa sg st l).1 ≤ l.length ∧ (dfa sg st l).2 < 9
  | [], st, h => ⟨Nat.le_refl _, h⟩
  | b :: l, st, h => by
    unfold dfa
    split
    · exact ⟨Nat.zero_le _, h⟩
    · rename_i g
      have hk : 0 ≤ kindN b.toNat ∧ kindN b.toNat < 4 := by
        rcases kindN_range b.toNat with h | h
        · exact absurd (by simp [stopT, h]) g
        · exact h
      have := dfa_le sg l _ (nextT_lt h hk)
      exact ⟨by simp; omega, this.2⟩
set_option maxRecDepth 20000 in
theorem c_dscan (s : List UInt8) (at' : Int) (sg : Bool) (hl : s.length < 4611686018427387904) : ACalls seat 84 [.str s, .int .i64 at', .bool sg] [] (fun x _ => x = .ret (if at' < 0 ∨ s.length < at' then .tup [.int .i64 0, .bool false] else .tup [.int .i64 (at' + (dfa sg 0 (s.drop at'.toNat)).1), .bool (endsT (dfa sg 0 (s.drop at'.toNat)).2)])) := by
  refine ACalls.body seat_ok Tryd.func84 rfl rfl ?_
  by_cases g : at' < 0 ∨ s.length < at'
  · rw [if_pos g]
    by_cases g1 : at' < 0
    · conv => whnf
      refine Sat.scope seat_ok ?_
      conv => whnf
      repeat' ((first | refine zs (by omega) ?_ | refine zq6 ?_ | refine zs (by dsimp only; omega) ?_ | refine zs (show pendP _ _ by repeat' constructor) ?_ | (with_reducible first | refine brT ‹_› ?_ | refine brF ‹_› ?_ | refine zt (by omega) ?_ | refine zf (by omega) ?_ | refine brNot ?_)); conv => whnf)
      rfl
    · have g2 : (s.length : Int) < at' := by omega
      conv => whnf
      refine Sat.scope seat_ok ?_
      conv => whnf
      repeat' ((first | refine zs (by omega) ?_ | refine zq6 ?_ | refine zs (by dsimp only; omega) ?_ | refine zs (show pendP _ _ by repeat' constructor) ?_ | (with_reducible first | refine brT ‹_› ?_ | refine brF ‹_› ?_ | refine zt (by omega) ?_ | refine zf (by omega) ?_ | refine brNot ?_)); conv => whnf)
      rfl
  rw [if_neg g]
  obtain ⟨p0, rfl⟩ : ∃ p0 : Nat, at' = p0 := ⟨at'.toNat, by omega⟩
  rw [Int.toNat_natCast]
  have g1 : ¬ ((p0 : Int) < 0) := by omega
  have g2 : ¬ ((s.length : Int) < p0) := by omega
  obtain ⟨n, f, hd⟩ : ∃ n f, dfa sg 0 (s.drop p0) = (n, f) := ⟨_, _, rfl⟩
  have hf : f < 9 := by have := (dfa_le sg (s.drop p0) 0 (by omega)).2; rw [hd] at this; exact this
  rw [hd]
  conv => whnf
  refine Sat.scope seat_ok ?_
  conv => whnf
  repeat' ((first | refine zs (by omega) ?_ | refine zq6 ?_ | refine zs (by dsimp only; omega) ?_ | refine zs (show pendP _ _ by repeat' constructor) ?_ | (with_reducible first | refine brT ‹_› ?_ | refine brF ‹_› ?_ | refine zt (by omega) ?_ | refine zf (by omega) ?_ | refine brNot ?_)); conv => whnf)
  refine Sat.cut (fun x t h => x = .exit 0 ∧ t = (uu::.int .i64 (p0 + n)::uu::uu::uu::uu::uu::uu::.int .i64 f::uu::uu::uu::uu::uu::uu::uu::uu::uu::uu::uu::uu::uu::uu::uu::uu::uu::uu::uu::uu::uu::uu::uu::uu::uu::uu::uu::uu::uu::uu::uu::uu::uu::uu::uu::uu::uu::uu::uu::uu::uu::uu::uu::uu::uu::uu::uu::uu::[]) ∧ h = []) ?_ ?_
  · refine Sat.invP seat_ok seat_g (maskOf 57 [0, 1, 2, 8]) 0 (fun μ t h => ∃ (p st : Nat), p ≤ s.length ∧ p0 ≤ p ∧ st < 9 ∧ dfa sg st (s.drop p) = (p0 + n - p, f) ∧ p ≤ p0 + n ∧ μ = s.length - p ∧
      t = (.str s::.int .i64 p::.bool sg::uu::uu::uu::uu::uu::.int .i64 st::uu::uu::uu::uu::uu::uu::uu::uu::uu::uu::uu::uu::uu::uu::uu::uu::uu::uu::uu::uu::uu::uu::uu::uu::uu::uu::uu::uu::uu::uu::uu::uu::uu::uu::uu::uu::uu::uu::uu::uu::uu::uu::uu::uu::uu::uu::uu::uu::[]) ∧ h = []) ?_ ⟨_, _, WeakL.of_eq rfl, p0, 0, by omega, by omega, by omega, by rw [hd]; congr 1; omega, by omega, rfl, rfl, rfl⟩ ?_
    · rintro _ _ _ ⟨p, st, -, -, -, -, -, -, rfl, rfl⟩
      exact ⟨rfl, (by simp [IdsL, Ids, IdsH, IdsC, lv_ids, ci_ids]), (by simp [IdsL, Ids, IdsH, IdsC, lv_ids, ci_ids])⟩
    rintro _ _ _ ⟨p, st, hp, hp0, hst, hdf, hpn, rfl, rfl, rfl⟩
    by_cases g : p < s.length
    · obtain ⟨b, hb⟩ : ∃ b, s[p]? = some b := ⟨_, List.getElem?_eq_getElem g⟩
      have hdr := drop_cons' hb
      rw [hdr] at hdf
      have ck := c_kind b.toNat
      unfold dfa at hdf
      have hkr := kindN_range b.toNat
      generalize kindN b.toNat = k at *
      have eb : (s[(p : Int).toNat]?) = some b := hb
      by_cases hs : stopT sg st k = true
      · rw [if_pos hs] at hdf
        simp only [Prod.mk.injEq] at hdf
        obtain ⟨h1, rfl⟩ := hdf
        obtain rfl : p = p0 + n := by omega
        have e : ((p0 + n : Nat) : Int) = p0 + n := by omega
        rw [← e]
        rcases hkr with hk | hk
        · conv => whnf
          repeat' (first | exact ⟨_, keepT_weak (maskOf 57 [1, 8]) _, rfl, rfl, rfl⟩ | (refine ldI _ eb ?_; conv => whnf) | (refine lf seat_g ck ?_; conv => whnf) | ((first | refine zs (by omega) ?_ | refine zq6 ?_ | refine zs (by dsimp only; omega) ?_ | refine zs (show pendP _ _ by repeat' constructor) ?_ | (with_reducible first | refine brT ‹_› ?_ | refine brF ‹_› ?_ | refine zt (by omega) ?_ | refine zf (by omega) ?_ | refine brNot ?_)); conv => whnf))
        · have hn := next_ld hst hk
          have hk0 : ¬ k < 0 := by omega
          by_cases hz : nextT st k = 0
          · rw [hz] at hn
            by_cases h3 : k = 3
            · by_cases h0 : (st : Int) = 0
              · cases sg
                · conv => whnf
                  repeat' (first | exact ⟨_, keepT_weak (maskOf 57 [1, 8]) _, rfl, rfl, rfl⟩ | (refine ldI _ eb ?_; conv => whnf) | (refine lf seat_g ck ?_; conv => whnf) | (refine ldI _ hn ?_; conv => whnf) | ((first | refine zs (by omega) ?_ | refine zq6 ?_ | refine zs (by dsimp only; omega) ?_ | refine zs (show pendP _ _ by repeat' constructor) ?_ | (with_reducible first | refine brT ‹_› ?_ | refine brF ‹_› ?_ | refine zt (by omega) ?_ | refine zf (by omega) ?_ | refine brNot ?_)); conv => whnf))
                · conv => whnf
                  repeat' (first | exact ⟨_, keepT_weak (maskOf 57 [1, 8]) _, rfl, rfl, rfl⟩ | (refine ldI _ eb ?_; conv => whnf) | (refine lf seat_g ck ?_; conv => whnf) | (refine ldI _ hn ?_; conv => whnf) | ((first | refine zs (by omega) ?_ | refine zq6 ?_ | refine zs (by dsimp only; omega) ?_ | refine zs (show pendP _ _ by repeat' constructor) ?_ | (with_reducible first | refine brT ‹_› ?_ | refine brF ‹_› ?_ | refine zt (by omega) ?_ | refine zf (by omega) ?_ | refine brNot ?_)); conv => whnf))
              · conv => whnf
                repeat' (first | exact ⟨_, keepT_weak (maskOf 57 [1, 8]) _, rfl, rfl, rfl⟩ | (refine ldI _ eb ?_; conv => whnf) | (refine lf seat_g ck ?_; conv => whnf) | (refine ldI _ hn ?_; conv => whnf) | ((first | refine zs (by omega) ?_ | refine zq6 ?_ | refine zs (by dsimp only; omega) ?_ | refine zs (show pendP _ _ by repeat' constructor) ?_ | (with_reducible first | refine brT ‹_› ?_ | refine brF ‹_› ?_ | refine zt (by omega) ?_ | refine zf (by omega) ?_ | refine brNot ?_)); conv => whnf))
            · conv => whnf
              repeat' (first | exact ⟨_, keepT_weak (maskOf 57 [1, 8]) _, rfl, rfl, rfl⟩ | (refine ldI _ eb ?_; conv => whnf) | (refine lf seat_g ck ?_; conv => whnf) | (refine ldI _ hn ?_; conv => whnf) | ((first | refine zs (by omega) ?_ | refine zq6 ?_ | refine zs (by dsimp only; omega) ?_ | refine zs (show pendP _ _ by repeat' constructor) ?_ | (with_reducible first | refine brT ‹_› ?_ | refine brF ‹_› ?_ | refine zt (by omega) ?_ | refine zf (by omega) ?_ | refine brNot ?_)); conv => whnf))
          · have h30 : k = 3 ∧ st = 0 ∧ sg = false := by
              simp [stopT, hz] at hs
              rcases hs with h | ⟨⟨h1, h2⟩, h3⟩
              · omega
              · exact ⟨h1, h2, h3⟩
            obtain ⟨h3, h0, rfl⟩ := h30
            have h0 : (st : Int) = 0 := by omega
            conv => whnf
            repeat' (first | exact ⟨_, keepT_weak (maskOf 57 [1, 8]) _, rfl, rfl, rfl⟩ | (refine ldI _ eb ?_; conv => whnf) | (refine lf seat_g ck ?_; conv => whnf) | ((first | refine zs (by omega) ?_ | refine zq6 ?_ | refine zs (by dsimp only; omega) ?_ | refine zs (show pendP _ _ by repeat' constructor) ?_ | (with_reducible first | refine brT ‹_› ?_ | refine brF ‹_› ?_ | refine zt (by omega) ?_ | refine zf (by omega) ?_ | refine brNot ?_)); conv => whnf))
      · rw [if_neg hs] at hdf
        have hk : 0 ≤ k ∧ k < 4 := by
          rcases hkr with h | h
          · exact absurd (by simp [stopT, h]) hs
          · exact h
        have hn := next_ld hst hk
        have hk0 : ¬ k < 0 := by omega
        have hlt := nextT_lt hst hk
        have hz : ((nextT st k : Nat) : Int) ≠ 0 := by
          intro h; apply hs; have h9 : nextT st k = 0 := by omega
          simp [stopT, h9]
        have hns : ¬ (k = 3 ∧ st = 0 ∧ sg = false) := by
          rintro ⟨h1, h2, h3⟩; apply hs; simp [stopT, h1, h2, h3]
        generalize nextT st k = st2 at *
        obtain ⟨hd1, hd2⟩ := Prod.mk.inj hdf
        have hinv : dfa sg st2 (s.drop (p + 1)) = (p0 + n - (p + 1), f) := by rw [← hd2]; exact Prod.ext (by simp only; omega) rfl
        by_cases h3 : k = 3
        · by_cases h0 : (st : Int) = 0
          · cases sg
            · exact absurd ⟨h3, by omega, rfl⟩ hns
            · conv => whnf
              repeat' (first | exact ⟨_, _, Nat.sub_lt_sub_left g (Nat.lt_succ_self p), WeakL.of_eq rfl, p + 1, st2, by omega, by omega, hlt, hinv, by omega, rfl, rfl, rfl⟩ | (refine ldI _ eb ?_; conv => whnf) | (refine lf seat_g ck ?_; conv => whnf) | (refine ldI _ hn ?_; conv => whnf) | ((first | refine zs (by omega) ?_ | refine zq6 ?_ | refine zs (by dsimp only; omega) ?_ | refine zs (show pendP _ _ by repeat' constructor) ?_ | (with_reducible first | refine brT ‹_› ?_ | refine brF ‹_› ?_ | refine zt (by omega) ?_ | refine zf (by omega) ?_ | refine brNot ?_)); conv => whnf))
          · conv => whnf
            repeat' (first | exact ⟨_, _, Nat.sub_lt_sub_left g (Nat.lt_succ_self p), WeakL.of_eq rfl, p + 1, st2, by omega, by omega, hlt, hinv, by omega, rfl, rfl, rfl⟩ | (refine ldI _ eb ?_; conv => whnf) | (refine lf seat_g ck ?_; conv => whnf) | (refine ldI _ hn ?_; conv => whnf) | ((first | refine zs (by omega) ?_ | refine zq6 ?_ | refine zs (by dsimp only; omega) ?_ | refine zs (show pendP _ _ by repeat' constructor) ?_ | (with_reducible first | refine brT ‹_› ?_ | refine brF ‹_› ?_ | refine zt (by omega) ?_ | refine zf (by omega) ?_ | refine brNot ?_)); conv => whnf))
        · conv => whnf
          repeat' (first | exact ⟨_, _, Nat.sub_lt_sub_left g (Nat.lt_succ_self p), WeakL.of_eq rfl, p + 1, st2, by omega, by omega, hlt, hinv, by omega, rfl, rfl, rfl⟩ | (refine ldI _ eb ?_; conv => whnf) | (refine lf seat_g ck ?_; conv => whnf) | (refine ldI _ hn ?_; conv => whnf) | ((first | refine zs (by omega) ?_ | refine zq6 ?_ | refine zs (by dsimp only; omega) ?_ | refine zs (show pendP _ _ by repeat' constructor) ?_ | (with_reducible first | refine brT ‹_› ?_ | refine brF ‹_› ?_ | refine zt (by omega) ?_ | refine zf (by omega) ?_ | refine brNot ?_)); conv => whnf))
    · rw [List.drop_eq_nil_of_le (by omega)] at hdf
      simp only [dfa, Prod.mk.injEq] at hdf
      obtain ⟨h1, rfl⟩ := hdf
      obtain rfl : p = p0 + n := by omega
      have e : ((p0 + n : Nat) : Int) = p0 + n := by omega
      rw [← e]
      conv => whnf
      repeat' ((first | refine zs (by omega) ?_ | refine zq6 ?_ | refine zs (by dsimp only; omega) ?_ | refine zs (show pendP _ _ by repeat' constructor) ?_ | (with_reducible first | refine brT ‹_› ?_ | refine brF ‹_› ?_ | refine zt (by omega) ?_ | refine zf (by omega) ?_ | refine brNot ?_)); conv => whnf)
      exact ⟨_, keepT_weak (maskOf 57 [1, 8]) _, rfl, rfl, rfl⟩
  · rintro _ _ _ ⟨rfl, rfl, rfl⟩
    have he := ends_ld hf
    have hb : ((if endsT f then (1 : Int) else 0) == 1) = endsT f := by cases endsT f <;> rfl
    conv => whnf
    refine DrawH.plan seat_ok (.take 0 (.take 1 (.take 2 (.take 3 (.take 4 (.take 5 (.take 6 Plan.done))))))) 0 (by kernel_rfl) ?_
    conv => whnf
    repeat' (first | exact congrArg (fun b => AEnd.ret (.tup [.int .i64 (p0 + n), .bool b])) hb | (refine ldI _ he ?_; conv => whnf) | ((first | refine zs (by omega) ?_ | refine zq6 ?_ | refine zs (by dsimp only; omega) ?_ | refine zs (show pendP _ _ by repeat' constructor) ?_ | (with_reducible first | refine brT ‹_› ?_ | refine brF ‹_› ?_ | refine zt (by omega) ?_ | refine zf (by omega) ?_ | refine brNot ?_)); conv => whnf) | (refine And.intro ?_ ?_ <;> (conv => whnf)))
end Go.Proofs.YteicdddheaajlaaDoor
namespace Go.Proofs.YteicdddheaajlaaDoor
open Go.Abs
def kd : List UInt8 → Int
  | [] => -1
  | b :: _ => kindN b.toNat
def runN : List UInt8 → Nat
  | [] => 0
  | b :: l => if kindN b.toNat = 0 then runN l + 1 else 0
theorem runN_le : ∀ l, runN l ≤ l.length
  | [] => Nat.le_refl _
  | b :: l => by
    have := runN_le l
    unfold runN; split
    · simp; omega
    · exact Nat.zero_le _
theorem kd_none {s : List UInt8} {p : Nat} (h : s.length ≤ p) : kd (s.drop p) = -1 := by rw [List.drop_eq_nil_of_le h]; rfl
theorem kd_some {s : List UInt8} {p : Nat} {b : UInt8} (h : s[p]? = some b) : kd (s.drop p) = kindN b.toNat := by rw [drop_cons' h]; rfl
theorem c_rdigit (s : List UInt8) (p : Nat) : ACalls seat 86 [.str s, .int .i64 p] [] (fun x _ => x = .ret (.bool (decide (kd (s.drop p) = 0)))) := by
  refine ACalls.body seat_ok Tryd.func86 rfl rfl ?_
  by_cases g : p < s.length
  · obtain ⟨b, hb⟩ : ∃ b, s[p]? = some b := ⟨_, List.getElem?_eq_getElem g⟩
    have eb : (s[(p : Int).toNat]?) = some b := hb
    rw [kd_some hb]
    have hc := kindN_cases b.toNat
    by_cases h1 : 48 ≤ (b.toNat : Int)
    · by_cases h2 : (b.toNat : Int) ≤ 57
      · rw [decide_eq_true (by omega)]
        clear hc
        conv => whnf
        repeat' (first | exact rfl | (refine ldI _ eb ?_; conv => whnf) | ((first | refine zs (by omega) ?_ | refine zq6 ?_ | refine zs (by dsimp only; omega) ?_ | refine zs (show pendP _ _ by repeat' constructor) ?_ | (with_reducible first | refine brT ‹_› ?_ | refine brF ‹_› ?_ | refine zt (by omega) ?_ | refine zf (by omega) ?_ | refine brNot ?_)); conv => whnf))
        exact congrArg (fun b => AEnd.ret (.bool b)) (decide_eq_true h2)
      · rw [decide_eq_false (by omega)]
        clear hc
        conv => whnf
        repeat' (first | exact rfl | (refine ldI _ eb ?_; conv => whnf) | ((first | refine zs (by omega) ?_ | refine zq6 ?_ | refine zs (by dsimp only; omega) ?_ | refine zs (show pendP _ _ by repeat' constructor) ?_ | (with_reducible first | refine brT ‹_› ?_ | refine brF ‹_› ?_ | refine zt (by omega) ?_ | refine zf (by omega) ?_ | refine brNot ?_)); conv => whnf))
        exact congrArg (fun b => AEnd.ret (.bool b)) (decide_eq_false h2)
    · rw [decide_eq_false (by omega)]
      clear hc
      conv => whnf
      repeat' (first | exact rfl | (refine ldI _ eb ?_; conv => whnf) | ((first | refine zs (by omega) ?_ | refine zq6 ?_ | refine zs (by dsimp only; omega) ?_ | refine zs (show pendP _ _ by repeat' constructor) ?_ | (with_reducible first | refine brT ‹_› ?_ | refine brF ‹_› ?_ | refine zt (by omega) ?_ | refine zf (by omega) ?_ | refine brNot ?_)); conv => whnf))
  · rw [kd_none (by omega)]
    conv => whnf
    repeat' ((first | refine zs (by omega) ?_ | refine zq6 ?_ | refine zs (by dsimp only; omega) ?_ | refine zs (show pendP _ _ by repeat' constructor) ?_ | (with_reducible first | refine brT ‹_› ?_ | refine brF ‹_› ?_ | refine zt (by omega) ?_ | refine zf (by omega) ?_ | refine brNot ?_)); conv => whnf)
    rfl
theorem c_rsign (s : List UInt8) (p : Nat) : ACalls seat 77 [.str s, .int .i64 p] [] (fun x _ => x = .ret (.bool (decide (kd (s.drop p) = 3)))) := by
  refine ACalls.body seat_ok Tryd.func77 rfl rfl ?_
  by_cases g : p < s.length
  · obtain ⟨b, hb⟩ : ∃ b, s[p]? = some b := ⟨_, List.getElem?_eq_getElem g⟩
    have eb : (s[(p : Int).toNat]?) = some b := hb
    rw [kd_some hb]
    have hc := kindN_cases b.toNat
    by_cases h1 : (b.toNat : Int) = 43
    · rw [decide_eq_true (by omega)]
      clear hc
      conv => whnf
      repeat' (first | exact rfl | (refine ldI _ eb ?_; conv => whnf) | ((first | refine zs (by omega) ?_ | refine zq6 ?_ | refine zs (by dsimp only; omega) ?_ | refine zs (show pendP _ _ by repeat' constructor) ?_ | (with_reducible first | refine brT ‹_› ?_ | refine brF ‹_› ?_ | refine zt (by omega) ?_ | refine zf (by omega) ?_ | refine brNot ?_)); conv => whnf))
    · by_cases h2 : (b.toNat : Int) = 45
      · rw [decide_eq_true (by omega)]
        clear hc
        conv => whnf
        repeat' (first | exact rfl | (refine ldI _ eb ?_; conv => whnf) | ((first | refine zs (by omega) ?_ | refine zq6 ?_ | refine zs (by dsimp only; omega) ?_ | refine zs (show pendP _ _ by repeat' constructor) ?_ | (with_reducible first | refine brT ‹_› ?_ | refine brF ‹_› ?_ | refine zt (by omega) ?_ | refine zf (by omega) ?_ | refine brNot ?_)); conv => whnf))
        exact congrArg (fun b => AEnd.ret (.bool b)) (show ((b.toNat : Int) == 45) = true by simpa using h2)
      · rw [decide_eq_false (by omega)]
        clear hc
        conv => whnf
        repeat' (first | exact rfl | (refine ldI _ eb ?_; conv => whnf) | ((first | refine zs (by omega) ?_ | refine zq6 ?_ | refine zs (by dsimp only; omega) ?_ | refine zs (show pendP _ _ by repeat' constructor) ?_ | (with_reducible first | refine brT ‹_› ?_ | refine brF ‹_› ?_ | refine zt (by omega) ?_ | refine zf (by omega) ?_ | refine brNot ?_)); conv => whnf))
        exact congrArg (fun b => AEnd.ret (.bool b)) (show ((b.toNat : Int) == 45) = false by simpa using h2)
  · rw [kd_none (by omega)]
    conv => whnf
    repeat' ((first | refine zs (by omega) ?_ | refine zq6 ?_ | refine zs (by dsimp only; omega) ?_ | refine zs (show pendP _ _ by repeat' constructor) ?_ | (with_reducible first | refine brT ‹_› ?_ | refine brF ‹_› ?_ | refine zt (by omega) ?_ | refine zf (by omega) ?_ | refine brNot ?_)); conv => whnf)
    rfl
set_option maxRecDepth 20000 in
theorem c_run (s : List UInt8) (p : Nat) (hl : s.length ≤ 1000000) (hp : p ≤ 1000000) : ACalls seat 78 [.str s, .int .i64 p] [] (fun x _ => x = .ret (.int .i64 ((p + runN (s.drop p) : Nat)))) := by
  refine ACalls.body seat_ok Tryd.func78 rfl rfl ?_
  conv => whnf
  refine Sat.cut (fun x t h => x = .exit 0 ∧ t = (uu::.int .i64 ((p + runN (s.drop p) : Nat) : Int)::uu::uu::uu::uu::uu::uu::uu::uu::uu::[])) ?_ ?_
  · refine Sat.invP seat_ok seat_g (maskOf 11 [0, 1]) 0 (fun μ t h => ∃ (q : Nat), p ≤ q ∧ q + runN (s.drop q) = p + runN (s.drop p) ∧ (q ≤ s.length ∨ q = p) ∧ μ = s.length + p - q ∧ t = (.str s::.int .i64 q::uu::uu::uu::uu::uu::uu::uu::uu::uu::[]) ∧ h = []) ?_ ⟨_, _, WeakL.of_eq rfl, p, by omega, rfl, .inr rfl, rfl, rfl, rfl⟩ ?_
    · rintro _ _ _ ⟨q, -, -, -, -, rfl, rfl⟩
      exact ⟨rfl, (by simp [IdsL, Ids, IdsH, IdsC, lv_ids, ci_ids]), (by simp [IdsL, Ids, IdsH, IdsC, lv_ids, ci_ids])⟩
    rintro _ _ _ ⟨q, hq, hr, hql, rfl, rfl, rfl⟩
    have cd := c_rdigit s q
    by_cases g : kd (s.drop q) = 0
    · have g2 : q < s.length := by
        apply Nat.lt_of_not_le; intro h; rw [kd_none h] at g; omega
      obtain ⟨b, hb⟩ : ∃ b, s[q]? = some b := ⟨_, List.getElem?_eq_getElem g2⟩
      rw [decide_eq_true g] at cd
      rw [kd_some hb] at g
      have hr2 : q + 1 + runN (s.drop (q + 1)) = p + runN (s.drop p) := by
        rw [← hr, drop_cons' hb]; unfold runN; rw [if_pos g]
        cases s.drop (q + 1) <;> simp [runN] <;> omega
      conv => whnf
      repeat' (first | exact ⟨_, _, by omega, WeakL.of_eq rfl, q + 1, by omega, hr2, .inl (by omega), rfl, rfl, rfl⟩ | (refine lf seat_g cd ?_; conv => whnf) | ((first | refine zs (by omega) ?_ | refine zq6 ?_ | refine zs (by dsimp only; omega) ?_ | refine zs (show pendP _ _ by repeat' constructor) ?_ | (with_reducible first | refine brT ‹_› ?_ | refine brF ‹_› ?_ | refine zt (by omega) ?_ | refine zf (by omega) ?_ | refine brNot ?_)); conv => whnf))
    · rw [decide_eq_false g] at cd
      have hz : runN (s.drop q) = 0 := by
        by_cases g2 : q < s.length
        · obtain ⟨b, hb⟩ : ∃ b, s[q]? = some b := ⟨_, List.getElem?_eq_getElem g2⟩
          rw [kd_some hb] at g
          rw [drop_cons' hb]; unfold runN; rw [if_neg g]
        · rw [List.drop_eq_nil_of_le (by omega)]; rfl
      rw [hz, Nat.add_zero] at hr
      rw [← hr]
      conv => whnf
      repeat' (first | exact ⟨_, keepT_weak (maskOf 11 [1]) _, rfl, rfl⟩ | (refine lf seat_g cd ?_; conv => whnf) | ((first | refine zs (by omega) ?_ | refine zq6 ?_ | refine zs (by dsimp only; omega) ?_ | refine zs (show pendP _ _ by repeat' constructor) ?_ | (with_reducible first | refine brT ‹_› ?_ | refine brF ‹_› ?_ | refine zt (by omega) ?_ | refine zf (by omega) ?_ | refine brNot ?_)); conv => whnf))
  · rintro _ _ _ ⟨rfl, rfl⟩
    conv => whnf
    rfl
def eR (sm : Bool) (l : List UInt8) (i : Nat) : Nat × Bool :=
  if sm = false then (i, false)
  else if kd (l.drop i) = 2 then
    let j := if kd (l.drop (i + 1)) = 3 then i + 1 + 1 else i + 1
    (j + runN (l.drop j), decide (0 < runN (l.drop j)))
  else (i, true)
def ptR (l : List UInt8) (i : Nat) : Nat × Bool :=
  let a := i + runN (l.drop i)
  if kd (l.drop a) = 1 then eR (decide (0 < runN (l.drop i)) || decide (0 < runN (l.drop (a + 1)))) l (a + 1 + runN (l.drop (a + 1)))
  else eR (decide (0 < runN (l.drop i))) l a
def scR (sg : Bool) (l : List UInt8) (p : Nat) : Nat × Bool := ptR l (if sg = true ∧ kd (l.drop p) = 3 then p + 1 else p)
theorem kd_ne {s : List UInt8} {p : Nat} (h : kd (s.drop p) ≠ -1) : p < s.length := by
  apply Nat.lt_of_not_le; intro h2; exact h (kd_none h2)
theorem runIn (s : List UInt8) (p : Nat) (h : p ≤ s.length) : p + runN (s.drop p) ≤ s.length := by
  have := runN_le (s.drop p); rw [List.length_drop] at this; omega
theorem eB_cases {s : List UInt8} {p : Nat} : (kd (s.drop p) = 2 ∧ ∃ b, p < s.length ∧ s[p]? = some b ∧ ((b.toNat : Int) = 101 ∨ ((b.toNat : Int) ≠ 101 ∧ (b.toNat : Int) = 69))) ∨ (kd (s.drop p) ≠ 2 ∧ (s.length ≤ p ∨ ∃ b, p < s.length ∧ s[p]? = some b ∧ (b.toNat : Int) ≠ 101 ∧ (b.toNat : Int) ≠ 69)) := by
  by_cases g : p < s.length
  · obtain ⟨b, hb⟩ : ∃ b, s[p]? = some b := ⟨_, List.getElem?_eq_getElem g⟩
    rw [kd_some hb]
    have hc := kindN_cases b.toNat
    by_cases h : kindN b.toNat = 2
    · exact .inl ⟨h, b, g, hb, by omega⟩
    · exact .inr ⟨h, .inr ⟨b, g, hb, by omega⟩⟩
  · rw [kd_none (by omega)]
    exact .inr ⟨by omega, .inl (by omega)⟩
theorem dotB_cases {s : List UInt8} {p : Nat} : (kd (s.drop p) = 1 ∧ ∃ b, p < s.length ∧ s[p]? = some b ∧ (b.toNat : Int) = 46) ∨ (kd (s.drop p) ≠ 1 ∧ (s.length ≤ p ∨ ∃ b, p < s.length ∧ s[p]? = some b ∧ (b.toNat : Int) ≠ 46)) := by
  by_cases g : p < s.length
  · obtain ⟨b, hb⟩ : ∃ b, s[p]? = some b := ⟨_, List.getElem?_eq_getElem g⟩
    rw [kd_some hb]
    have hc := kindN_cases b.toNat
    by_cases h : kindN b.toNat = 1
    · exact .inl ⟨h, b, g, hb, by omega⟩
    · exact .inr ⟨h, .inr ⟨b, g, hb, by omega⟩⟩
  · rw [kd_none (by omega)]
    exact .inr ⟨by omega, .inl (by omega)⟩
end Go.Proofs.YteicdddheaajlaaDoor
namespace Go.Proofs.YteicdddheaajlaaDoor
open Go.Abs
def ans (sg : Bool) (st : Nat) (l : List UInt8) : Nat × Bool := ((dfa sg st l).1, endsT (dfa sg st l).2)
theorem ans_stop {sg : Bool} {st : Nat} {b : UInt8} {l : List UInt8} {k : Int} (hk : kindN b.toNat = k) (h : stopT sg st k = true) : ans sg st (b :: l) = (0, endsT st) := by
  unfold ans dfa; rw [hk, if_pos h]
theorem ans_step {sg : Bool} {st : Nat} {b : UInt8} {l : List UInt8} {k : Int} (hk : kindN b.toNat = k) (h : stopT sg st k = false) : ans sg st (b :: l) = ((ans sg (nextT st k) l).1 + 1, (ans sg (nextT st k) l).2) := by
  unfold ans; rw [dfa, hk, if_neg (by rw [h]; decide)]
theorem runN_0 {b : UInt8} {l : List UInt8} (h : kindN b.toNat = 0) : runN (b :: l) = runN l + 1 := if_pos h
theorem runN_n {b : UInt8} {l : List UInt8} {k : Int} (hk : kindN b.toNat = k) (h : k ≠ 0) : runN (b :: l) = 0 := if_neg (by rw [hk]; exact h)
theorem L8 (sg : Bool) : ∀ l, ans sg 8 l = (runN l, true)
  | [] => rfl
  | b :: l => by
    rcases kindN_cases b.toNat with ⟨h, -⟩ | ⟨h, -⟩ | ⟨h, -⟩ | ⟨h, -⟩ | ⟨h, -⟩
    · rw [ans_step h (by rfl), show nextT 8 0 = 8 from rfl, L8 sg l, runN_0 h]
    all_goals rw [ans_stop h (by rfl), runN_n h (by decide)]; rfl
theorem L7 (sg : Bool) : ∀ l, ans sg 7 l = (runN l, decide (0 < runN l))
  | [] => rfl
  | b :: l => by
    rcases kindN_cases b.toNat with ⟨h, -⟩ | ⟨h, -⟩ | ⟨h, -⟩ | ⟨h, -⟩ | ⟨h, -⟩
    · rw [ans_step h (by rfl), show nextT 7 0 = 8 from rfl, L8 sg l, runN_0 h, decide_eq_true (Nat.succ_pos _)]
    all_goals rw [ans_stop h (by rfl), runN_n h (by decide)]; rfl
def expS (l : List UInt8) : Nat × Bool := if kd l = 3 then (1 + runN (l.drop 1), decide (0 < runN (l.drop 1))) else (runN l, decide (0 < runN l))
theorem L6 (sg : Bool) : ∀ l, ans sg 6 l = expS l
  | [] => rfl
  | b :: l => by
    unfold expS
    rcases kindN_cases b.toNat with ⟨h, -⟩ | ⟨h, -⟩ | ⟨h, -⟩ | ⟨h, -⟩ | ⟨h, -⟩
    · rw [if_neg (by rw [kd, h]; decide), ans_step h (by rfl), show nextT 6 0 = 8 from rfl, L8 sg l, runN_0 h, decide_eq_true (Nat.succ_pos _)]
    · rw [if_neg (by rw [kd, h]; decide), ans_stop h (by rfl), runN_n h (by decide)]; rfl
    · rw [if_neg (by rw [kd, h]; decide), ans_stop h (by rfl), runN_n h (by decide)]; rfl
    · rw [if_pos (by rw [kd, h]), ans_step h (by rfl), show nextT 6 3 = 7 from rfl, L7 sg l, List.drop_one, List.tail_cons, Nat.add_comm]
    · rw [if_neg (by rw [kd, h]; decide), ans_stop h (by rfl), runN_n h (by decide)]; rfl
def eS (sm : Bool) (l : List UInt8) : Nat × Bool := if sm = false then (0, false) else if kd l = 2 then (1 + (expS (l.drop 1)).1, (expS (l.drop 1)).2) else (0, true)
def addA (n : Nat) (a : Nat × Bool) : Nat × Bool := (n + a.1, a.2)
theorem addA_add (m n : Nat) (a : Nat × Bool) : addA m (addA n a) = addA (m + n) a := by simp [addA, Nat.add_assoc]
theorem addA_zero (a : Nat × Bool) : addA 0 a = a := by simp [addA]
theorem ans_step' {sg : Bool} {st st' : Nat} {b : UInt8} {l : List UInt8} {k : Int} (hk : kindN b.toNat = k) (h : stopT sg st k = false) (hn : nextT st k = st') : ans sg st (b :: l) = addA 1 (ans sg st' l) := by
  rw [ans_step hk h, hn, addA, Nat.add_comm]
theorem L5 (sg : Bool) : ∀ l, ans sg 5 l = addA (runN l) (eS true (l.drop (runN l)))
  | [] => rfl
  | b :: l => by
    rcases kindN_cases b.toNat with ⟨h, -⟩ | ⟨h, -⟩ | ⟨h, -⟩ | ⟨h, -⟩ | ⟨h, -⟩
    · rw [ans_step' (st' := 5) h (by rfl) rfl, L5 sg l, runN_0 h, addA_add, Nat.add_comm 1, List.drop_succ_cons]
    · rw [ans_stop h (by rfl), runN_n h (by decide), addA_zero, List.drop_zero]; unfold eS; rw [if_neg (by decide), if_neg (by rw [kd, h]; decide)]; rfl
    · rw [ans_step' (st' := 6) h (by rfl) rfl, runN_n h (by decide), addA_zero, List.drop_zero, L6]; unfold eS; rw [if_neg (by decide), if_pos (by rw [kd, h])]; rfl
    all_goals rw [ans_stop h (by rfl), runN_n h (by decide), addA_zero, List.drop_zero]; unfold eS; rw [if_neg (by decide), if_neg (by rw [kd, h]; decide)]; rfl
theorem L4 (sg : Bool) : ∀ l, ans sg 4 l = addA (runN l) (eS true (l.drop (runN l)))
  | [] => rfl
  | b :: l => by
    rcases kindN_cases b.toNat with ⟨h, -⟩ | ⟨h, -⟩ | ⟨h, -⟩ | ⟨h, -⟩ | ⟨h, -⟩
    · rw [ans_step' (st' := 5) h (by rfl) rfl, L5 sg l, runN_0 h, addA_add, Nat.add_comm 1, List.drop_succ_cons]
    · rw [ans_stop h (by rfl), runN_n h (by decide), addA_zero, List.drop_zero]; unfold eS; rw [if_neg (by decide), if_neg (by rw [kd, h]; decide)]; rfl
    · rw [ans_step' (st' := 6) h (by rfl) rfl, runN_n h (by decide), addA_zero, List.drop_zero, L6]; unfold eS; rw [if_neg (by decide), if_pos (by rw [kd, h])]; rfl
    all_goals rw [ans_stop h (by rfl), runN_n h (by decide), addA_zero, List.drop_zero]; unfold eS; rw [if_neg (by decide), if_neg (by rw [kd, h]; decide)]; rfl
theorem L3 (sg : Bool) : ∀ l, ans sg 3 l = addA (runN l) (eS (decide (0 < runN l)) (l.drop (runN l)))
  | [] => rfl
  | b :: l => by
    rcases kindN_cases b.toNat with ⟨h, -⟩ | ⟨h, -⟩ | ⟨h, -⟩ | ⟨h, -⟩ | ⟨h, -⟩
    · rw [ans_step' (st' := 5) h (by rfl) rfl, L5 sg l, runN_0 h, addA_add, Nat.add_comm 1, List.drop_succ_cons, decide_eq_true (Nat.succ_pos _)]
    all_goals rw [ans_stop h (by rfl), runN_n h (by decide), addA_zero, List.drop_zero]; rfl
def ptS (sm : Bool) (l : List UInt8) : Nat × Bool := if kd l = 1 then addA 1 (addA (runN (l.drop 1)) (eS (sm || decide (0 < runN (l.drop 1))) ((l.drop 1).drop (runN (l.drop 1))))) else eS sm l
theorem L2 (sg : Bool) : ∀ l, ans sg 2 l = addA (runN l) (ptS true (l.drop (runN l)))
  | [] => rfl
  | b :: l => by
    rcases kindN_cases b.toNat with ⟨h, -⟩ | ⟨h, -⟩ | ⟨h, -⟩ | ⟨h, -⟩ | ⟨h, -⟩
    · rw [ans_step' (st' := 2) h (by rfl) rfl, L2 sg l, runN_0 h, addA_add, Nat.add_comm 1, List.drop_succ_cons]
    · rw [ans_step' (st' := 4) h (by rfl) rfl, runN_n h (by decide), addA_zero, List.drop_zero, L4]; unfold ptS; rw [if_pos (by rw [kd, h]), Bool.true_or, List.drop_one, List.tail_cons]
    · rw [ans_step' (st' := 6) h (by rfl) rfl, runN_n h (by decide), addA_zero, List.drop_zero, L6]; unfold ptS eS; rw [if_neg (by rw [kd, h]; decide), if_neg (by decide), if_pos (by rw [kd, h])]; rfl
    all_goals rw [ans_stop h (by rfl), runN_n h (by decide), addA_zero, List.drop_zero]; unfold ptS eS; rw [if_neg (by rw [kd, h]; decide), if_neg (by decide), if_neg (by rw [kd, h]; decide)]; rfl
theorem L1 (sg : Bool) : ∀ l, ans sg 1 l = addA (runN l) (ptS (decide (0 < runN l)) (l.drop (runN l)))
  | [] => rfl
  | b :: l => by
    rcases kindN_cases b.toNat with ⟨h, -⟩ | ⟨h, -⟩ | ⟨h, -⟩ | ⟨h, -⟩ | ⟨h, -⟩
    · rw [ans_step' (st' := 2) h (by rfl) rfl, L2 sg l, runN_0 h, addA_add, Nat.add_comm 1, List.drop_succ_cons, decide_eq_true (Nat.succ_pos _)]
    · rw [ans_step' (st' := 3) h (by rfl) rfl, runN_n h (by decide), addA_zero, List.drop_zero, L3]; unfold ptS; rw [if_pos (by rw [kd, h]), show decide (0 < 0) = false from rfl, Bool.false_or, List.drop_one, List.tail_cons]
    all_goals rw [ans_stop h (by rfl), runN_n h (by decide), addA_zero, List.drop_zero]; unfold ptS eS; rw [if_neg (by rw [kd, h]; decide), if_pos (by decide)]; rfl
def scS (sg : Bool) (l : List UInt8) : Nat × Bool :=
  if sg = true ∧ kd l = 3 then addA 1 (addA (runN (l.drop 1)) (ptS (decide (0 < runN (l.drop 1))) ((l.drop 1).drop (runN (l.drop 1))))) else addA (runN l) (ptS (decide (0 < runN l)) (l.drop (runN l)))
theorem L0 (sg : Bool) : ∀ l, ans sg 0 l = scS sg l
  | [] => by cases sg <;> rfl
  | b :: l => by
    unfold scS
    rcases kindN_cases b.toNat with ⟨h, -⟩ | ⟨h, -⟩ | ⟨h, -⟩ | ⟨h, -⟩ | ⟨h, -⟩
    · rw [if_neg (by rw [kd, h]; simp), ans_step' (st' := 2) h (by rfl) rfl, L2 sg l, runN_0 h, addA_add, Nat.add_comm 1, List.drop_succ_cons, decide_eq_true (Nat.succ_pos _)]
    · rw [if_neg (by rw [kd, h]; simp), ans_step' (st' := 3) h (by rfl) rfl, runN_n h (by decide), addA_zero, List.drop_zero, L3]; unfold ptS; rw [if_pos (by rw [kd, h]), show decide (0 < 0) = false from rfl, Bool.false_or, List.drop_one, List.tail_cons]
    · rw [if_neg (by rw [kd, h]; simp), ans_stop h (by rfl), runN_n h (by decide), addA_zero, List.drop_zero]; unfold ptS eS; rw [if_neg (by rw [kd, h]; decide), if_pos (by decide)]; rfl
    · cases sg with
      | true => rw [if_pos ⟨rfl, by rw [kd, h]⟩, ans_step' (st' := 1) h (by rfl) rfl, L1, List.drop_one, List.tail_cons]
      | false => rw [if_neg (by simp), ans_stop h (by rfl), runN_n h (by decide), addA_zero, List.drop_zero]; unfold ptS eS; rw [if_neg (by rw [kd, h]; decide), if_pos (by decide)]; rfl
    · rw [if_neg (by rw [kd, h]; simp), ans_stop h (by rfl), runN_n h (by decide), addA_zero, List.drop_zero]; unfold ptS eS; rw [if_neg (by rw [kd, h]; decide), if_pos (by decide)]; rfl
theorem eR_S (sm : Bool) (l : List UInt8) (i : Nat) : eR sm l i = addA i (eS sm (l.drop i)) := by
  unfold eR eS
  cases sm with
  | false => rfl
  | true =>
    have n0 : ¬ (true = false) := by decide
    rw [if_neg n0, if_neg n0]
    by_cases h : kd (l.drop i) = 2
    · rw [if_pos h, if_pos h]
      unfold expS addA
      rw [List.drop_drop]
      by_cases h3 : kd (l.drop (i + 1)) = 3
      · simp only [if_pos h3, List.drop_drop]
        rw [Nat.add_assoc i 1 1]
        congr 1; omega
      · simp only [if_neg h3]
        congr 1; omega
    · rw [if_neg h, if_neg h]; rfl
theorem ptR_S (l : List UInt8) (i : Nat) : ptR l i = addA i (addA (runN (l.drop i)) (ptS (decide (0 < runN (l.drop i))) ((l.drop i).drop (runN (l.drop i))))) := by
  unfold ptR ptS
  simp only [List.drop_drop]
  by_cases h : kd (l.drop (i + runN (l.drop i))) = 1
  · rw [if_pos h, if_pos h, eR_S]
    simp only [addA_add, List.drop_drop]
    congr 1; omega
  · rw [if_neg h, if_neg h, eR_S, addA_add]
theorem scR_S (sg : Bool) (l : List UInt8) (p : Nat) : scR sg l p = addA p (scS sg (l.drop p)) := by
  unfold scR scS
  by_cases h : sg = true ∧ kd (l.drop p) = 3
  · rw [if_pos h, if_pos h, ptR_S]
    simp only [List.drop_drop, addA_add, Nat.add_assoc]
  · rw [if_neg h, if_neg h, ptR_S]
theorem scan_eq (sg : Bool) (l : List UInt8) (p : Nat) : scR sg l p = addA p (ans sg 0 (l.drop p)) := by rw [scR_S, L0]
end Go.Proofs.YteicdddheaajlaaDoor
namespace Go.Proofs.YteicdddheaajlaaDoor
open Go.Abs
theorem scR0 {sg : Bool} {s : List UInt8} {p i : Nat} (h : (sg = true ∧ kd (s.drop p) = 3 ∧ i = p + 1) ∨ (¬ (sg = true ∧ kd (s.drop p) = 3) ∧ i = p)) : scR sg s p = ptR s i := by
  unfold scR; rcases h with ⟨h1, h2, rfl⟩ | ⟨h1, rfl⟩
  · rw [if_pos ⟨h1, h2⟩]
  · rw [if_neg h1]
set_option maxRecDepth 20000 in
set_option maxHeartbeats 1000000 in
theorem c_rscan (s : List UInt8) (p : Nat) (sg : Bool) (hp : p ≤ s.length) (hl : s.length ≤ 900000) : ACalls seat 70 [.str s, .int .i64 p, .bool sg] [] (fun x _ => x = .ret (.tup [.int .i64 ((scR sg s p).1 : Nat), .bool (scR sg s p).2])) := by
  refine ACalls.bodyS seat_ok Tryd.func70 rfl rfl ?_
  obtain ⟨i, hi⟩ : ∃ i, (sg = true ∧ kd (s.drop p) = 3 ∧ i = p + 1) ∨ (¬ (sg = true ∧ kd (s.drop p) = 3) ∧ i = p) := by
    by_cases h : sg = true ∧ kd (s.drop p) = 3
    · exact ⟨_, .inl ⟨h.1, h.2, rfl⟩⟩
    · exact ⟨_, .inr ⟨h, rfl⟩⟩
  have hil : i ≤ s.length := by
    rcases hi with ⟨-, h, rfl⟩ | ⟨-, rfl⟩
    · exact kd_ne (by omega)
    · exact hp
  rw [scR0 hi]
  have cr := c_run s i (by omega) (by omega)
  have hin := runIn s i hil
  refine Sat.splitAt seat_ok (fun t h => t = (.str s::uu::uu::uu::uu::uu::uu::uu::.int .i64 ((i + runN (s.drop i) : Nat) : Int)::uu::.bool (decide (((i + runN (s.drop i) : Nat) : Int) > ((i : Nat) : Int)))::uu::uu::uu::uu::uu::uu::uu::uu::uu::uu::uu::uu::uu::uu::uu::uu::uu::uu::uu::uu::uu::uu::uu::uu::uu::uu::uu::uu::uu::uu::uu::uu::uu::uu::uu::uu::uu::uu::uu::uu::uu::uu::uu::uu::uu::uu::uu::uu::uu::uu::uu::uu::uu::uu::uu::uu::uu::uu::uu::uu::uu::uu::uu::uu::uu::uu::uu::uu::uu::uu::uu::uu::uu::uu::uu::uu::uu::uu::uu::uu::uu::uu::[]) ∧ h = []) 7 ?_ ?_
  · have cs := c_rsign s p
    have g0 : ¬ ((p : Int) < 0) := by omega
    have g1 : ¬ ((p : Int) > s.length) := by omega
    rcases hi with ⟨rfl, h, rfl⟩ | ⟨h, rfl⟩
    · rw [decide_eq_true h] at cs
      conv => whnf
      repeat' (first | exact ⟨_, keepT_weak (maskOf 93 [0, 8, 10]) _, rfl, rfl⟩ | (refine lf seat_g cs ?_; conv => whnf) | (refine lf seat_g cr ?_; conv => whnf) | ((first | refine zs (by omega) ?_ | refine zq6 ?_ | refine zs (by dsimp only; omega) ?_ | refine zs (show pendP _ _ by repeat' constructor) ?_ | (with_reducible first | refine brT ‹_› ?_ | refine brF ‹_› ?_ | refine zt (by omega) ?_ | refine zf (by omega) ?_ | refine brNot ?_)); conv => whnf))
    · cases sg with
      | false =>
        conv => whnf
        repeat' (first | exact ⟨_, keepT_weak (maskOf 93 [0, 8, 10]) _, rfl, rfl⟩ | (refine lf seat_g cr ?_; conv => whnf) | ((first | refine zs (by omega) ?_ | refine zq6 ?_ | refine zs (by dsimp only; omega) ?_ | refine zs (show pendP _ _ by repeat' constructor) ?_ | (with_reducible first | refine brT ‹_› ?_ | refine brF ‹_› ?_ | refine zt (by omega) ?_ | refine zf (by omega) ?_ | refine brNot ?_)); conv => whnf))
      | true =>
        rw [decide_eq_false (fun e => h ⟨rfl, e⟩)] at cs
        conv => whnf
        repeat' (first | exact ⟨_, keepT_weak (maskOf 93 [0, 8, 10]) _, rfl, rfl⟩ | (refine lf seat_g cs ?_; conv => whnf) | (refine lf seat_g cr ?_; conv => whnf) | ((first | refine zs (by omega) ?_ | refine zq6 ?_ | refine zs (by dsimp only; omega) ?_ | refine zs (show pendP _ _ by repeat' constructor) ?_ | (with_reducible first | refine brT ‹_› ?_ | refine brF ‹_› ?_ | refine zt (by omega) ?_ | refine zf (by omega) ?_ | refine brNot ?_)); conv => whnf))
  rintro _ _ ⟨rfl, rfl⟩
  have hd0 : decide (((i + runN (s.drop i) : Nat) : Int) > ((i : Nat) : Int)) = decide (0 < runN (s.drop i)) := decide_eq_decide.2 (by omega)
  rw [hd0]
  clear hi cr hd0 hp
  obtain ⟨e3, hpe⟩ : ∃ e3 : Nat × Bool, e3 = (if kd (s.drop (i + runN (s.drop i))) = 1 then (i + runN (s.drop i) + 1 + runN (s.drop (i + runN (s.drop i) + 1)), decide (0 < runN (s.drop i)) || decide (0 < runN (s.drop (i + runN (s.drop i) + 1)))) else (i + runN (s.drop i), decide (0 < runN (s.drop i)))) := ⟨_, rfl⟩
  have hpt : ptR s i = eR e3.2 s e3.1 := by
    rw [hpe]; unfold ptR; dsimp only
    split <;> rfl
  rw [hpt]
  clear hpt
  generalize hr0 : runN (s.drop i) = r0 at *
  refine Sat.splitAt seat_ok (fun t h => t = (.str s::uu::uu::uu::uu::uu::uu::uu::.int .i64 ((e3.1 : Nat) : Int)::uu::.bool e3.2::uu::uu::uu::uu::uu::uu::uu::uu::uu::uu::uu::uu::uu::uu::uu::uu::uu::uu::uu::uu::uu::uu::uu::uu::uu::uu::uu::uu::uu::uu::uu::uu::uu::uu::uu::uu::uu::uu::uu::uu::uu::uu::uu::uu::uu::uu::uu::uu::uu::uu::uu::uu::uu::uu::uu::uu::uu::uu::uu::uu::uu::uu::uu::uu::uu::uu::uu::uu::uu::uu::uu::uu::uu::uu::uu::uu::uu::uu::uu::uu::uu::uu::[]) ∧ h = []) 1 ?_ ?_
  · rcases dotB_cases (s := s) (p := i + r0) with ⟨d1, bd, d2, d3, d4⟩ | ⟨d1, d2⟩
    · rw [if_pos d1] at hpe
      have ed : (s[((i + r0 : Nat) : Int).toNat]?) = some bd := d3
      have cr1 := c_run s (i + r0 + 1) (by omega) (by omega)
      have hin1 := runIn s (i + r0 + 1) (by omega)
      have hd1 : decide (((i + r0 + 1 + runN (s.drop (i + r0 + 1)) : Nat) : Int) > ((i + r0 : Nat) : Int) + 1) = decide (0 < runN (s.drop (i + r0 + 1))) := decide_eq_decide.2 (by omega)
      generalize runN (s.drop (i + r0 + 1)) = r1 at *
      subst hpe
      by_cases q0 : 0 < r0
      · rw [decide_eq_true q0]
        conv => whnf
        repeat' (first | exact ⟨_, keepT_weak (maskOf 93 [0, 8, 10]) _, rfl, rfl⟩ | (refine ldI _ ed ?_; conv => whnf) | (refine lf seat_g cr1 ?_; conv => whnf) | ((first | refine zs (by omega) ?_ | refine zq6 ?_ | refine zs (by dsimp only; omega) ?_ | refine zs (show pendP _ _ by repeat' constructor) ?_ | (with_reducible first | refine brT ‹_› ?_ | refine brF ‹_› ?_ | refine zt (by omega) ?_ | refine zf (by omega) ?_ | refine brNot ?_)); conv => whnf))
      · rw [decide_eq_false q0, Bool.false_or, ← hd1]
        conv => whnf
        repeat' (first | exact ⟨_, keepT_weak (maskOf 93 [0, 8, 10]) _, rfl, rfl⟩ | (refine ldI _ ed ?_; conv => whnf) | (refine lf seat_g cr1 ?_; conv => whnf) | ((first | refine zs (by omega) ?_ | refine zq6 ?_ | refine zs (by dsimp only; omega) ?_ | refine zs (show pendP _ _ by repeat' constructor) ?_ | (with_reducible first | refine brT ‹_› ?_ | refine brF ‹_› ?_ | refine zt (by omega) ?_ | refine zf (by omega) ?_ | refine brNot ?_)); conv => whnf))
    · rw [if_neg d1] at hpe
      subst hpe
      rcases d2 with d2 | ⟨bd, d2, d3, d4⟩
      · have d2' : ¬ (((i + r0 : Nat) : Int) < s.length) := by omega
        conv => whnf
        repeat' (first | exact ⟨_, keepT_weak (maskOf 93 [0, 8, 10]) _, rfl, rfl⟩ | ((first | refine zs (by omega) ?_ | refine zq6 ?_ | refine zs (by dsimp only; omega) ?_ | refine zs (show pendP _ _ by repeat' constructor) ?_ | (with_reducible first | refine brT ‹_› ?_ | refine brF ‹_› ?_ | refine zt (by omega) ?_ | refine zf (by omega) ?_ | refine brNot ?_)); conv => whnf))
      · have ed : (s[((i + r0 : Nat) : Int).toNat]?) = some bd := d3
        conv => whnf
        repeat' (first | exact ⟨_, keepT_weak (maskOf 93 [0, 8, 10]) _, rfl, rfl⟩ | (refine ldI _ ed ?_; conv => whnf) | ((first | refine zs (by omega) ?_ | refine zq6 ?_ | refine zs (by dsimp only; omega) ?_ | refine zs (show pendP _ _ by repeat' constructor) ?_ | (with_reducible first | refine brT ‹_› ?_ | refine brF ‹_› ?_ | refine zt (by omega) ?_ | refine zf (by omega) ?_ | refine brNot ?_)); conv => whnf))
  rintro _ _ ⟨rfl, rfl⟩
  have he3 : e3.1 ≤ s.length := by
    rw [hpe]
    split
    · rename_i h
      exact runIn s (i + r0 + 1) (kd_ne (by omega))
    · exact hin
  clear hpe hin hil hr0
  obtain ⟨q, sm⟩ := e3
  dsimp only at he3 ⊢
  refine codeR_sound seat_ok _ _ _ _ ?_
  cases sm with
  | false =>
    rw [show eR false s q = (q, false) from rfl]
    conv => whnf
    repeat' ((first | refine zs (by omega) ?_ | refine zq6 ?_ | refine zs (by dsimp only; omega) ?_ | refine zs (show pendP _ _ by repeat' constructor) ?_ | (with_reducible first | refine brT ‹_› ?_ | refine brF ‹_› ?_ | refine zt (by omega) ?_ | refine zf (by omega) ?_ | refine brNot ?_)); conv => whnf)
    rfl
  | true =>
    rcases eB_cases (s := s) (p := q) with ⟨e1, b, e2, e3, e4⟩ | ⟨e1, e2⟩
    · have eb : (s[((q : Nat) : Int).toNat]?) = some b := e3
      have cs2 := c_rsign s (q + 1)
      by_cases g2 : kd (s.drop (q + 1)) = 3
      · rw [decide_eq_true g2] at cs2
        have hj := kd_ne (s := s) (p := q + 1) (by omega)
        have cr2 := c_run s (q + 1 + 1) (by omega) (by omega)
        have hin2 := runIn s (q + 1 + 1) (by omega)
        rw [show eR true s q = ((q + 1 + 1) + runN (s.drop (q + 1 + 1)), decide (0 < runN (s.drop (q + 1 + 1)))) by unfold eR; rw [if_neg (by decide), if_pos e1]; dsimp only; rw [if_pos g2]]
        have hdd : decide (((q + 1 + 1 + runN (s.drop (q + 1 + 1)) : Nat) : Int) > ((q + 1 + 1 : Nat) : Int)) = decide (0 < runN (s.drop (q + 1 + 1))) := decide_eq_decide.2 (by omega)
        generalize runN (s.drop (q + 1 + 1)) = r2 at *
        rcases e4 with e4 | ⟨e5, e4⟩
        · conv => whnf
          repeat' (first | exact congrArg (fun b => AEnd.ret (.tup [_, .bool b])) hdd | (refine ldI _ eb ?_; conv => whnf) | (refine lf seat_g cs2 ?_; conv => whnf) | (refine lf seat_g cr2 ?_; conv => whnf) | ((first | refine zs (by omega) ?_ | refine zq6 ?_ | refine zs (by dsimp only; omega) ?_ | refine zs (show pendP _ _ by repeat' constructor) ?_ | (with_reducible first | refine brT ‹_› ?_ | refine brF ‹_› ?_ | refine zt (by omega) ?_ | refine zf (by omega) ?_ | refine brNot ?_)); conv => whnf))
        · conv => whnf
          repeat' (first | exact congrArg (fun b => AEnd.ret (.tup [_, .bool b])) hdd | (refine ldI _ eb ?_; conv => whnf) | (refine lf seat_g cs2 ?_; conv => whnf) | (refine lf seat_g cr2 ?_; conv => whnf) | ((first | refine zs (by omega) ?_ | refine zq6 ?_ | refine zs (by dsimp only; omega) ?_ | refine zs (show pendP _ _ by repeat' constructor) ?_ | (with_reducible first | refine brT ‹_› ?_ | refine brF ‹_› ?_ | refine zt (by omega) ?_ | refine zf (by omega) ?_ | refine brNot ?_)); conv => whnf))
      · rw [decide_eq_false g2] at cs2
        have cr2 := c_run s (q + 1) (by omega) (by omega)
        have hin2 := runIn s (q + 1) (by omega)
        rw [show eR true s q = ((q + 1) + runN (s.drop (q + 1)), decide (0 < runN (s.drop (q + 1)))) by unfold eR; rw [if_neg (by decide), if_pos e1]; dsimp only; rw [if_neg g2]]
        have hdd : decide (((q + 1 + runN (s.drop (q + 1)) : Nat) : Int) > ((q + 1 : Nat) : Int)) = decide (0 < runN (s.drop (q + 1))) := decide_eq_decide.2 (by omega)
        generalize runN (s.drop (q + 1)) = r2 at *
        rcases e4 with e4 | ⟨e5, e4⟩
        · conv => whnf
          repeat' (first | exact congrArg (fun b => AEnd.ret (.tup [_, .bool b])) hdd | (refine ldI _ eb ?_; conv => whnf) | (refine lf seat_g cs2 ?_; conv => whnf) | (refine lf seat_g cr2 ?_; conv => whnf) | ((first | refine zs (by omega) ?_ | refine zq6 ?_ | refine zs (by dsimp only; omega) ?_ | refine zs (show pendP _ _ by repeat' constructor) ?_ | (with_reducible first | refine brT ‹_› ?_ | refine brF ‹_› ?_ | refine zt (by omega) ?_ | refine zf (by omega) ?_ | refine brNot ?_)); conv => whnf))
        · conv => whnf
          repeat' (first | exact congrArg (fun b => AEnd.ret (.tup [_, .bool b])) hdd | (refine ldI _ eb ?_; conv => whnf) | (refine lf seat_g cs2 ?_; conv => whnf) | (refine lf seat_g cr2 ?_; conv => whnf) | ((first | refine zs (by omega) ?_ | refine zq6 ?_ | refine zs (by dsimp only; omega) ?_ | refine zs (show pendP _ _ by repeat' constructor) ?_ | (with_reducible first | refine brT ‹_› ?_ | refine brF ‹_› ?_ | refine zt (by omega) ?_ | refine zf (by omega) ?_ | refine brNot ?_)); conv => whnf))
    · rw [show eR true s q = (q, true) by unfold eR; rw [if_neg (by decide), if_neg e1]]
      rcases e2 with e2 | ⟨b, e2, e3, e4, e5⟩
      · have e2' : ¬ (((q : Nat) : Int) < s.length) := by omega
        conv => whnf
        repeat' ((first | refine zs (by omega) ?_ | refine zq6 ?_ | refine zs (by dsimp only; omega) ?_ | refine zs (show pendP _ _ by repeat' constructor) ?_ | (with_reducible first | refine brT ‹_› ?_ | refine brF ‹_› ?_ | refine zt (by omega) ?_ | refine zf (by omega) ?_ | refine brNot ?_)); conv => whnf)
        rfl
      · have eb : (s[((q : Nat) : Int).toNat]?) = some b := e3
        conv => whnf
        repeat' (first | exact rfl | (refine ldI _ eb ?_; conv => whnf) | ((first | refine zs (by omega) ?_ | refine zq6 ?_ | refine zs (by dsimp only; omega) ?_ | refine zs (show pendP _ _ by repeat' constructor) ?_ | (with_reducible first | refine brT ‹_› ?_ | refine brF ‹_› ?_ | refine zt (by omega) ?_ | refine zf (by omega) ?_ | refine brNot ?_)); conv => whnf))
end Go.Proofs.YteicdddheaajlaaDoor
