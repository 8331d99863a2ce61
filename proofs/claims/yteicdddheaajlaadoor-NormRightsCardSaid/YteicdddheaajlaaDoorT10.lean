/- Definitions and lemmas for the law, part 10. No condition beyond those in each statement. -/
import Derived.Test.YteicdddheaajlaaDoorT9
set_option linter.unusedSimpArgs false
set_option linter.unusedVariables false
set_option linter.deprecated false
namespace Go.Proofs.YteicdddheaajlaaDoor
open Go.Abs
theorem c_rbound (n : Int) : ACalls seat 26 [.int .i64 n] [] (fun x _ => x = .ret (.bool (decide (IB n)))) := by
  refine ACalls.body seat_ok Tryd.func26 rfl rfl ?_
  by_cases h : IB n
  · rw [decide_eq_true h]
    unfold IB at h
    conv => whnf
    repeat' (first | exact rfl | exact congrArg (fun b => AEnd.ret (.bool b)) (decide_eq_true (by omega)) | ((first | refine zs (by omega) ?_ | refine zq6 ?_ | refine zs (by dsimp only; omega) ?_ | refine zs (show pendP _ _ by repeat' constructor) ?_ | (with_reducible first | refine brT ‹_› ?_ | refine brF ‹_› ?_ | refine zt (by omega) ?_ | refine zf (by omega) ?_ | refine brNot ?_)); conv => whnf))
  · rw [decide_eq_false h]
    unfold IB at h
    by_cases h2 : n > -4294967296
    · conv => whnf
      repeat' (first | exact rfl | exact congrArg (fun b => AEnd.ret (.bool b)) (decide_eq_false (by omega)) | ((first | refine zs (by omega) ?_ | refine zq6 ?_ | refine zs (by dsimp only; omega) ?_ | refine zs (show pendP _ _ by repeat' constructor) ?_ | (with_reducible first | refine brT ‹_› ?_ | refine brF ‹_› ?_ | refine zt (by omega) ?_ | refine zf (by omega) ?_ | refine brNot ?_)); conv => whnf))
    · conv => whnf
      repeat' (first | exact rfl | exact congrArg (fun b => AEnd.ret (.bool b)) (decide_eq_false (by omega)) | ((first | refine zs (by omega) ?_ | refine zq6 ?_ | refine zs (by dsimp only; omega) ?_ | refine zs (show pendP _ _ by repeat' constructor) ?_ | (with_reducible first | refine brT ‹_› ?_ | refine brF ‹_› ?_ | refine zt (by omega) ?_ | refine zf (by omega) ?_ | refine brNot ?_)); conv => whnf))
theorem sfirst_cl (G : List Sg) (a b n : Nat) : Closed (.vec (((cs sgC G).drop a).take b) n none) := by
  simp only [Closed]
  exact ⟨trivial, ClosedL_iff.2 fun c hc => ClosedL_iff.1 (sg_closed G) c (List.mem_of_mem_drop (List.mem_of_mem_take hc))⟩
set_option maxRecDepth 20000 in
set_option maxHeartbeats 8000000 in
theorem c_rright7 (l : List Sg) (hl : l.length ≤ 100000) : ACalls seat 15 [sgV l] [] (fun r _ => r = .ret (.bool (goR [] l))) := by
  refine ACalls.body seat_ok Tryd.func15 rfl rfl ?_
  generalize hR : goR [] l = R
  unfold sgV
  conv => whnf
  repeat' ((first | refine zs (by omega) ?_ | refine zq6 ?_ | refine zs (by dsimp only; omega) ?_ | refine zs (show pendP _ _ by repeat' constructor) ?_ | (with_reducible first | refine brT ‹_› ?_ | refine brF ‹_› ?_ | refine zt (by omega) ?_ | refine zf (by omega) ?_ | refine brNot ?_)); conv => whnf)
  refine Sat.cut (fun x t h => (x = .ret ∧ R = false ∧ t = (uu::uu::.bool false::uu::uu::uu::uu::uu::uu::uu::uu::uu::uu::uu::uu::uu::uu::uu::uu::uu::uu::uu::uu::uu::uu::uu::uu::uu::uu::uu::uu::uu::uu::uu::uu::uu::uu::uu::uu::uu::uu::uu::uu::uu::uu::uu::uu::uu::uu::uu::uu::uu::uu::uu::uu::uu::uu::uu::uu::uu::uu::uu::uu::uu::uu::uu::uu::uu::uu::uu::uu::uu::uu::uu::uu::uu::uu::uu::uu::uu::uu::uu::uu::uu::uu::uu::uu::uu::uu::uu::uu::uu::uu::uu::uu::uu::uu::uu::uu::uu::uu::uu::uu::uu::uu::uu::uu::uu::uu::uu::uu::uu::uu::uu::uu::uu::uu::uu::uu::uu::uu::uu::uu::uu::uu::uu::uu::uu::uu::uu::uu::uu::uu::uu::uu::uu::uu::uu::uu::uu::uu::uu::uu::uu::uu::uu::uu::uu::uu::uu::[])) ∨ (x = .exit 0 ∧ R = true ∧ t = (uu::uu::uu::uu::uu::uu::uu::uu::uu::uu::uu::uu::uu::uu::uu::uu::uu::uu::uu::uu::uu::uu::uu::uu::uu::uu::uu::uu::uu::uu::uu::uu::uu::uu::uu::uu::uu::uu::uu::uu::uu::uu::uu::uu::uu::uu::uu::uu::uu::uu::uu::uu::uu::uu::uu::uu::uu::uu::uu::uu::uu::uu::uu::uu::uu::uu::uu::uu::uu::uu::uu::uu::uu::uu::uu::uu::uu::uu::uu::uu::uu::uu::uu::uu::uu::uu::uu::uu::uu::uu::uu::uu::uu::uu::uu::uu::uu::uu::uu::uu::uu::uu::uu::uu::uu::uu::uu::uu::uu::uu::uu::uu::uu::uu::uu::uu::uu::uu::uu::uu::uu::uu::uu::uu::uu::uu::uu::uu::uu::uu::uu::uu::uu::uu::uu::uu::uu::uu::uu::uu::uu::uu::uu::uu::uu::uu::uu::uu::uu::uu::[]))) ?_ ?_
  · refine Sat.invP seat_ok seat_g (maskOf 150 [0, 3]) 0 (fun μ t h => ∃ i : Nat, i ≤ l.length ∧ goR (l.take i) (l.drop i) = R ∧ μ = l.length - i ∧ t = (.vec (cs sgC l) l.length none::uu::uu::.int .i64 i::uu::uu::uu::uu::uu::uu::uu::uu::uu::uu::uu::uu::uu::uu::uu::uu::uu::uu::uu::uu::uu::uu::uu::uu::uu::uu::uu::uu::uu::uu::uu::uu::uu::uu::uu::uu::uu::uu::uu::uu::uu::uu::uu::uu::uu::uu::uu::uu::uu::uu::uu::uu::uu::uu::uu::uu::uu::uu::uu::uu::uu::uu::uu::uu::uu::uu::uu::uu::uu::uu::uu::uu::uu::uu::uu::uu::uu::uu::uu::uu::uu::uu::uu::uu::uu::uu::uu::uu::uu::uu::uu::uu::uu::uu::uu::uu::uu::uu::uu::uu::uu::uu::uu::uu::uu::uu::uu::uu::uu::uu::uu::uu::uu::uu::uu::uu::uu::uu::uu::uu::uu::uu::uu::uu::uu::uu::uu::uu::uu::uu::uu::uu::uu::uu::uu::uu::uu::uu::uu::uu::uu::uu::uu::uu::uu::uu::[]) ∧ h = [])
      ?_ ⟨_, _, WeakL.of_eq rfl, 0, Nat.zero_le _, by rw [List.take_zero, List.drop_zero]; exact hR, rfl, rfl, rfl⟩ ?_
    · rintro _ _ _ ⟨i, -, -, -, rfl, rfl⟩
      exact ⟨rfl, by simp [IdsL, Ids, sg_ids], (by simp [IdsL, Ids, IdsH, IdsC, lv_ids, ci_ids])⟩
    clear hR
    rintro _ _ _ ⟨i, hi, hb, rfl, rfl, rfl⟩
    by_cases g : i < l.length
    · obtain ⟨x, hx⟩ : ∃ x, l[i]? = some x := ⟨_, List.getElem?_eq_getElem g⟩
      have hld : sub (cs sgC l) ((i : Int).toNat * 12) 12 = some (sgC x) := cs_sub sgC_len hx
      have ci1 := c_rin x.to
      have ci2 := c_rin x.c1
      have ci3 := c_rin x.c2
      have cb1 := c_rbound x.rx
      have cb2 := c_rbound x.ry
      have cb3 := c_rbound x.turn
      rw [drop_cons' hx, goR, ← take_snoc hx] at hb
      have cbg := c_begin (l.take i) (by rw [List.length_take]; omega)
      rw [← sg_first l i (Nat.le_of_lt g)] at cbg
      have hsh := shut_at g
      generalize hB : beginR (l.take i) = B at *
      by_cases p1 : ¬ x.kind < 1
      · by_cases p2 : ¬ x.kind > 6
        · by_cases p3 : inP x.to
          · rw [decide_eq_true p3] at ci1
            by_cases p4 : inP x.c1
            · rw [decide_eq_true p4] at ci2
              by_cases p5 : inP x.c2
              · rw [decide_eq_true p5] at ci3
                by_cases p6 : IB x.rx
                · rw [decide_eq_true p6] at cb1
                  by_cases p7 : IB x.ry
                  · rw [decide_eq_true p7] at cb2
                    by_cases p8 : IB x.turn
                    · rw [decide_eq_true p8] at cb3
                      by_cases p9 : ¬ x.rx < 0
                      · by_cases p10 : ¬ x.ry < 0
                        · have hk : x.kind = 3 ∨ x.kind = 4 ∨ x.kind = 5 ∨ (x.kind ≠ 3 ∧ x.kind ≠ 4 ∧ x.kind ≠ 5) := by omega
                          rcases hk with hk | hk | hk | ⟨hk, hk4, hk5⟩
                          · have e1 : True := trivial
                            have e2 : True := trivial
                            by_cases r1 : x.rx = 0
                            · by_cases r2 : x.ry = 0
                              · by_cases r3 : x.turn = 0
                                · by_cases r4 : x.large = false
                                  · by_cases r5 : x.sweep = false
                                    · have hP : plainP x := ⟨.inr (.inl ⟨hk, ⟨r1, r2, r3⟩, r4, r5⟩), by omega, by omega, ⟨p3.1, p3.2, p4.1⟩, ⟨p4.2, p5.1, p5.2⟩, p6, p7, p8⟩
                                      have dum : True := trivial
                                      rcases hsh with ⟨h0, hs⟩ | ⟨j, y, rfl, hy, hs⟩
                                      · rw [if_neg (fun h => by
                                          rcases h.2 with h | h
                                          · omega
                                          · rw [hs] at h; cases h.1)] at hb
                                        have hly : True := trivial
                                        have he : True := trivial
                                        clear hs hP
                                        conv => whnf
                                        repeat' (first | (refine ldI _ hld ?_; conv => whnf) | (refine CallH.lift seat_g ci1 ⟨Pt.closed _, trivial⟩ (by simp [Closed]) ?_; conv => whnf) | (refine CallH.lift seat_g ci2 ⟨Pt.closed _, trivial⟩ (by simp [Closed]) ?_; conv => whnf) | (refine CallH.lift seat_g ci3 ⟨Pt.closed _, trivial⟩ (by simp [Closed]) ?_; conv => whnf) | (refine lf seat_g cb1 ?_; conv => whnf) | (refine lf seat_g cb2 ?_; conv => whnf) | (refine lf seat_g cb3 ?_; conv => whnf) | (refine brNot (brT e2 ?_); conv => whnf) | (refine brNot (brF e2 ?_); conv => whnf) | (refine brNot (brT e1 ?_); conv => whnf) | (refine brNot (brF e1 ?_); conv => whnf) | ((first | refine zs (by omega) ?_ | refine zq6 ?_ | refine zs (by dsimp only; omega) ?_ | refine zs (show pendP _ _ by repeat' constructor) ?_ | (with_reducible first | refine brT ‹_› ?_ | refine brF ‹_› ?_ | refine zt (by omega) ?_ | refine zf (by omega) ?_ | refine brNot ?_)); conv => whnf))
                                        refine DrawH.plan seat_ok (.take 0 (.take 1 (.take 2 (.take 3 (.take 4 (.take 5 (.take 6 (.take 7 (.take 8 (.take 9 (.take 10 (.take 11 (.take 12 (.take 13 (.take 14 (.take 15 (.take 16 (.take 17 (.take 18 (.take 19 (.take 20 (.take 21 (.take 22 (.take 23 (.take 24 (.take 25 (.perform 26 none (.take 27 (.take 28 (.take 29 Plan.done)))))))))))))))))))))))))))))) 0 (by kernel_rfl) ?_
                                        conv => whnf
                                        repeat' (first | exact ⟨_, keepT_weak (maskOf 150 [2]) _, .inl ⟨rfl, hb.symm, rfl⟩⟩ | (refine ldI _ hld ?_; conv => whnf) | (refine CallH.lift seat_g ci1 ⟨Pt.closed _, trivial⟩ (by simp [Closed]) ?_; conv => whnf) | (refine CallH.lift seat_g ci2 ⟨Pt.closed _, trivial⟩ (by simp [Closed]) ?_; conv => whnf) | (refine CallH.lift seat_g ci3 ⟨Pt.closed _, trivial⟩ (by simp [Closed]) ?_; conv => whnf) | (refine lf seat_g cb1 ?_; conv => whnf) | (refine lf seat_g cb2 ?_; conv => whnf) | (refine lf seat_g cb3 ?_; conv => whnf) | (refine brNot (brT e2 ?_); conv => whnf) | (refine brNot (brF e2 ?_); conv => whnf) | (refine brNot (brT e1 ?_); conv => whnf) | (refine brNot (brF e1 ?_); conv => whnf) | (refine ldI _ hly ?_; conv => whnf) | (refine Req.mk ⟨by omega, by omega, by omega, by omega⟩ ?_; conv => whnf) | (refine CallH.lift seat_g cbg ⟨sfirst_cl _ _ _ _, trivial⟩ (Pt.closed _) ?_; conv => whnf) | (refine brNot (brT he ?_); conv => whnf) | (refine brNot (brF he ?_); conv => whnf) | ((first | refine zs (by omega) ?_ | refine zq6 ?_ | refine zs (by dsimp only; omega) ?_ | refine zs (show pendP _ _ by repeat' constructor) ?_ | (with_reducible first | refine brT ‹_› ?_ | refine brF ‹_› ?_ | refine zt (by omega) ?_ | refine zf (by omega) ?_ | refine brNot ?_)); conv => whnf))
                                      · have hly : sub (cs sgC l) ((((j + 1 : Nat) : Int) - 1).toNat * 12) 12 = some (sgC y) := by
                                          rw [show (((j + 1 : Nat) : Int) - 1).toNat = j by omega]; exact cs_sub sgC_len hy
                                        by_cases a3 : y.kind = 6
                                        · rw [if_neg (fun h => by
                                            rcases h.2 with h | h
                                            · omega
                                            · rw [hs, decide_eq_true a3] at h; cases h.1)] at hb
                                          have he : True := trivial
                                          clear hs hP
                                          conv => whnf
                                          repeat' (first | (refine ldI _ hld ?_; conv => whnf) | (refine CallH.lift seat_g ci1 ⟨Pt.closed _, trivial⟩ (by simp [Closed]) ?_; conv => whnf) | (refine CallH.lift seat_g ci2 ⟨Pt.closed _, trivial⟩ (by simp [Closed]) ?_; conv => whnf) | (refine CallH.lift seat_g ci3 ⟨Pt.closed _, trivial⟩ (by simp [Closed]) ?_; conv => whnf) | (refine lf seat_g cb1 ?_; conv => whnf) | (refine lf seat_g cb2 ?_; conv => whnf) | (refine lf seat_g cb3 ?_; conv => whnf) | (refine brNot (brT e2 ?_); conv => whnf) | (refine brNot (brF e2 ?_); conv => whnf) | (refine brNot (brT e1 ?_); conv => whnf) | (refine brNot (brF e1 ?_); conv => whnf) | ((first | refine zs (by omega) ?_ | refine zq6 ?_ | refine zs (by dsimp only; omega) ?_ | refine zs (show pendP _ _ by repeat' constructor) ?_ | (with_reducible first | refine brT ‹_› ?_ | refine brF ‹_› ?_ | refine zt (by omega) ?_ | refine zf (by omega) ?_ | refine brNot ?_)); conv => whnf))
                                          refine DrawH.plan seat_ok (.take 0 (.take 1 (.take 2 (.take 3 (.take 4 (.take 5 (.take 6 (.take 7 (.take 8 (.take 9 (.take 10 (.take 11 (.take 12 (.take 13 (.take 14 (.take 15 (.take 16 (.take 17 (.take 18 (.take 19 (.take 20 (.take 21 (.take 22 (.take 23 (.take 24 (.take 25 (.perform 26 none (.take 27 (.take 28 (.take 29 Plan.done)))))))))))))))))))))))))))))) 0 (by kernel_rfl) ?_
                                          conv => whnf
                                          repeat' (first | exact ⟨_, keepT_weak (maskOf 150 [2]) _, .inl ⟨rfl, hb.symm, rfl⟩⟩ | (refine ldI _ hld ?_; conv => whnf) | (refine CallH.lift seat_g ci1 ⟨Pt.closed _, trivial⟩ (by simp [Closed]) ?_; conv => whnf) | (refine CallH.lift seat_g ci2 ⟨Pt.closed _, trivial⟩ (by simp [Closed]) ?_; conv => whnf) | (refine CallH.lift seat_g ci3 ⟨Pt.closed _, trivial⟩ (by simp [Closed]) ?_; conv => whnf) | (refine lf seat_g cb1 ?_; conv => whnf) | (refine lf seat_g cb2 ?_; conv => whnf) | (refine lf seat_g cb3 ?_; conv => whnf) | (refine brNot (brT e2 ?_); conv => whnf) | (refine brNot (brF e2 ?_); conv => whnf) | (refine brNot (brT e1 ?_); conv => whnf) | (refine brNot (brF e1 ?_); conv => whnf) | (refine ldI _ hly ?_; conv => whnf) | (refine Req.mk ⟨by omega, by omega, by omega, by omega⟩ ?_; conv => whnf) | (refine CallH.lift seat_g cbg ⟨sfirst_cl _ _ _ _, trivial⟩ (Pt.closed _) ?_; conv => whnf) | (refine brNot (brT he ?_); conv => whnf) | (refine brNot (brF he ?_); conv => whnf) | ((first | refine zs (by omega) ?_ | refine zq6 ?_ | refine zs (by dsimp only; omega) ?_ | refine zs (show pendP _ _ by repeat' constructor) ?_ | (with_reducible first | refine brT ‹_› ?_ | refine brF ‹_› ?_ | refine zt (by omega) ?_ | refine zf (by omega) ?_ | refine brNot ?_)); conv => whnf))
                                        · rw [decide_eq_false a3] at hs
                                          have he : True := trivial
                                          rw [if_pos ⟨hP, .inr ⟨hs, fun h => by omega⟩⟩] at hb
                                          clear hs hP
                                          conv => whnf
                                          repeat' (first | (refine ldI _ hld ?_; conv => whnf) | (refine CallH.lift seat_g ci1 ⟨Pt.closed _, trivial⟩ (by simp [Closed]) ?_; conv => whnf) | (refine CallH.lift seat_g ci2 ⟨Pt.closed _, trivial⟩ (by simp [Closed]) ?_; conv => whnf) | (refine CallH.lift seat_g ci3 ⟨Pt.closed _, trivial⟩ (by simp [Closed]) ?_; conv => whnf) | (refine lf seat_g cb1 ?_; conv => whnf) | (refine lf seat_g cb2 ?_; conv => whnf) | (refine lf seat_g cb3 ?_; conv => whnf) | (refine brNot (brT e2 ?_); conv => whnf) | (refine brNot (brF e2 ?_); conv => whnf) | (refine brNot (brT e1 ?_); conv => whnf) | (refine brNot (brF e1 ?_); conv => whnf) | ((first | refine zs (by omega) ?_ | refine zq6 ?_ | refine zs (by dsimp only; omega) ?_ | refine zs (show pendP _ _ by repeat' constructor) ?_ | (with_reducible first | refine brT ‹_› ?_ | refine brF ‹_› ?_ | refine zt (by omega) ?_ | refine zf (by omega) ?_ | refine brNot ?_)); conv => whnf))
                                          refine DrawH.plan seat_ok (.take 0 (.take 1 (.take 2 (.take 3 (.take 4 (.take 5 (.take 6 (.take 7 (.take 8 (.take 9 (.take 10 (.take 11 (.take 12 (.take 13 (.take 14 (.take 15 (.take 16 (.take 17 (.take 18 (.take 19 (.take 20 (.take 21 (.take 22 (.take 23 (.take 24 (.take 25 (.perform 26 none (.take 27 (.take 28 (.take 29 Plan.done)))))))))))))))))))))))))))))) 0 (by kernel_rfl) ?_
                                          conv => whnf
                                          repeat' (first | exact ⟨_, _, Nat.sub_lt_sub_left g (Nat.lt_succ_self _), WeakL.of_eq rfl, _, g, hb, rfl, rfl, rfl⟩ | (refine ldI _ hld ?_; conv => whnf) | (refine CallH.lift seat_g ci1 ⟨Pt.closed _, trivial⟩ (by simp [Closed]) ?_; conv => whnf) | (refine CallH.lift seat_g ci2 ⟨Pt.closed _, trivial⟩ (by simp [Closed]) ?_; conv => whnf) | (refine CallH.lift seat_g ci3 ⟨Pt.closed _, trivial⟩ (by simp [Closed]) ?_; conv => whnf) | (refine lf seat_g cb1 ?_; conv => whnf) | (refine lf seat_g cb2 ?_; conv => whnf) | (refine lf seat_g cb3 ?_; conv => whnf) | (refine brNot (brT e2 ?_); conv => whnf) | (refine brNot (brF e2 ?_); conv => whnf) | (refine brNot (brT e1 ?_); conv => whnf) | (refine brNot (brF e1 ?_); conv => whnf) | (refine ldI _ hly ?_; conv => whnf) | (refine Req.mk ⟨by omega, by omega, by omega, by omega⟩ ?_; conv => whnf) | (refine CallH.lift seat_g cbg ⟨sfirst_cl _ _ _ _, trivial⟩ (Pt.closed _) ?_; conv => whnf) | (refine brNot (brT he ?_); conv => whnf) | (refine brNot (brF he ?_); conv => whnf) | ((first | refine zs (by omega) ?_ | refine zq6 ?_ | refine zs (by dsimp only; omega) ?_ | refine zs (show pendP _ _ by repeat' constructor) ?_ | (with_reducible first | refine brT ‹_› ?_ | refine brF ‹_› ?_ | refine zt (by omega) ?_ | refine zf (by omega) ?_ | refine brNot ?_)); conv => whnf))
                                    · have r5' : x.sweep = true := by simpa using r5
                                      rw [if_neg (fun h => by obtain ⟨⟨hs, h1, h2, h9⟩, -⟩ := h; unfold shape at hs; unfold all9 IB at h9; unfold inP IB at *; first | omega | simp_all | (simp_all; omega))] at hb
                                      clear hsh
                                      conv => whnf
                                      repeat' (first | exact ⟨_, keepT_weak (maskOf 150 [2]) _, .inl ⟨rfl, hb.symm, rfl⟩⟩ | (refine ldI _ hld ?_; conv => whnf) | (refine CallH.lift seat_g ci1 ⟨Pt.closed _, trivial⟩ (by simp [Closed]) ?_; conv => whnf) | (refine CallH.lift seat_g ci2 ⟨Pt.closed _, trivial⟩ (by simp [Closed]) ?_; conv => whnf) | (refine CallH.lift seat_g ci3 ⟨Pt.closed _, trivial⟩ (by simp [Closed]) ?_; conv => whnf) | (refine lf seat_g cb1 ?_; conv => whnf) | (refine lf seat_g cb2 ?_; conv => whnf) | (refine lf seat_g cb3 ?_; conv => whnf) | (refine brNot (brT e2 ?_); conv => whnf) | (refine brNot (brF e2 ?_); conv => whnf) | (refine brNot (brT e1 ?_); conv => whnf) | (refine brNot (brF e1 ?_); conv => whnf) | ((first | refine zs (by omega) ?_ | refine zq6 ?_ | refine zs (by dsimp only; omega) ?_ | refine zs (show pendP _ _ by repeat' constructor) ?_ | (with_reducible first | refine brT ‹_› ?_ | refine brF ‹_› ?_ | refine zt (by omega) ?_ | refine zf (by omega) ?_ | refine brNot ?_)); conv => whnf))
                                  · have r4' : x.large = true := by simpa using r4
                                    rw [if_neg (fun h => by obtain ⟨⟨hs, h1, h2, h9⟩, -⟩ := h; unfold shape at hs; unfold all9 IB at h9; unfold inP IB at *; first | omega | simp_all | (simp_all; omega))] at hb
                                    clear hsh
                                    conv => whnf
                                    repeat' (first | exact ⟨_, keepT_weak (maskOf 150 [2]) _, .inl ⟨rfl, hb.symm, rfl⟩⟩ | (refine ldI _ hld ?_; conv => whnf) | (refine CallH.lift seat_g ci1 ⟨Pt.closed _, trivial⟩ (by simp [Closed]) ?_; conv => whnf) | (refine CallH.lift seat_g ci2 ⟨Pt.closed _, trivial⟩ (by simp [Closed]) ?_; conv => whnf) | (refine CallH.lift seat_g ci3 ⟨Pt.closed _, trivial⟩ (by simp [Closed]) ?_; conv => whnf) | (refine lf seat_g cb1 ?_; conv => whnf) | (refine lf seat_g cb2 ?_; conv => whnf) | (refine lf seat_g cb3 ?_; conv => whnf) | (refine brNot (brT e2 ?_); conv => whnf) | (refine brNot (brF e2 ?_); conv => whnf) | (refine brNot (brT e1 ?_); conv => whnf) | (refine brNot (brF e1 ?_); conv => whnf) | ((first | refine zs (by omega) ?_ | refine zq6 ?_ | refine zs (by dsimp only; omega) ?_ | refine zs (show pendP _ _ by repeat' constructor) ?_ | (with_reducible first | refine brT ‹_› ?_ | refine brF ‹_› ?_ | refine zt (by omega) ?_ | refine zf (by omega) ?_ | refine brNot ?_)); conv => whnf))
                                · rw [if_neg (fun h => by obtain ⟨⟨hs, h1, h2, h9⟩, -⟩ := h; unfold shape at hs; unfold all9 IB at h9; unfold inP IB at *; first | omega | simp_all | (simp_all; omega))] at hb
                                  clear hsh
                                  conv => whnf
                                  repeat' (first | exact ⟨_, keepT_weak (maskOf 150 [2]) _, .inl ⟨rfl, hb.symm, rfl⟩⟩ | (refine ldI _ hld ?_; conv => whnf) | (refine CallH.lift seat_g ci1 ⟨Pt.closed _, trivial⟩ (by simp [Closed]) ?_; conv => whnf) | (refine CallH.lift seat_g ci2 ⟨Pt.closed _, trivial⟩ (by simp [Closed]) ?_; conv => whnf) | (refine CallH.lift seat_g ci3 ⟨Pt.closed _, trivial⟩ (by simp [Closed]) ?_; conv => whnf) | (refine lf seat_g cb1 ?_; conv => whnf) | (refine lf seat_g cb2 ?_; conv => whnf) | (refine lf seat_g cb3 ?_; conv => whnf) | (refine brNot (brT e2 ?_); conv => whnf) | (refine brNot (brF e2 ?_); conv => whnf) | (refine brNot (brT e1 ?_); conv => whnf) | (refine brNot (brF e1 ?_); conv => whnf) | ((first | refine zs (by omega) ?_ | refine zq6 ?_ | refine zs (by dsimp only; omega) ?_ | refine zs (show pendP _ _ by repeat' constructor) ?_ | (with_reducible first | refine brT ‹_› ?_ | refine brF ‹_› ?_ | refine zt (by omega) ?_ | refine zf (by omega) ?_ | refine brNot ?_)); conv => whnf))
                              · rw [if_neg (fun h => by obtain ⟨⟨hs, h1, h2, h9⟩, -⟩ := h; unfold shape at hs; unfold all9 IB at h9; unfold inP IB at *; first | omega | simp_all | (simp_all; omega))] at hb
                                clear hsh
                                conv => whnf
                                repeat' (first | exact ⟨_, keepT_weak (maskOf 150 [2]) _, .inl ⟨rfl, hb.symm, rfl⟩⟩ | (refine ldI _ hld ?_; conv => whnf) | (refine CallH.lift seat_g ci1 ⟨Pt.closed _, trivial⟩ (by simp [Closed]) ?_; conv => whnf) | (refine CallH.lift seat_g ci2 ⟨Pt.closed _, trivial⟩ (by simp [Closed]) ?_; conv => whnf) | (refine CallH.lift seat_g ci3 ⟨Pt.closed _, trivial⟩ (by simp [Closed]) ?_; conv => whnf) | (refine lf seat_g cb1 ?_; conv => whnf) | (refine lf seat_g cb2 ?_; conv => whnf) | (refine lf seat_g cb3 ?_; conv => whnf) | (refine brNot (brT e2 ?_); conv => whnf) | (refine brNot (brF e2 ?_); conv => whnf) | (refine brNot (brT e1 ?_); conv => whnf) | (refine brNot (brF e1 ?_); conv => whnf) | ((first | refine zs (by omega) ?_ | refine zq6 ?_ | refine zs (by dsimp only; omega) ?_ | refine zs (show pendP _ _ by repeat' constructor) ?_ | (with_reducible first | refine brT ‹_› ?_ | refine brF ‹_› ?_ | refine zt (by omega) ?_ | refine zf (by omega) ?_ | refine brNot ?_)); conv => whnf))
                            · rw [if_neg (fun h => by obtain ⟨⟨hs, h1, h2, h9⟩, -⟩ := h; unfold shape at hs; unfold all9 IB at h9; unfold inP IB at *; first | omega | simp_all | (simp_all; omega))] at hb
                              clear hsh
                              conv => whnf
                              repeat' (first | exact ⟨_, keepT_weak (maskOf 150 [2]) _, .inl ⟨rfl, hb.symm, rfl⟩⟩ | (refine ldI _ hld ?_; conv => whnf) | (refine CallH.lift seat_g ci1 ⟨Pt.closed _, trivial⟩ (by simp [Closed]) ?_; conv => whnf) | (refine CallH.lift seat_g ci2 ⟨Pt.closed _, trivial⟩ (by simp [Closed]) ?_; conv => whnf) | (refine CallH.lift seat_g ci3 ⟨Pt.closed _, trivial⟩ (by simp [Closed]) ?_; conv => whnf) | (refine lf seat_g cb1 ?_; conv => whnf) | (refine lf seat_g cb2 ?_; conv => whnf) | (refine lf seat_g cb3 ?_; conv => whnf) | (refine brNot (brT e2 ?_); conv => whnf) | (refine brNot (brF e2 ?_); conv => whnf) | (refine brNot (brT e1 ?_); conv => whnf) | (refine brNot (brF e1 ?_); conv => whnf) | ((first | refine zs (by omega) ?_ | refine zq6 ?_ | refine zs (by dsimp only; omega) ?_ | refine zs (show pendP _ _ by repeat' constructor) ?_ | (with_reducible first | refine brT ‹_› ?_ | refine brF ‹_› ?_ | refine zt (by omega) ?_ | refine zf (by omega) ?_ | refine brNot ?_)); conv => whnf))
                          · have e1 : True := trivial
                            by_cases z2 : x.c2.x = 0 ∧ x.c2.y = 0
                            · have e2 : (x.c2.x == 0 && (x.c2.y == 0 && true)) = true := by simp [z2]
                              by_cases r1 : x.rx = 0
                              · by_cases r2 : x.ry = 0
                                · by_cases r3 : x.turn = 0
                                  · by_cases r4 : x.large = false
                                    · by_cases r5 : x.sweep = false
                                      · have hP : plainP x := ⟨.inr (.inr (.inl ⟨hk, z2, ⟨r1, r2, r3⟩, r4, r5⟩)), by omega, by omega, ⟨p3.1, p3.2, p4.1⟩, ⟨p4.2, p5.1, p5.2⟩, p6, p7, p8⟩
                                        have dum : True := trivial
                                        rcases hsh with ⟨h0, hs⟩ | ⟨j, y, rfl, hy, hs⟩
                                        · rw [if_neg (fun h => by
                                            rcases h.2 with h | h
                                            · omega
                                            · rw [hs] at h; cases h.1)] at hb
                                          have hly : True := trivial
                                          have he : True := trivial
                                          clear hs hP
                                          conv => whnf
                                          repeat' (first | (refine ldI _ hld ?_; conv => whnf) | (refine CallH.lift seat_g ci1 ⟨Pt.closed _, trivial⟩ (by simp [Closed]) ?_; conv => whnf) | (refine CallH.lift seat_g ci2 ⟨Pt.closed _, trivial⟩ (by simp [Closed]) ?_; conv => whnf) | (refine CallH.lift seat_g ci3 ⟨Pt.closed _, trivial⟩ (by simp [Closed]) ?_; conv => whnf) | (refine lf seat_g cb1 ?_; conv => whnf) | (refine lf seat_g cb2 ?_; conv => whnf) | (refine lf seat_g cb3 ?_; conv => whnf) | (refine brNot (brT e2 ?_); conv => whnf) | (refine brNot (brF e2 ?_); conv => whnf) | (refine brNot (brT e1 ?_); conv => whnf) | (refine brNot (brF e1 ?_); conv => whnf) | ((first | refine zs (by omega) ?_ | refine zq6 ?_ | refine zs (by dsimp only; omega) ?_ | refine zs (show pendP _ _ by repeat' constructor) ?_ | (with_reducible first | refine brT ‹_› ?_ | refine brF ‹_› ?_ | refine zt (by omega) ?_ | refine zf (by omega) ?_ | refine brNot ?_)); conv => whnf))
                                          refine DrawH.plan seat_ok (.take 0 (.take 1 (.take 2 (.take 3 (.take 4 (.take 5 (.take 6 (.take 7 (.take 8 (.take 9 (.take 10 (.take 11 (.take 12 (.take 13 (.take 14 (.take 15 (.take 16 (.take 17 (.take 18 (.take 19 (.take 20 (.take 21 (.take 22 (.take 23 (.take 24 (.take 25 (.perform 26 none (.take 27 (.take 28 (.take 29 Plan.done)))))))))))))))))))))))))))))) 0 (by kernel_rfl) ?_
                                          conv => whnf
                                          repeat' (first | exact ⟨_, keepT_weak (maskOf 150 [2]) _, .inl ⟨rfl, hb.symm, rfl⟩⟩ | (refine ldI _ hld ?_; conv => whnf) | (refine CallH.lift seat_g ci1 ⟨Pt.closed _, trivial⟩ (by simp [Closed]) ?_; conv => whnf) | (refine CallH.lift seat_g ci2 ⟨Pt.closed _, trivial⟩ (by simp [Closed]) ?_; conv => whnf) | (refine CallH.lift seat_g ci3 ⟨Pt.closed _, trivial⟩ (by simp [Closed]) ?_; conv => whnf) | (refine lf seat_g cb1 ?_; conv => whnf) | (refine lf seat_g cb2 ?_; conv => whnf) | (refine lf seat_g cb3 ?_; conv => whnf) | (refine brNot (brT e2 ?_); conv => whnf) | (refine brNot (brF e2 ?_); conv => whnf) | (refine brNot (brT e1 ?_); conv => whnf) | (refine brNot (brF e1 ?_); conv => whnf) | (refine ldI _ hly ?_; conv => whnf) | (refine Req.mk ⟨by omega, by omega, by omega, by omega⟩ ?_; conv => whnf) | (refine CallH.lift seat_g cbg ⟨sfirst_cl _ _ _ _, trivial⟩ (Pt.closed _) ?_; conv => whnf) | (refine brNot (brT he ?_); conv => whnf) | (refine brNot (brF he ?_); conv => whnf) | ((first | refine zs (by omega) ?_ | refine zq6 ?_ | refine zs (by dsimp only; omega) ?_ | refine zs (show pendP _ _ by repeat' constructor) ?_ | (with_reducible first | refine brT ‹_› ?_ | refine brF ‹_› ?_ | refine zt (by omega) ?_ | refine zf (by omega) ?_ | refine brNot ?_)); conv => whnf))
                                        · have hly : sub (cs sgC l) ((((j + 1 : Nat) : Int) - 1).toNat * 12) 12 = some (sgC y) := by
                                            rw [show (((j + 1 : Nat) : Int) - 1).toNat = j by omega]; exact cs_sub sgC_len hy
                                          by_cases a3 : y.kind = 6
                                          · rw [if_neg (fun h => by
                                              rcases h.2 with h | h
                                              · omega
                                              · rw [hs, decide_eq_true a3] at h; cases h.1)] at hb
                                            have he : True := trivial
                                            clear hs hP
                                            conv => whnf
                                            repeat' (first | (refine ldI _ hld ?_; conv => whnf) | (refine CallH.lift seat_g ci1 ⟨Pt.closed _, trivial⟩ (by simp [Closed]) ?_; conv => whnf) | (refine CallH.lift seat_g ci2 ⟨Pt.closed _, trivial⟩ (by simp [Closed]) ?_; conv => whnf) | (refine CallH.lift seat_g ci3 ⟨Pt.closed _, trivial⟩ (by simp [Closed]) ?_; conv => whnf) | (refine lf seat_g cb1 ?_; conv => whnf) | (refine lf seat_g cb2 ?_; conv => whnf) | (refine lf seat_g cb3 ?_; conv => whnf) | (refine brNot (brT e2 ?_); conv => whnf) | (refine brNot (brF e2 ?_); conv => whnf) | (refine brNot (brT e1 ?_); conv => whnf) | (refine brNot (brF e1 ?_); conv => whnf) | ((first | refine zs (by omega) ?_ | refine zq6 ?_ | refine zs (by dsimp only; omega) ?_ | refine zs (show pendP _ _ by repeat' constructor) ?_ | (with_reducible first | refine brT ‹_› ?_ | refine brF ‹_› ?_ | refine zt (by omega) ?_ | refine zf (by omega) ?_ | refine brNot ?_)); conv => whnf))
                                            refine DrawH.plan seat_ok (.take 0 (.take 1 (.take 2 (.take 3 (.take 4 (.take 5 (.take 6 (.take 7 (.take 8 (.take 9 (.take 10 (.take 11 (.take 12 (.take 13 (.take 14 (.take 15 (.take 16 (.take 17 (.take 18 (.take 19 (.take 20 (.take 21 (.take 22 (.take 23 (.take 24 (.take 25 (.perform 26 none (.take 27 (.take 28 (.take 29 Plan.done)))))))))))))))))))))))))))))) 0 (by kernel_rfl) ?_
                                            conv => whnf
                                            repeat' (first | exact ⟨_, keepT_weak (maskOf 150 [2]) _, .inl ⟨rfl, hb.symm, rfl⟩⟩ | (refine ldI _ hld ?_; conv => whnf) | (refine CallH.lift seat_g ci1 ⟨Pt.closed _, trivial⟩ (by simp [Closed]) ?_; conv => whnf) | (refine CallH.lift seat_g ci2 ⟨Pt.closed _, trivial⟩ (by simp [Closed]) ?_; conv => whnf) | (refine CallH.lift seat_g ci3 ⟨Pt.closed _, trivial⟩ (by simp [Closed]) ?_; conv => whnf) | (refine lf seat_g cb1 ?_; conv => whnf) | (refine lf seat_g cb2 ?_; conv => whnf) | (refine lf seat_g cb3 ?_; conv => whnf) | (refine brNot (brT e2 ?_); conv => whnf) | (refine brNot (brF e2 ?_); conv => whnf) | (refine brNot (brT e1 ?_); conv => whnf) | (refine brNot (brF e1 ?_); conv => whnf) | (refine ldI _ hly ?_; conv => whnf) | (refine Req.mk ⟨by omega, by omega, by omega, by omega⟩ ?_; conv => whnf) | (refine CallH.lift seat_g cbg ⟨sfirst_cl _ _ _ _, trivial⟩ (Pt.closed _) ?_; conv => whnf) | (refine brNot (brT he ?_); conv => whnf) | (refine brNot (brF he ?_); conv => whnf) | ((first | refine zs (by omega) ?_ | refine zq6 ?_ | refine zs (by dsimp only; omega) ?_ | refine zs (show pendP _ _ by repeat' constructor) ?_ | (with_reducible first | refine brT ‹_› ?_ | refine brF ‹_› ?_ | refine zt (by omega) ?_ | refine zf (by omega) ?_ | refine brNot ?_)); conv => whnf))
                                          · rw [decide_eq_false a3] at hs
                                            have he : True := trivial
                                            rw [if_pos ⟨hP, .inr ⟨hs, fun h => by omega⟩⟩] at hb
                                            clear hs hP
                                            conv => whnf
                                            repeat' (first | (refine ldI _ hld ?_; conv => whnf) | (refine CallH.lift seat_g ci1 ⟨Pt.closed _, trivial⟩ (by simp [Closed]) ?_; conv => whnf) | (refine CallH.lift seat_g ci2 ⟨Pt.closed _, trivial⟩ (by simp [Closed]) ?_; conv => whnf) | (refine CallH.lift seat_g ci3 ⟨Pt.closed _, trivial⟩ (by simp [Closed]) ?_; conv => whnf) | (refine lf seat_g cb1 ?_; conv => whnf) | (refine lf seat_g cb2 ?_; conv => whnf) | (refine lf seat_g cb3 ?_; conv => whnf) | (refine brNot (brT e2 ?_); conv => whnf) | (refine brNot (brF e2 ?_); conv => whnf) | (refine brNot (brT e1 ?_); conv => whnf) | (refine brNot (brF e1 ?_); conv => whnf) | ((first | refine zs (by omega) ?_ | refine zq6 ?_ | refine zs (by dsimp only; omega) ?_ | refine zs (show pendP _ _ by repeat' constructor) ?_ | (with_reducible first | refine brT ‹_› ?_ | refine brF ‹_› ?_ | refine zt (by omega) ?_ | refine zf (by omega) ?_ | refine brNot ?_)); conv => whnf))
                                            refine DrawH.plan seat_ok (.take 0 (.take 1 (.take 2 (.take 3 (.take 4 (.take 5 (.take 6 (.take 7 (.take 8 (.take 9 (.take 10 (.take 11 (.take 12 (.take 13 (.take 14 (.take 15 (.take 16 (.take 17 (.take 18 (.take 19 (.take 20 (.take 21 (.take 22 (.take 23 (.take 24 (.take 25 (.perform 26 none (.take 27 (.take 28 (.take 29 Plan.done)))))))))))))))))))))))))))))) 0 (by kernel_rfl) ?_
                                            conv => whnf
                                            repeat' (first | exact ⟨_, _, Nat.sub_lt_sub_left g (Nat.lt_succ_self _), WeakL.of_eq rfl, _, g, hb, rfl, rfl, rfl⟩ | (refine ldI _ hld ?_; conv => whnf) | (refine CallH.lift seat_g ci1 ⟨Pt.closed _, trivial⟩ (by simp [Closed]) ?_; conv => whnf) | (refine CallH.lift seat_g ci2 ⟨Pt.closed _, trivial⟩ (by simp [Closed]) ?_; conv => whnf) | (refine CallH.lift seat_g ci3 ⟨Pt.closed _, trivial⟩ (by simp [Closed]) ?_; conv => whnf) | (refine lf seat_g cb1 ?_; conv => whnf) | (refine lf seat_g cb2 ?_; conv => whnf) | (refine lf seat_g cb3 ?_; conv => whnf) | (refine brNot (brT e2 ?_); conv => whnf) | (refine brNot (brF e2 ?_); conv => whnf) | (refine brNot (brT e1 ?_); conv => whnf) | (refine brNot (brF e1 ?_); conv => whnf) | (refine ldI _ hly ?_; conv => whnf) | (refine Req.mk ⟨by omega, by omega, by omega, by omega⟩ ?_; conv => whnf) | (refine CallH.lift seat_g cbg ⟨sfirst_cl _ _ _ _, trivial⟩ (Pt.closed _) ?_; conv => whnf) | (refine brNot (brT he ?_); conv => whnf) | (refine brNot (brF he ?_); conv => whnf) | ((first | refine zs (by omega) ?_ | refine zq6 ?_ | refine zs (by dsimp only; omega) ?_ | refine zs (show pendP _ _ by repeat' constructor) ?_ | (with_reducible first | refine brT ‹_› ?_ | refine brF ‹_› ?_ | refine zt (by omega) ?_ | refine zf (by omega) ?_ | refine brNot ?_)); conv => whnf))
                                      · have r5' : x.sweep = true := by simpa using r5
                                        rw [if_neg (fun h => by obtain ⟨⟨hs, h1, h2, h9⟩, -⟩ := h; unfold shape at hs; unfold all9 IB at h9; unfold inP IB at *; first | omega | simp_all | (simp_all; omega))] at hb
                                        clear hsh
                                        conv => whnf
                                        repeat' (first | exact ⟨_, keepT_weak (maskOf 150 [2]) _, .inl ⟨rfl, hb.symm, rfl⟩⟩ | (refine ldI _ hld ?_; conv => whnf) | (refine CallH.lift seat_g ci1 ⟨Pt.closed _, trivial⟩ (by simp [Closed]) ?_; conv => whnf) | (refine CallH.lift seat_g ci2 ⟨Pt.closed _, trivial⟩ (by simp [Closed]) ?_; conv => whnf) | (refine CallH.lift seat_g ci3 ⟨Pt.closed _, trivial⟩ (by simp [Closed]) ?_; conv => whnf) | (refine lf seat_g cb1 ?_; conv => whnf) | (refine lf seat_g cb2 ?_; conv => whnf) | (refine lf seat_g cb3 ?_; conv => whnf) | (refine brNot (brT e2 ?_); conv => whnf) | (refine brNot (brF e2 ?_); conv => whnf) | (refine brNot (brT e1 ?_); conv => whnf) | (refine brNot (brF e1 ?_); conv => whnf) | ((first | refine zs (by omega) ?_ | refine zq6 ?_ | refine zs (by dsimp only; omega) ?_ | refine zs (show pendP _ _ by repeat' constructor) ?_ | (with_reducible first | refine brT ‹_› ?_ | refine brF ‹_› ?_ | refine zt (by omega) ?_ | refine zf (by omega) ?_ | refine brNot ?_)); conv => whnf))
                                    · have r4' : x.large = true := by simpa using r4
                                      rw [if_neg (fun h => by obtain ⟨⟨hs, h1, h2, h9⟩, -⟩ := h; unfold shape at hs; unfold all9 IB at h9; unfold inP IB at *; first | omega | simp_all | (simp_all; omega))] at hb
                                      clear hsh
                                      conv => whnf
                                      repeat' (first | exact ⟨_, keepT_weak (maskOf 150 [2]) _, .inl ⟨rfl, hb.symm, rfl⟩⟩ | (refine ldI _ hld ?_; conv => whnf) | (refine CallH.lift seat_g ci1 ⟨Pt.closed _, trivial⟩ (by simp [Closed]) ?_; conv => whnf) | (refine CallH.lift seat_g ci2 ⟨Pt.closed _, trivial⟩ (by simp [Closed]) ?_; conv => whnf) | (refine CallH.lift seat_g ci3 ⟨Pt.closed _, trivial⟩ (by simp [Closed]) ?_; conv => whnf) | (refine lf seat_g cb1 ?_; conv => whnf) | (refine lf seat_g cb2 ?_; conv => whnf) | (refine lf seat_g cb3 ?_; conv => whnf) | (refine brNot (brT e2 ?_); conv => whnf) | (refine brNot (brF e2 ?_); conv => whnf) | (refine brNot (brT e1 ?_); conv => whnf) | (refine brNot (brF e1 ?_); conv => whnf) | ((first | refine zs (by omega) ?_ | refine zq6 ?_ | refine zs (by dsimp only; omega) ?_ | refine zs (show pendP _ _ by repeat' constructor) ?_ | (with_reducible first | refine brT ‹_› ?_ | refine brF ‹_› ?_ | refine zt (by omega) ?_ | refine zf (by omega) ?_ | refine brNot ?_)); conv => whnf))
                                  · rw [if_neg (fun h => by obtain ⟨⟨hs, h1, h2, h9⟩, -⟩ := h; unfold shape at hs; unfold all9 IB at h9; unfold inP IB at *; first | omega | simp_all | (simp_all; omega))] at hb
                                    clear hsh
                                    conv => whnf
                                    repeat' (first | exact ⟨_, keepT_weak (maskOf 150 [2]) _, .inl ⟨rfl, hb.symm, rfl⟩⟩ | (refine ldI _ hld ?_; conv => whnf) | (refine CallH.lift seat_g ci1 ⟨Pt.closed _, trivial⟩ (by simp [Closed]) ?_; conv => whnf) | (refine CallH.lift seat_g ci2 ⟨Pt.closed _, trivial⟩ (by simp [Closed]) ?_; conv => whnf) | (refine CallH.lift seat_g ci3 ⟨Pt.closed _, trivial⟩ (by simp [Closed]) ?_; conv => whnf) | (refine lf seat_g cb1 ?_; conv => whnf) | (refine lf seat_g cb2 ?_; conv => whnf) | (refine lf seat_g cb3 ?_; conv => whnf) | (refine brNot (brT e2 ?_); conv => whnf) | (refine brNot (brF e2 ?_); conv => whnf) | (refine brNot (brT e1 ?_); conv => whnf) | (refine brNot (brF e1 ?_); conv => whnf) | ((first | refine zs (by omega) ?_ | refine zq6 ?_ | refine zs (by dsimp only; omega) ?_ | refine zs (show pendP _ _ by repeat' constructor) ?_ | (with_reducible first | refine brT ‹_› ?_ | refine brF ‹_› ?_ | refine zt (by omega) ?_ | refine zf (by omega) ?_ | refine brNot ?_)); conv => whnf))
                                · rw [if_neg (fun h => by obtain ⟨⟨hs, h1, h2, h9⟩, -⟩ := h; unfold shape at hs; unfold all9 IB at h9; unfold inP IB at *; first | omega | simp_all | (simp_all; omega))] at hb
                                  clear hsh
                                  conv => whnf
                                  repeat' (first | exact ⟨_, keepT_weak (maskOf 150 [2]) _, .inl ⟨rfl, hb.symm, rfl⟩⟩ | (refine ldI _ hld ?_; conv => whnf) | (refine CallH.lift seat_g ci1 ⟨Pt.closed _, trivial⟩ (by simp [Closed]) ?_; conv => whnf) | (refine CallH.lift seat_g ci2 ⟨Pt.closed _, trivial⟩ (by simp [Closed]) ?_; conv => whnf) | (refine CallH.lift seat_g ci3 ⟨Pt.closed _, trivial⟩ (by simp [Closed]) ?_; conv => whnf) | (refine lf seat_g cb1 ?_; conv => whnf) | (refine lf seat_g cb2 ?_; conv => whnf) | (refine lf seat_g cb3 ?_; conv => whnf) | (refine brNot (brT e2 ?_); conv => whnf) | (refine brNot (brF e2 ?_); conv => whnf) | (refine brNot (brT e1 ?_); conv => whnf) | (refine brNot (brF e1 ?_); conv => whnf) | ((first | refine zs (by omega) ?_ | refine zq6 ?_ | refine zs (by dsimp only; omega) ?_ | refine zs (show pendP _ _ by repeat' constructor) ?_ | (with_reducible first | refine brT ‹_› ?_ | refine brF ‹_› ?_ | refine zt (by omega) ?_ | refine zf (by omega) ?_ | refine brNot ?_)); conv => whnf))
                              · rw [if_neg (fun h => by obtain ⟨⟨hs, h1, h2, h9⟩, -⟩ := h; unfold shape at hs; unfold all9 IB at h9; unfold inP IB at *; first | omega | simp_all | (simp_all; omega))] at hb
                                clear hsh
                                conv => whnf
                                repeat' (first | exact ⟨_, keepT_weak (maskOf 150 [2]) _, .inl ⟨rfl, hb.symm, rfl⟩⟩ | (refine ldI _ hld ?_; conv => whnf) | (refine CallH.lift seat_g ci1 ⟨Pt.closed _, trivial⟩ (by simp [Closed]) ?_; conv => whnf) | (refine CallH.lift seat_g ci2 ⟨Pt.closed _, trivial⟩ (by simp [Closed]) ?_; conv => whnf) | (refine CallH.lift seat_g ci3 ⟨Pt.closed _, trivial⟩ (by simp [Closed]) ?_; conv => whnf) | (refine lf seat_g cb1 ?_; conv => whnf) | (refine lf seat_g cb2 ?_; conv => whnf) | (refine lf seat_g cb3 ?_; conv => whnf) | (refine brNot (brT e2 ?_); conv => whnf) | (refine brNot (brF e2 ?_); conv => whnf) | (refine brNot (brT e1 ?_); conv => whnf) | (refine brNot (brF e1 ?_); conv => whnf) | ((first | refine zs (by omega) ?_ | refine zq6 ?_ | refine zs (by dsimp only; omega) ?_ | refine zs (show pendP _ _ by repeat' constructor) ?_ | (with_reducible first | refine brT ‹_› ?_ | refine brF ‹_› ?_ | refine zt (by omega) ?_ | refine zf (by omega) ?_ | refine brNot ?_)); conv => whnf))
                            · have e2 : (x.c2.x == 0 && (x.c2.y == 0 && true)) = false := by apply Bool.eq_false_iff.2; intro h; exact z2 (by simpa using h)
                              rw [if_neg (fun h => by obtain ⟨⟨hs, h1, h2, h9⟩, -⟩ := h; unfold shape at hs; unfold all9 IB at h9; unfold inP IB at *; first | omega | simp_all | (simp_all; omega))] at hb
                              clear hsh
                              conv => whnf
                              repeat' (first | exact ⟨_, keepT_weak (maskOf 150 [2]) _, .inl ⟨rfl, hb.symm, rfl⟩⟩ | (refine ldI _ hld ?_; conv => whnf) | (refine CallH.lift seat_g ci1 ⟨Pt.closed _, trivial⟩ (by simp [Closed]) ?_; conv => whnf) | (refine CallH.lift seat_g ci2 ⟨Pt.closed _, trivial⟩ (by simp [Closed]) ?_; conv => whnf) | (refine CallH.lift seat_g ci3 ⟨Pt.closed _, trivial⟩ (by simp [Closed]) ?_; conv => whnf) | (refine lf seat_g cb1 ?_; conv => whnf) | (refine lf seat_g cb2 ?_; conv => whnf) | (refine lf seat_g cb3 ?_; conv => whnf) | (refine brNot (brT e2 ?_); conv => whnf) | (refine brNot (brF e2 ?_); conv => whnf) | (refine brNot (brT e1 ?_); conv => whnf) | (refine brNot (brF e1 ?_); conv => whnf) | ((first | refine zs (by omega) ?_ | refine zq6 ?_ | refine zs (by dsimp only; omega) ?_ | refine zs (show pendP _ _ by repeat' constructor) ?_ | (with_reducible first | refine brT ‹_› ?_ | refine brF ‹_› ?_ | refine zt (by omega) ?_ | refine zf (by omega) ?_ | refine brNot ?_)); conv => whnf))
                          · by_cases z2 : x.c2.x = 0 ∧ x.c2.y = 0
                            · have e2 : (x.c2.x == 0 && (x.c2.y == 0 && true)) = true := by simp [z2]
                              by_cases z1 : x.c1.x = 0 ∧ x.c1.y = 0
                              · have e1 : (x.c1.x == 0 && (x.c1.y == 0 && true)) = true := by simp [z1]
                                have hP : plainP x := ⟨.inr (.inr (.inr ⟨hk, z1, z2⟩)), by omega, by omega, ⟨p3.1, p3.2, p4.1⟩, ⟨p4.2, p5.1, p5.2⟩, p6, p7, p8⟩
                                have dum : True := trivial
                                rcases hsh with ⟨h0, hs⟩ | ⟨j, y, rfl, hy, hs⟩
                                · rw [if_neg (fun h => by
                                    rcases h.2 with h | h
                                    · omega
                                    · rw [hs] at h; cases h.1)] at hb
                                  have hly : True := trivial
                                  have he : True := trivial
                                  clear hs hP
                                  conv => whnf
                                  repeat' (first | (refine ldI _ hld ?_; conv => whnf) | (refine CallH.lift seat_g ci1 ⟨Pt.closed _, trivial⟩ (by simp [Closed]) ?_; conv => whnf) | (refine CallH.lift seat_g ci2 ⟨Pt.closed _, trivial⟩ (by simp [Closed]) ?_; conv => whnf) | (refine CallH.lift seat_g ci3 ⟨Pt.closed _, trivial⟩ (by simp [Closed]) ?_; conv => whnf) | (refine lf seat_g cb1 ?_; conv => whnf) | (refine lf seat_g cb2 ?_; conv => whnf) | (refine lf seat_g cb3 ?_; conv => whnf) | (refine brNot (brT e2 ?_); conv => whnf) | (refine brNot (brF e2 ?_); conv => whnf) | (refine brNot (brT e1 ?_); conv => whnf) | (refine brNot (brF e1 ?_); conv => whnf) | ((first | refine zs (by omega) ?_ | refine zq6 ?_ | refine zs (by dsimp only; omega) ?_ | refine zs (show pendP _ _ by repeat' constructor) ?_ | (with_reducible first | refine brT ‹_› ?_ | refine brF ‹_› ?_ | refine zt (by omega) ?_ | refine zf (by omega) ?_ | refine brNot ?_)); conv => whnf))
                                  refine DrawH.plan seat_ok (.take 0 (.take 1 (.take 2 (.take 3 (.take 4 (.take 5 (.take 6 (.take 7 (.take 8 (.take 9 (.take 10 (.take 11 (.take 12 (.take 13 (.take 14 (.take 15 (.take 16 (.take 17 (.take 18 (.take 19 (.take 20 (.take 21 (.take 22 (.take 23 (.take 24 (.take 25 (.perform 26 none (.take 27 (.take 28 (.take 29 Plan.done)))))))))))))))))))))))))))))) 0 (by kernel_rfl) ?_
                                  conv => whnf
                                  repeat' (first | exact ⟨_, keepT_weak (maskOf 150 [2]) _, .inl ⟨rfl, hb.symm, rfl⟩⟩ | (refine ldI _ hld ?_; conv => whnf) | (refine CallH.lift seat_g ci1 ⟨Pt.closed _, trivial⟩ (by simp [Closed]) ?_; conv => whnf) | (refine CallH.lift seat_g ci2 ⟨Pt.closed _, trivial⟩ (by simp [Closed]) ?_; conv => whnf) | (refine CallH.lift seat_g ci3 ⟨Pt.closed _, trivial⟩ (by simp [Closed]) ?_; conv => whnf) | (refine lf seat_g cb1 ?_; conv => whnf) | (refine lf seat_g cb2 ?_; conv => whnf) | (refine lf seat_g cb3 ?_; conv => whnf) | (refine brNot (brT e2 ?_); conv => whnf) | (refine brNot (brF e2 ?_); conv => whnf) | (refine brNot (brT e1 ?_); conv => whnf) | (refine brNot (brF e1 ?_); conv => whnf) | (refine ldI _ hly ?_; conv => whnf) | (refine Req.mk ⟨by omega, by omega, by omega, by omega⟩ ?_; conv => whnf) | (refine CallH.lift seat_g cbg ⟨sfirst_cl _ _ _ _, trivial⟩ (Pt.closed _) ?_; conv => whnf) | (refine brNot (brT he ?_); conv => whnf) | (refine brNot (brF he ?_); conv => whnf) | ((first | refine zs (by omega) ?_ | refine zq6 ?_ | refine zs (by dsimp only; omega) ?_ | refine zs (show pendP _ _ by repeat' constructor) ?_ | (with_reducible first | refine brT ‹_› ?_ | refine brF ‹_› ?_ | refine zt (by omega) ?_ | refine zf (by omega) ?_ | refine brNot ?_)); conv => whnf))
                                · have hly : sub (cs sgC l) ((((j + 1 : Nat) : Int) - 1).toNat * 12) 12 = some (sgC y) := by
                                    rw [show (((j + 1 : Nat) : Int) - 1).toNat = j by omega]; exact cs_sub sgC_len hy
                                  by_cases a3 : y.kind = 6
                                  · rw [if_neg (fun h => by
                                      rcases h.2 with h | h
                                      · omega
                                      · rw [hs, decide_eq_true a3] at h; cases h.1)] at hb
                                    have he : True := trivial
                                    clear hs hP
                                    conv => whnf
                                    repeat' (first | (refine ldI _ hld ?_; conv => whnf) | (refine CallH.lift seat_g ci1 ⟨Pt.closed _, trivial⟩ (by simp [Closed]) ?_; conv => whnf) | (refine CallH.lift seat_g ci2 ⟨Pt.closed _, trivial⟩ (by simp [Closed]) ?_; conv => whnf) | (refine CallH.lift seat_g ci3 ⟨Pt.closed _, trivial⟩ (by simp [Closed]) ?_; conv => whnf) | (refine lf seat_g cb1 ?_; conv => whnf) | (refine lf seat_g cb2 ?_; conv => whnf) | (refine lf seat_g cb3 ?_; conv => whnf) | (refine brNot (brT e2 ?_); conv => whnf) | (refine brNot (brF e2 ?_); conv => whnf) | (refine brNot (brT e1 ?_); conv => whnf) | (refine brNot (brF e1 ?_); conv => whnf) | ((first | refine zs (by omega) ?_ | refine zq6 ?_ | refine zs (by dsimp only; omega) ?_ | refine zs (show pendP _ _ by repeat' constructor) ?_ | (with_reducible first | refine brT ‹_› ?_ | refine brF ‹_› ?_ | refine zt (by omega) ?_ | refine zf (by omega) ?_ | refine brNot ?_)); conv => whnf))
                                    refine DrawH.plan seat_ok (.take 0 (.take 1 (.take 2 (.take 3 (.take 4 (.take 5 (.take 6 (.take 7 (.take 8 (.take 9 (.take 10 (.take 11 (.take 12 (.take 13 (.take 14 (.take 15 (.take 16 (.take 17 (.take 18 (.take 19 (.take 20 (.take 21 (.take 22 (.take 23 (.take 24 (.take 25 (.perform 26 none (.take 27 (.take 28 (.take 29 Plan.done)))))))))))))))))))))))))))))) 0 (by kernel_rfl) ?_
                                    conv => whnf
                                    repeat' (first | exact ⟨_, keepT_weak (maskOf 150 [2]) _, .inl ⟨rfl, hb.symm, rfl⟩⟩ | (refine ldI _ hld ?_; conv => whnf) | (refine CallH.lift seat_g ci1 ⟨Pt.closed _, trivial⟩ (by simp [Closed]) ?_; conv => whnf) | (refine CallH.lift seat_g ci2 ⟨Pt.closed _, trivial⟩ (by simp [Closed]) ?_; conv => whnf) | (refine CallH.lift seat_g ci3 ⟨Pt.closed _, trivial⟩ (by simp [Closed]) ?_; conv => whnf) | (refine lf seat_g cb1 ?_; conv => whnf) | (refine lf seat_g cb2 ?_; conv => whnf) | (refine lf seat_g cb3 ?_; conv => whnf) | (refine brNot (brT e2 ?_); conv => whnf) | (refine brNot (brF e2 ?_); conv => whnf) | (refine brNot (brT e1 ?_); conv => whnf) | (refine brNot (brF e1 ?_); conv => whnf) | (refine ldI _ hly ?_; conv => whnf) | (refine Req.mk ⟨by omega, by omega, by omega, by omega⟩ ?_; conv => whnf) | (refine CallH.lift seat_g cbg ⟨sfirst_cl _ _ _ _, trivial⟩ (Pt.closed _) ?_; conv => whnf) | (refine brNot (brT he ?_); conv => whnf) | (refine brNot (brF he ?_); conv => whnf) | ((first | refine zs (by omega) ?_ | refine zq6 ?_ | refine zs (by dsimp only; omega) ?_ | refine zs (show pendP _ _ by repeat' constructor) ?_ | (with_reducible first | refine brT ‹_› ?_ | refine brF ‹_› ?_ | refine zt (by omega) ?_ | refine zf (by omega) ?_ | refine brNot ?_)); conv => whnf))
                                  · rw [decide_eq_false a3] at hs
                                    have he : True := trivial
                                    rw [if_pos ⟨hP, .inr ⟨hs, fun h => by omega⟩⟩] at hb
                                    clear hs hP
                                    conv => whnf
                                    repeat' (first | (refine ldI _ hld ?_; conv => whnf) | (refine CallH.lift seat_g ci1 ⟨Pt.closed _, trivial⟩ (by simp [Closed]) ?_; conv => whnf) | (refine CallH.lift seat_g ci2 ⟨Pt.closed _, trivial⟩ (by simp [Closed]) ?_; conv => whnf) | (refine CallH.lift seat_g ci3 ⟨Pt.closed _, trivial⟩ (by simp [Closed]) ?_; conv => whnf) | (refine lf seat_g cb1 ?_; conv => whnf) | (refine lf seat_g cb2 ?_; conv => whnf) | (refine lf seat_g cb3 ?_; conv => whnf) | (refine brNot (brT e2 ?_); conv => whnf) | (refine brNot (brF e2 ?_); conv => whnf) | (refine brNot (brT e1 ?_); conv => whnf) | (refine brNot (brF e1 ?_); conv => whnf) | ((first | refine zs (by omega) ?_ | refine zq6 ?_ | refine zs (by dsimp only; omega) ?_ | refine zs (show pendP _ _ by repeat' constructor) ?_ | (with_reducible first | refine brT ‹_› ?_ | refine brF ‹_› ?_ | refine zt (by omega) ?_ | refine zf (by omega) ?_ | refine brNot ?_)); conv => whnf))
                                    refine DrawH.plan seat_ok (.take 0 (.take 1 (.take 2 (.take 3 (.take 4 (.take 5 (.take 6 (.take 7 (.take 8 (.take 9 (.take 10 (.take 11 (.take 12 (.take 13 (.take 14 (.take 15 (.take 16 (.take 17 (.take 18 (.take 19 (.take 20 (.take 21 (.take 22 (.take 23 (.take 24 (.take 25 (.perform 26 none (.take 27 (.take 28 (.take 29 Plan.done)))))))))))))))))))))))))))))) 0 (by kernel_rfl) ?_
                                    conv => whnf
                                    repeat' (first | exact ⟨_, _, Nat.sub_lt_sub_left g (Nat.lt_succ_self _), WeakL.of_eq rfl, _, g, hb, rfl, rfl, rfl⟩ | (refine ldI _ hld ?_; conv => whnf) | (refine CallH.lift seat_g ci1 ⟨Pt.closed _, trivial⟩ (by simp [Closed]) ?_; conv => whnf) | (refine CallH.lift seat_g ci2 ⟨Pt.closed _, trivial⟩ (by simp [Closed]) ?_; conv => whnf) | (refine CallH.lift seat_g ci3 ⟨Pt.closed _, trivial⟩ (by simp [Closed]) ?_; conv => whnf) | (refine lf seat_g cb1 ?_; conv => whnf) | (refine lf seat_g cb2 ?_; conv => whnf) | (refine lf seat_g cb3 ?_; conv => whnf) | (refine brNot (brT e2 ?_); conv => whnf) | (refine brNot (brF e2 ?_); conv => whnf) | (refine brNot (brT e1 ?_); conv => whnf) | (refine brNot (brF e1 ?_); conv => whnf) | (refine ldI _ hly ?_; conv => whnf) | (refine Req.mk ⟨by omega, by omega, by omega, by omega⟩ ?_; conv => whnf) | (refine CallH.lift seat_g cbg ⟨sfirst_cl _ _ _ _, trivial⟩ (Pt.closed _) ?_; conv => whnf) | (refine brNot (brT he ?_); conv => whnf) | (refine brNot (brF he ?_); conv => whnf) | ((first | refine zs (by omega) ?_ | refine zq6 ?_ | refine zs (by dsimp only; omega) ?_ | refine zs (show pendP _ _ by repeat' constructor) ?_ | (with_reducible first | refine brT ‹_› ?_ | refine brF ‹_› ?_ | refine zt (by omega) ?_ | refine zf (by omega) ?_ | refine brNot ?_)); conv => whnf))
                              · have e1 : (x.c1.x == 0 && (x.c1.y == 0 && true)) = false := by apply Bool.eq_false_iff.2; intro h; exact z1 (by simpa using h)
                                rw [if_neg (fun h => by obtain ⟨⟨hs, h1, h2, h9⟩, -⟩ := h; unfold shape at hs; unfold all9 IB at h9; unfold inP IB at *; first | omega | simp_all | (simp_all; omega))] at hb
                                clear hsh
                                conv => whnf
                                repeat' (first | exact ⟨_, keepT_weak (maskOf 150 [2]) _, .inl ⟨rfl, hb.symm, rfl⟩⟩ | (refine ldI _ hld ?_; conv => whnf) | (refine CallH.lift seat_g ci1 ⟨Pt.closed _, trivial⟩ (by simp [Closed]) ?_; conv => whnf) | (refine CallH.lift seat_g ci2 ⟨Pt.closed _, trivial⟩ (by simp [Closed]) ?_; conv => whnf) | (refine CallH.lift seat_g ci3 ⟨Pt.closed _, trivial⟩ (by simp [Closed]) ?_; conv => whnf) | (refine lf seat_g cb1 ?_; conv => whnf) | (refine lf seat_g cb2 ?_; conv => whnf) | (refine lf seat_g cb3 ?_; conv => whnf) | (refine brNot (brT e2 ?_); conv => whnf) | (refine brNot (brF e2 ?_); conv => whnf) | (refine brNot (brT e1 ?_); conv => whnf) | (refine brNot (brF e1 ?_); conv => whnf) | ((first | refine zs (by omega) ?_ | refine zq6 ?_ | refine zs (by dsimp only; omega) ?_ | refine zs (show pendP _ _ by repeat' constructor) ?_ | (with_reducible first | refine brT ‹_› ?_ | refine brF ‹_› ?_ | refine zt (by omega) ?_ | refine zf (by omega) ?_ | refine brNot ?_)); conv => whnf))
                            · have e2 : (x.c2.x == 0 && (x.c2.y == 0 && true)) = false := by apply Bool.eq_false_iff.2; intro h; exact z2 (by simpa using h)
                              rw [if_neg (fun h => by obtain ⟨⟨hs, h1, h2, h9⟩, -⟩ := h; unfold shape at hs; unfold all9 IB at h9; unfold inP IB at *; first | omega | simp_all | (simp_all; omega))] at hb
                              clear hsh
                              conv => whnf
                              repeat' (first | exact ⟨_, keepT_weak (maskOf 150 [2]) _, .inl ⟨rfl, hb.symm, rfl⟩⟩ | (refine ldI _ hld ?_; conv => whnf) | (refine CallH.lift seat_g ci1 ⟨Pt.closed _, trivial⟩ (by simp [Closed]) ?_; conv => whnf) | (refine CallH.lift seat_g ci2 ⟨Pt.closed _, trivial⟩ (by simp [Closed]) ?_; conv => whnf) | (refine CallH.lift seat_g ci3 ⟨Pt.closed _, trivial⟩ (by simp [Closed]) ?_; conv => whnf) | (refine lf seat_g cb1 ?_; conv => whnf) | (refine lf seat_g cb2 ?_; conv => whnf) | (refine lf seat_g cb3 ?_; conv => whnf) | (refine brNot (brT e2 ?_); conv => whnf) | (refine brNot (brF e2 ?_); conv => whnf) | (refine brNot (brT e1 ?_); conv => whnf) | (refine brNot (brF e1 ?_); conv => whnf) | ((first | refine zs (by omega) ?_ | refine zq6 ?_ | refine zs (by dsimp only; omega) ?_ | refine zs (show pendP _ _ by repeat' constructor) ?_ | (with_reducible first | refine brT ‹_› ?_ | refine brF ‹_› ?_ | refine zt (by omega) ?_ | refine zf (by omega) ?_ | refine brNot ?_)); conv => whnf))
                          · by_cases z2 : x.c2.x = 0 ∧ x.c2.y = 0
                            · have e2 : (x.c2.x == 0 && (x.c2.y == 0 && true)) = true := by simp [z2]
                              by_cases z1 : x.c1.x = 0 ∧ x.c1.y = 0
                              · have e1 : (x.c1.x == 0 && (x.c1.y == 0 && true)) = true := by simp [z1]
                                by_cases r1 : x.rx = 0
                                · by_cases r2 : x.ry = 0
                                  · by_cases r3 : x.turn = 0
                                    · by_cases r4 : x.large = false
                                      · by_cases r5 : x.sweep = false
                                        · have hP : plainP x := ⟨.inl ⟨by omega, z1, z2, ⟨r1, r2, r3⟩, r4, r5⟩, by omega, by omega, ⟨p3.1, p3.2, p4.1⟩, ⟨p4.2, p5.1, p5.2⟩, p6, p7, p8⟩
                                          have dum : True := trivial
                                          by_cases a2 : x.kind = 1
                                          · rw [if_pos ⟨hP, .inl a2⟩] at hb
                                            have hly : True := trivial
                                            have he : True := trivial
                                            clear hsh hP
                                            conv => whnf
                                            repeat' (first | (refine ldI _ hld ?_; conv => whnf) | (refine CallH.lift seat_g ci1 ⟨Pt.closed _, trivial⟩ (by simp [Closed]) ?_; conv => whnf) | (refine CallH.lift seat_g ci2 ⟨Pt.closed _, trivial⟩ (by simp [Closed]) ?_; conv => whnf) | (refine CallH.lift seat_g ci3 ⟨Pt.closed _, trivial⟩ (by simp [Closed]) ?_; conv => whnf) | (refine lf seat_g cb1 ?_; conv => whnf) | (refine lf seat_g cb2 ?_; conv => whnf) | (refine lf seat_g cb3 ?_; conv => whnf) | (refine brNot (brT e2 ?_); conv => whnf) | (refine brNot (brF e2 ?_); conv => whnf) | (refine brNot (brT e1 ?_); conv => whnf) | (refine brNot (brF e1 ?_); conv => whnf) | ((first | refine zs (by omega) ?_ | refine zq6 ?_ | refine zs (by dsimp only; omega) ?_ | refine zs (show pendP _ _ by repeat' constructor) ?_ | (with_reducible first | refine brT ‹_› ?_ | refine brF ‹_› ?_ | refine zt (by omega) ?_ | refine zf (by omega) ?_ | refine brNot ?_)); conv => whnf))
                                            refine DrawH.plan seat_ok (.take 0 (.take 1 (.take 2 (.take 3 (.take 4 (.take 5 (.take 6 (.take 7 (.take 8 (.take 9 (.take 10 (.take 11 (.take 12 (.take 13 (.take 14 (.take 15 (.take 16 (.take 17 (.take 18 (.take 19 (.take 20 (.take 21 (.take 22 (.take 23 (.take 24 (.take 25 (.perform 26 none (.take 27 (.take 28 (.take 29 Plan.done)))))))))))))))))))))))))))))) 0 (by kernel_rfl) ?_
                                            conv => whnf
                                            repeat' (first | exact ⟨_, _, Nat.sub_lt_sub_left g (Nat.lt_succ_self _), WeakL.of_eq rfl, _, g, hb, rfl, rfl, rfl⟩ | (refine ldI _ hld ?_; conv => whnf) | (refine CallH.lift seat_g ci1 ⟨Pt.closed _, trivial⟩ (by simp [Closed]) ?_; conv => whnf) | (refine CallH.lift seat_g ci2 ⟨Pt.closed _, trivial⟩ (by simp [Closed]) ?_; conv => whnf) | (refine CallH.lift seat_g ci3 ⟨Pt.closed _, trivial⟩ (by simp [Closed]) ?_; conv => whnf) | (refine lf seat_g cb1 ?_; conv => whnf) | (refine lf seat_g cb2 ?_; conv => whnf) | (refine lf seat_g cb3 ?_; conv => whnf) | (refine brNot (brT e2 ?_); conv => whnf) | (refine brNot (brF e2 ?_); conv => whnf) | (refine brNot (brT e1 ?_); conv => whnf) | (refine brNot (brF e1 ?_); conv => whnf) | (refine ldI _ hly ?_; conv => whnf) | (refine Req.mk ⟨by omega, by omega, by omega, by omega⟩ ?_; conv => whnf) | (refine CallH.lift seat_g cbg ⟨sfirst_cl _ _ _ _, trivial⟩ (Pt.closed _) ?_; conv => whnf) | (refine brNot (brT he ?_); conv => whnf) | (refine brNot (brF he ?_); conv => whnf) | ((first | refine zs (by omega) ?_ | refine zq6 ?_ | refine zs (by dsimp only; omega) ?_ | refine zs (show pendP _ _ by repeat' constructor) ?_ | (with_reducible first | refine brT ‹_› ?_ | refine brF ‹_› ?_ | refine zt (by omega) ?_ | refine zf (by omega) ?_ | refine brNot ?_)); conv => whnf))
                                          · rcases hsh with ⟨h0, hs⟩ | ⟨j, y, rfl, hy, hs⟩
                                            · rw [if_neg (fun h => by
                                                rcases h.2 with h | h
                                                · omega
                                                · rw [hs] at h; cases h.1)] at hb
                                              have hly : True := trivial
                                              have he : True := trivial
                                              clear hs hP
                                              conv => whnf
                                              repeat' (first | (refine ldI _ hld ?_; conv => whnf) | (refine CallH.lift seat_g ci1 ⟨Pt.closed _, trivial⟩ (by simp [Closed]) ?_; conv => whnf) | (refine CallH.lift seat_g ci2 ⟨Pt.closed _, trivial⟩ (by simp [Closed]) ?_; conv => whnf) | (refine CallH.lift seat_g ci3 ⟨Pt.closed _, trivial⟩ (by simp [Closed]) ?_; conv => whnf) | (refine lf seat_g cb1 ?_; conv => whnf) | (refine lf seat_g cb2 ?_; conv => whnf) | (refine lf seat_g cb3 ?_; conv => whnf) | (refine brNot (brT e2 ?_); conv => whnf) | (refine brNot (brF e2 ?_); conv => whnf) | (refine brNot (brT e1 ?_); conv => whnf) | (refine brNot (brF e1 ?_); conv => whnf) | ((first | refine zs (by omega) ?_ | refine zq6 ?_ | refine zs (by dsimp only; omega) ?_ | refine zs (show pendP _ _ by repeat' constructor) ?_ | (with_reducible first | refine brT ‹_› ?_ | refine brF ‹_› ?_ | refine zt (by omega) ?_ | refine zf (by omega) ?_ | refine brNot ?_)); conv => whnf))
                                              refine DrawH.plan seat_ok (.take 0 (.take 1 (.take 2 (.take 3 (.take 4 (.take 5 (.take 6 (.take 7 (.take 8 (.take 9 (.take 10 (.take 11 (.take 12 (.take 13 (.take 14 (.take 15 (.take 16 (.take 17 (.take 18 (.take 19 (.take 20 (.take 21 (.take 22 (.take 23 (.take 24 (.take 25 (.perform 26 none (.take 27 (.take 28 (.take 29 Plan.done)))))))))))))))))))))))))))))) 0 (by kernel_rfl) ?_
                                              conv => whnf
                                              repeat' (first | exact ⟨_, keepT_weak (maskOf 150 [2]) _, .inl ⟨rfl, hb.symm, rfl⟩⟩ | (refine ldI _ hld ?_; conv => whnf) | (refine CallH.lift seat_g ci1 ⟨Pt.closed _, trivial⟩ (by simp [Closed]) ?_; conv => whnf) | (refine CallH.lift seat_g ci2 ⟨Pt.closed _, trivial⟩ (by simp [Closed]) ?_; conv => whnf) | (refine CallH.lift seat_g ci3 ⟨Pt.closed _, trivial⟩ (by simp [Closed]) ?_; conv => whnf) | (refine lf seat_g cb1 ?_; conv => whnf) | (refine lf seat_g cb2 ?_; conv => whnf) | (refine lf seat_g cb3 ?_; conv => whnf) | (refine brNot (brT e2 ?_); conv => whnf) | (refine brNot (brF e2 ?_); conv => whnf) | (refine brNot (brT e1 ?_); conv => whnf) | (refine brNot (brF e1 ?_); conv => whnf) | (refine ldI _ hly ?_; conv => whnf) | (refine Req.mk ⟨by omega, by omega, by omega, by omega⟩ ?_; conv => whnf) | (refine CallH.lift seat_g cbg ⟨sfirst_cl _ _ _ _, trivial⟩ (Pt.closed _) ?_; conv => whnf) | (refine brNot (brT he ?_); conv => whnf) | (refine brNot (brF he ?_); conv => whnf) | ((first | refine zs (by omega) ?_ | refine zq6 ?_ | refine zs (by dsimp only; omega) ?_ | refine zs (show pendP _ _ by repeat' constructor) ?_ | (with_reducible first | refine brT ‹_› ?_ | refine brF ‹_› ?_ | refine zt (by omega) ?_ | refine zf (by omega) ?_ | refine brNot ?_)); conv => whnf))
                                            · have hly : sub (cs sgC l) ((((j + 1 : Nat) : Int) - 1).toNat * 12) 12 = some (sgC y) := by
                                                rw [show (((j + 1 : Nat) : Int) - 1).toNat = j by omega]; exact cs_sub sgC_len hy
                                              by_cases a3 : y.kind = 6
                                              · rw [if_neg (fun h => by
                                                  rcases h.2 with h | h
                                                  · omega
                                                  · rw [hs, decide_eq_true a3] at h; cases h.1)] at hb
                                                have he : True := trivial
                                                clear hs hP
                                                conv => whnf
                                                repeat' (first | (refine ldI _ hld ?_; conv => whnf) | (refine CallH.lift seat_g ci1 ⟨Pt.closed _, trivial⟩ (by simp [Closed]) ?_; conv => whnf) | (refine CallH.lift seat_g ci2 ⟨Pt.closed _, trivial⟩ (by simp [Closed]) ?_; conv => whnf) | (refine CallH.lift seat_g ci3 ⟨Pt.closed _, trivial⟩ (by simp [Closed]) ?_; conv => whnf) | (refine lf seat_g cb1 ?_; conv => whnf) | (refine lf seat_g cb2 ?_; conv => whnf) | (refine lf seat_g cb3 ?_; conv => whnf) | (refine brNot (brT e2 ?_); conv => whnf) | (refine brNot (brF e2 ?_); conv => whnf) | (refine brNot (brT e1 ?_); conv => whnf) | (refine brNot (brF e1 ?_); conv => whnf) | ((first | refine zs (by omega) ?_ | refine zq6 ?_ | refine zs (by dsimp only; omega) ?_ | refine zs (show pendP _ _ by repeat' constructor) ?_ | (with_reducible first | refine brT ‹_› ?_ | refine brF ‹_› ?_ | refine zt (by omega) ?_ | refine zf (by omega) ?_ | refine brNot ?_)); conv => whnf))
                                                refine DrawH.plan seat_ok (.take 0 (.take 1 (.take 2 (.take 3 (.take 4 (.take 5 (.take 6 (.take 7 (.take 8 (.take 9 (.take 10 (.take 11 (.take 12 (.take 13 (.take 14 (.take 15 (.take 16 (.take 17 (.take 18 (.take 19 (.take 20 (.take 21 (.take 22 (.take 23 (.take 24 (.take 25 (.perform 26 none (.take 27 (.take 28 (.take 29 Plan.done)))))))))))))))))))))))))))))) 0 (by kernel_rfl) ?_
                                                conv => whnf
                                                repeat' (first | exact ⟨_, keepT_weak (maskOf 150 [2]) _, .inl ⟨rfl, hb.symm, rfl⟩⟩ | (refine ldI _ hld ?_; conv => whnf) | (refine CallH.lift seat_g ci1 ⟨Pt.closed _, trivial⟩ (by simp [Closed]) ?_; conv => whnf) | (refine CallH.lift seat_g ci2 ⟨Pt.closed _, trivial⟩ (by simp [Closed]) ?_; conv => whnf) | (refine CallH.lift seat_g ci3 ⟨Pt.closed _, trivial⟩ (by simp [Closed]) ?_; conv => whnf) | (refine lf seat_g cb1 ?_; conv => whnf) | (refine lf seat_g cb2 ?_; conv => whnf) | (refine lf seat_g cb3 ?_; conv => whnf) | (refine brNot (brT e2 ?_); conv => whnf) | (refine brNot (brF e2 ?_); conv => whnf) | (refine brNot (brT e1 ?_); conv => whnf) | (refine brNot (brF e1 ?_); conv => whnf) | (refine ldI _ hly ?_; conv => whnf) | (refine Req.mk ⟨by omega, by omega, by omega, by omega⟩ ?_; conv => whnf) | (refine CallH.lift seat_g cbg ⟨sfirst_cl _ _ _ _, trivial⟩ (Pt.closed _) ?_; conv => whnf) | (refine brNot (brT he ?_); conv => whnf) | (refine brNot (brF he ?_); conv => whnf) | ((first | refine zs (by omega) ?_ | refine zq6 ?_ | refine zs (by dsimp only; omega) ?_ | refine zs (show pendP _ _ by repeat' constructor) ?_ | (with_reducible first | refine brT ‹_› ?_ | refine brF ‹_› ?_ | refine zt (by omega) ?_ | refine zf (by omega) ?_ | refine brNot ?_)); conv => whnf))
                                              · rw [decide_eq_false a3] at hs
                                                by_cases a6 : x.kind = 6
                                                · by_cases a7 : x.to.x = B.x ∧ x.to.y = B.y
                                                  · have he : (x.to.x == B.x && (x.to.y == B.y && true)) = true := by simp [a7]
                                                    rw [if_pos ⟨hP, .inr ⟨hs, fun _ => by rw [hB]; exact a7⟩⟩] at hb
                                                    clear hs hP
                                                    conv => whnf
                                                    repeat' (first | (refine ldI _ hld ?_; conv => whnf) | (refine CallH.lift seat_g ci1 ⟨Pt.closed _, trivial⟩ (by simp [Closed]) ?_; conv => whnf) | (refine CallH.lift seat_g ci2 ⟨Pt.closed _, trivial⟩ (by simp [Closed]) ?_; conv => whnf) | (refine CallH.lift seat_g ci3 ⟨Pt.closed _, trivial⟩ (by simp [Closed]) ?_; conv => whnf) | (refine lf seat_g cb1 ?_; conv => whnf) | (refine lf seat_g cb2 ?_; conv => whnf) | (refine lf seat_g cb3 ?_; conv => whnf) | (refine brNot (brT e2 ?_); conv => whnf) | (refine brNot (brF e2 ?_); conv => whnf) | (refine brNot (brT e1 ?_); conv => whnf) | (refine brNot (brF e1 ?_); conv => whnf) | ((first | refine zs (by omega) ?_ | refine zq6 ?_ | refine zs (by dsimp only; omega) ?_ | refine zs (show pendP _ _ by repeat' constructor) ?_ | (with_reducible first | refine brT ‹_› ?_ | refine brF ‹_› ?_ | refine zt (by omega) ?_ | refine zf (by omega) ?_ | refine brNot ?_)); conv => whnf))
                                                    refine DrawH.plan seat_ok (.take 0 (.take 1 (.take 2 (.take 3 (.take 4 (.take 5 (.take 6 (.take 7 (.take 8 (.take 9 (.take 10 (.take 11 (.take 12 (.take 13 (.take 14 (.take 15 (.take 16 (.take 17 (.take 18 (.take 19 (.take 20 (.take 21 (.take 22 (.take 23 (.take 24 (.take 25 (.perform 26 none (.take 27 (.take 28 (.take 29 Plan.done)))))))))))))))))))))))))))))) 0 (by kernel_rfl) ?_
                                                    conv => whnf
                                                    repeat' (first | exact ⟨_, _, Nat.sub_lt_sub_left g (Nat.lt_succ_self _), WeakL.of_eq rfl, _, g, hb, rfl, rfl, rfl⟩ | (refine ldI _ hld ?_; conv => whnf) | (refine CallH.lift seat_g ci1 ⟨Pt.closed _, trivial⟩ (by simp [Closed]) ?_; conv => whnf) | (refine CallH.lift seat_g ci2 ⟨Pt.closed _, trivial⟩ (by simp [Closed]) ?_; conv => whnf) | (refine CallH.lift seat_g ci3 ⟨Pt.closed _, trivial⟩ (by simp [Closed]) ?_; conv => whnf) | (refine lf seat_g cb1 ?_; conv => whnf) | (refine lf seat_g cb2 ?_; conv => whnf) | (refine lf seat_g cb3 ?_; conv => whnf) | (refine brNot (brT e2 ?_); conv => whnf) | (refine brNot (brF e2 ?_); conv => whnf) | (refine brNot (brT e1 ?_); conv => whnf) | (refine brNot (brF e1 ?_); conv => whnf) | (refine ldI _ hly ?_; conv => whnf) | (refine Req.mk ⟨by omega, by omega, by omega, by omega⟩ ?_; conv => whnf) | (refine CallH.lift seat_g cbg ⟨sfirst_cl _ _ _ _, trivial⟩ (Pt.closed _) ?_; conv => whnf) | (refine brNot (brT he ?_); conv => whnf) | (refine brNot (brF he ?_); conv => whnf) | ((first | refine zs (by omega) ?_ | refine zq6 ?_ | refine zs (by dsimp only; omega) ?_ | refine zs (show pendP _ _ by repeat' constructor) ?_ | (with_reducible first | refine brT ‹_› ?_ | refine brF ‹_› ?_ | refine zt (by omega) ?_ | refine zf (by omega) ?_ | refine brNot ?_)); conv => whnf))
                                                  · have he : (x.to.x == B.x && (x.to.y == B.y && true)) = false := by apply Bool.eq_false_iff.2; intro h; exact a7 (by simpa using h)
                                                    rw [if_neg (fun h => by
                                                      rcases h.2 with h | h
                                                      · omega
                                                      · rw [hB] at h; exact a7 (h.2 a6))] at hb
                                                    clear hs hP
                                                    conv => whnf
                                                    repeat' (first | (refine ldI _ hld ?_; conv => whnf) | (refine CallH.lift seat_g ci1 ⟨Pt.closed _, trivial⟩ (by simp [Closed]) ?_; conv => whnf) | (refine CallH.lift seat_g ci2 ⟨Pt.closed _, trivial⟩ (by simp [Closed]) ?_; conv => whnf) | (refine CallH.lift seat_g ci3 ⟨Pt.closed _, trivial⟩ (by simp [Closed]) ?_; conv => whnf) | (refine lf seat_g cb1 ?_; conv => whnf) | (refine lf seat_g cb2 ?_; conv => whnf) | (refine lf seat_g cb3 ?_; conv => whnf) | (refine brNot (brT e2 ?_); conv => whnf) | (refine brNot (brF e2 ?_); conv => whnf) | (refine brNot (brT e1 ?_); conv => whnf) | (refine brNot (brF e1 ?_); conv => whnf) | ((first | refine zs (by omega) ?_ | refine zq6 ?_ | refine zs (by dsimp only; omega) ?_ | refine zs (show pendP _ _ by repeat' constructor) ?_ | (with_reducible first | refine brT ‹_› ?_ | refine brF ‹_› ?_ | refine zt (by omega) ?_ | refine zf (by omega) ?_ | refine brNot ?_)); conv => whnf))
                                                    refine DrawH.plan seat_ok (.take 0 (.take 1 (.take 2 (.take 3 (.take 4 (.take 5 (.take 6 (.take 7 (.take 8 (.take 9 (.take 10 (.take 11 (.take 12 (.take 13 (.take 14 (.take 15 (.take 16 (.take 17 (.take 18 (.take 19 (.take 20 (.take 21 (.take 22 (.take 23 (.take 24 (.take 25 (.perform 26 none (.take 27 (.take 28 (.take 29 Plan.done)))))))))))))))))))))))))))))) 0 (by kernel_rfl) ?_
                                                    conv => whnf
                                                    repeat' (first | exact ⟨_, keepT_weak (maskOf 150 [2]) _, .inl ⟨rfl, hb.symm, rfl⟩⟩ | (refine ldI _ hld ?_; conv => whnf) | (refine CallH.lift seat_g ci1 ⟨Pt.closed _, trivial⟩ (by simp [Closed]) ?_; conv => whnf) | (refine CallH.lift seat_g ci2 ⟨Pt.closed _, trivial⟩ (by simp [Closed]) ?_; conv => whnf) | (refine CallH.lift seat_g ci3 ⟨Pt.closed _, trivial⟩ (by simp [Closed]) ?_; conv => whnf) | (refine lf seat_g cb1 ?_; conv => whnf) | (refine lf seat_g cb2 ?_; conv => whnf) | (refine lf seat_g cb3 ?_; conv => whnf) | (refine brNot (brT e2 ?_); conv => whnf) | (refine brNot (brF e2 ?_); conv => whnf) | (refine brNot (brT e1 ?_); conv => whnf) | (refine brNot (brF e1 ?_); conv => whnf) | (refine ldI _ hly ?_; conv => whnf) | (refine Req.mk ⟨by omega, by omega, by omega, by omega⟩ ?_; conv => whnf) | (refine CallH.lift seat_g cbg ⟨sfirst_cl _ _ _ _, trivial⟩ (Pt.closed _) ?_; conv => whnf) | (refine brNot (brT he ?_); conv => whnf) | (refine brNot (brF he ?_); conv => whnf) | ((first | refine zs (by omega) ?_ | refine zq6 ?_ | refine zs (by dsimp only; omega) ?_ | refine zs (show pendP _ _ by repeat' constructor) ?_ | (with_reducible first | refine brT ‹_› ?_ | refine brF ‹_› ?_ | refine zt (by omega) ?_ | refine zf (by omega) ?_ | refine brNot ?_)); conv => whnf))
                                                · have he : True := trivial
                                                  rw [if_pos ⟨hP, .inr ⟨hs, fun h => absurd h a6⟩⟩] at hb
                                                  clear hs hP
                                                  conv => whnf
                                                  repeat' (first | (refine ldI _ hld ?_; conv => whnf) | (refine CallH.lift seat_g ci1 ⟨Pt.closed _, trivial⟩ (by simp [Closed]) ?_; conv => whnf) | (refine CallH.lift seat_g ci2 ⟨Pt.closed _, trivial⟩ (by simp [Closed]) ?_; conv => whnf) | (refine CallH.lift seat_g ci3 ⟨Pt.closed _, trivial⟩ (by simp [Closed]) ?_; conv => whnf) | (refine lf seat_g cb1 ?_; conv => whnf) | (refine lf seat_g cb2 ?_; conv => whnf) | (refine lf seat_g cb3 ?_; conv => whnf) | (refine brNot (brT e2 ?_); conv => whnf) | (refine brNot (brF e2 ?_); conv => whnf) | (refine brNot (brT e1 ?_); conv => whnf) | (refine brNot (brF e1 ?_); conv => whnf) | ((first | refine zs (by omega) ?_ | refine zq6 ?_ | refine zs (by dsimp only; omega) ?_ | refine zs (show pendP _ _ by repeat' constructor) ?_ | (with_reducible first | refine brT ‹_› ?_ | refine brF ‹_› ?_ | refine zt (by omega) ?_ | refine zf (by omega) ?_ | refine brNot ?_)); conv => whnf))
                                                  refine DrawH.plan seat_ok (.take 0 (.take 1 (.take 2 (.take 3 (.take 4 (.take 5 (.take 6 (.take 7 (.take 8 (.take 9 (.take 10 (.take 11 (.take 12 (.take 13 (.take 14 (.take 15 (.take 16 (.take 17 (.take 18 (.take 19 (.take 20 (.take 21 (.take 22 (.take 23 (.take 24 (.take 25 (.perform 26 none (.take 27 (.take 28 (.take 29 Plan.done)))))))))))))))))))))))))))))) 0 (by kernel_rfl) ?_
                                                  conv => whnf
                                                  repeat' (first | exact ⟨_, _, Nat.sub_lt_sub_left g (Nat.lt_succ_self _), WeakL.of_eq rfl, _, g, hb, rfl, rfl, rfl⟩ | (refine ldI _ hld ?_; conv => whnf) | (refine CallH.lift seat_g ci1 ⟨Pt.closed _, trivial⟩ (by simp [Closed]) ?_; conv => whnf) | (refine CallH.lift seat_g ci2 ⟨Pt.closed _, trivial⟩ (by simp [Closed]) ?_; conv => whnf) | (refine CallH.lift seat_g ci3 ⟨Pt.closed _, trivial⟩ (by simp [Closed]) ?_; conv => whnf) | (refine lf seat_g cb1 ?_; conv => whnf) | (refine lf seat_g cb2 ?_; conv => whnf) | (refine lf seat_g cb3 ?_; conv => whnf) | (refine brNot (brT e2 ?_); conv => whnf) | (refine brNot (brF e2 ?_); conv => whnf) | (refine brNot (brT e1 ?_); conv => whnf) | (refine brNot (brF e1 ?_); conv => whnf) | (refine ldI _ hly ?_; conv => whnf) | (refine Req.mk ⟨by omega, by omega, by omega, by omega⟩ ?_; conv => whnf) | (refine CallH.lift seat_g cbg ⟨sfirst_cl _ _ _ _, trivial⟩ (Pt.closed _) ?_; conv => whnf) | (refine brNot (brT he ?_); conv => whnf) | (refine brNot (brF he ?_); conv => whnf) | ((first | refine zs (by omega) ?_ | refine zq6 ?_ | refine zs (by dsimp only; omega) ?_ | refine zs (show pendP _ _ by repeat' constructor) ?_ | (with_reducible first | refine brT ‹_› ?_ | refine brF ‹_› ?_ | refine zt (by omega) ?_ | refine zf (by omega) ?_ | refine brNot ?_)); conv => whnf))
                                        · have r5' : x.sweep = true := by simpa using r5
                                          rw [if_neg (fun h => by obtain ⟨⟨hs, h1, h2, h9⟩, -⟩ := h; unfold shape at hs; unfold all9 IB at h9; unfold inP IB at *; first | omega | simp_all | (simp_all; omega))] at hb
                                          clear hsh
                                          conv => whnf
                                          repeat' (first | exact ⟨_, keepT_weak (maskOf 150 [2]) _, .inl ⟨rfl, hb.symm, rfl⟩⟩ | (refine ldI _ hld ?_; conv => whnf) | (refine CallH.lift seat_g ci1 ⟨Pt.closed _, trivial⟩ (by simp [Closed]) ?_; conv => whnf) | (refine CallH.lift seat_g ci2 ⟨Pt.closed _, trivial⟩ (by simp [Closed]) ?_; conv => whnf) | (refine CallH.lift seat_g ci3 ⟨Pt.closed _, trivial⟩ (by simp [Closed]) ?_; conv => whnf) | (refine lf seat_g cb1 ?_; conv => whnf) | (refine lf seat_g cb2 ?_; conv => whnf) | (refine lf seat_g cb3 ?_; conv => whnf) | (refine brNot (brT e2 ?_); conv => whnf) | (refine brNot (brF e2 ?_); conv => whnf) | (refine brNot (brT e1 ?_); conv => whnf) | (refine brNot (brF e1 ?_); conv => whnf) | ((first | refine zs (by omega) ?_ | refine zq6 ?_ | refine zs (by dsimp only; omega) ?_ | refine zs (show pendP _ _ by repeat' constructor) ?_ | (with_reducible first | refine brT ‹_› ?_ | refine brF ‹_› ?_ | refine zt (by omega) ?_ | refine zf (by omega) ?_ | refine brNot ?_)); conv => whnf))
                                      · have r4' : x.large = true := by simpa using r4
                                        rw [if_neg (fun h => by obtain ⟨⟨hs, h1, h2, h9⟩, -⟩ := h; unfold shape at hs; unfold all9 IB at h9; unfold inP IB at *; first | omega | simp_all | (simp_all; omega))] at hb
                                        clear hsh
                                        conv => whnf
                                        repeat' (first | exact ⟨_, keepT_weak (maskOf 150 [2]) _, .inl ⟨rfl, hb.symm, rfl⟩⟩ | (refine ldI _ hld ?_; conv => whnf) | (refine CallH.lift seat_g ci1 ⟨Pt.closed _, trivial⟩ (by simp [Closed]) ?_; conv => whnf) | (refine CallH.lift seat_g ci2 ⟨Pt.closed _, trivial⟩ (by simp [Closed]) ?_; conv => whnf) | (refine CallH.lift seat_g ci3 ⟨Pt.closed _, trivial⟩ (by simp [Closed]) ?_; conv => whnf) | (refine lf seat_g cb1 ?_; conv => whnf) | (refine lf seat_g cb2 ?_; conv => whnf) | (refine lf seat_g cb3 ?_; conv => whnf) | (refine brNot (brT e2 ?_); conv => whnf) | (refine brNot (brF e2 ?_); conv => whnf) | (refine brNot (brT e1 ?_); conv => whnf) | (refine brNot (brF e1 ?_); conv => whnf) | ((first | refine zs (by omega) ?_ | refine zq6 ?_ | refine zs (by dsimp only; omega) ?_ | refine zs (show pendP _ _ by repeat' constructor) ?_ | (with_reducible first | refine brT ‹_› ?_ | refine brF ‹_› ?_ | refine zt (by omega) ?_ | refine zf (by omega) ?_ | refine brNot ?_)); conv => whnf))
                                    · rw [if_neg (fun h => by obtain ⟨⟨hs, h1, h2, h9⟩, -⟩ := h; unfold shape at hs; unfold all9 IB at h9; unfold inP IB at *; first | omega | simp_all | (simp_all; omega))] at hb
                                      clear hsh
                                      conv => whnf
                                      repeat' (first | exact ⟨_, keepT_weak (maskOf 150 [2]) _, .inl ⟨rfl, hb.symm, rfl⟩⟩ | (refine ldI _ hld ?_; conv => whnf) | (refine CallH.lift seat_g ci1 ⟨Pt.closed _, trivial⟩ (by simp [Closed]) ?_; conv => whnf) | (refine CallH.lift seat_g ci2 ⟨Pt.closed _, trivial⟩ (by simp [Closed]) ?_; conv => whnf) | (refine CallH.lift seat_g ci3 ⟨Pt.closed _, trivial⟩ (by simp [Closed]) ?_; conv => whnf) | (refine lf seat_g cb1 ?_; conv => whnf) | (refine lf seat_g cb2 ?_; conv => whnf) | (refine lf seat_g cb3 ?_; conv => whnf) | (refine brNot (brT e2 ?_); conv => whnf) | (refine brNot (brF e2 ?_); conv => whnf) | (refine brNot (brT e1 ?_); conv => whnf) | (refine brNot (brF e1 ?_); conv => whnf) | ((first | refine zs (by omega) ?_ | refine zq6 ?_ | refine zs (by dsimp only; omega) ?_ | refine zs (show pendP _ _ by repeat' constructor) ?_ | (with_reducible first | refine brT ‹_› ?_ | refine brF ‹_› ?_ | refine zt (by omega) ?_ | refine zf (by omega) ?_ | refine brNot ?_)); conv => whnf))
                                  · rw [if_neg (fun h => by obtain ⟨⟨hs, h1, h2, h9⟩, -⟩ := h; unfold shape at hs; unfold all9 IB at h9; unfold inP IB at *; first | omega | simp_all | (simp_all; omega))] at hb
                                    clear hsh
                                    conv => whnf
                                    repeat' (first | exact ⟨_, keepT_weak (maskOf 150 [2]) _, .inl ⟨rfl, hb.symm, rfl⟩⟩ | (refine ldI _ hld ?_; conv => whnf) | (refine CallH.lift seat_g ci1 ⟨Pt.closed _, trivial⟩ (by simp [Closed]) ?_; conv => whnf) | (refine CallH.lift seat_g ci2 ⟨Pt.closed _, trivial⟩ (by simp [Closed]) ?_; conv => whnf) | (refine CallH.lift seat_g ci3 ⟨Pt.closed _, trivial⟩ (by simp [Closed]) ?_; conv => whnf) | (refine lf seat_g cb1 ?_; conv => whnf) | (refine lf seat_g cb2 ?_; conv => whnf) | (refine lf seat_g cb3 ?_; conv => whnf) | (refine brNot (brT e2 ?_); conv => whnf) | (refine brNot (brF e2 ?_); conv => whnf) | (refine brNot (brT e1 ?_); conv => whnf) | (refine brNot (brF e1 ?_); conv => whnf) | ((first | refine zs (by omega) ?_ | refine zq6 ?_ | refine zs (by dsimp only; omega) ?_ | refine zs (show pendP _ _ by repeat' constructor) ?_ | (with_reducible first | refine brT ‹_› ?_ | refine brF ‹_› ?_ | refine zt (by omega) ?_ | refine zf (by omega) ?_ | refine brNot ?_)); conv => whnf))
                                · rw [if_neg (fun h => by obtain ⟨⟨hs, h1, h2, h9⟩, -⟩ := h; unfold shape at hs; unfold all9 IB at h9; unfold inP IB at *; first | omega | simp_all | (simp_all; omega))] at hb
                                  clear hsh
                                  conv => whnf
                                  repeat' (first | exact ⟨_, keepT_weak (maskOf 150 [2]) _, .inl ⟨rfl, hb.symm, rfl⟩⟩ | (refine ldI _ hld ?_; conv => whnf) | (refine CallH.lift seat_g ci1 ⟨Pt.closed _, trivial⟩ (by simp [Closed]) ?_; conv => whnf) | (refine CallH.lift seat_g ci2 ⟨Pt.closed _, trivial⟩ (by simp [Closed]) ?_; conv => whnf) | (refine CallH.lift seat_g ci3 ⟨Pt.closed _, trivial⟩ (by simp [Closed]) ?_; conv => whnf) | (refine lf seat_g cb1 ?_; conv => whnf) | (refine lf seat_g cb2 ?_; conv => whnf) | (refine lf seat_g cb3 ?_; conv => whnf) | (refine brNot (brT e2 ?_); conv => whnf) | (refine brNot (brF e2 ?_); conv => whnf) | (refine brNot (brT e1 ?_); conv => whnf) | (refine brNot (brF e1 ?_); conv => whnf) | ((first | refine zs (by omega) ?_ | refine zq6 ?_ | refine zs (by dsimp only; omega) ?_ | refine zs (show pendP _ _ by repeat' constructor) ?_ | (with_reducible first | refine brT ‹_› ?_ | refine brF ‹_› ?_ | refine zt (by omega) ?_ | refine zf (by omega) ?_ | refine brNot ?_)); conv => whnf))
                              · have e1 : (x.c1.x == 0 && (x.c1.y == 0 && true)) = false := by apply Bool.eq_false_iff.2; intro h; exact z1 (by simpa using h)
                                rw [if_neg (fun h => by obtain ⟨⟨hs, h1, h2, h9⟩, -⟩ := h; unfold shape at hs; unfold all9 IB at h9; unfold inP IB at *; first | omega | simp_all | (simp_all; omega))] at hb
                                clear hsh
                                conv => whnf
                                repeat' (first | exact ⟨_, keepT_weak (maskOf 150 [2]) _, .inl ⟨rfl, hb.symm, rfl⟩⟩ | (refine ldI _ hld ?_; conv => whnf) | (refine CallH.lift seat_g ci1 ⟨Pt.closed _, trivial⟩ (by simp [Closed]) ?_; conv => whnf) | (refine CallH.lift seat_g ci2 ⟨Pt.closed _, trivial⟩ (by simp [Closed]) ?_; conv => whnf) | (refine CallH.lift seat_g ci3 ⟨Pt.closed _, trivial⟩ (by simp [Closed]) ?_; conv => whnf) | (refine lf seat_g cb1 ?_; conv => whnf) | (refine lf seat_g cb2 ?_; conv => whnf) | (refine lf seat_g cb3 ?_; conv => whnf) | (refine brNot (brT e2 ?_); conv => whnf) | (refine brNot (brF e2 ?_); conv => whnf) | (refine brNot (brT e1 ?_); conv => whnf) | (refine brNot (brF e1 ?_); conv => whnf) | ((first | refine zs (by omega) ?_ | refine zq6 ?_ | refine zs (by dsimp only; omega) ?_ | refine zs (show pendP _ _ by repeat' constructor) ?_ | (with_reducible first | refine brT ‹_› ?_ | refine brF ‹_› ?_ | refine zt (by omega) ?_ | refine zf (by omega) ?_ | refine brNot ?_)); conv => whnf))
                            · have e2 : (x.c2.x == 0 && (x.c2.y == 0 && true)) = false := by apply Bool.eq_false_iff.2; intro h; exact z2 (by simpa using h)
                              rw [if_neg (fun h => by obtain ⟨⟨hs, h1, h2, h9⟩, -⟩ := h; unfold shape at hs; unfold all9 IB at h9; unfold inP IB at *; first | omega | simp_all | (simp_all; omega))] at hb
                              clear hsh
                              conv => whnf
                              repeat' (first | exact ⟨_, keepT_weak (maskOf 150 [2]) _, .inl ⟨rfl, hb.symm, rfl⟩⟩ | (refine ldI _ hld ?_; conv => whnf) | (refine CallH.lift seat_g ci1 ⟨Pt.closed _, trivial⟩ (by simp [Closed]) ?_; conv => whnf) | (refine CallH.lift seat_g ci2 ⟨Pt.closed _, trivial⟩ (by simp [Closed]) ?_; conv => whnf) | (refine CallH.lift seat_g ci3 ⟨Pt.closed _, trivial⟩ (by simp [Closed]) ?_; conv => whnf) | (refine lf seat_g cb1 ?_; conv => whnf) | (refine lf seat_g cb2 ?_; conv => whnf) | (refine lf seat_g cb3 ?_; conv => whnf) | (refine brNot (brT e2 ?_); conv => whnf) | (refine brNot (brF e2 ?_); conv => whnf) | (refine brNot (brT e1 ?_); conv => whnf) | (refine brNot (brF e1 ?_); conv => whnf) | ((first | refine zs (by omega) ?_ | refine zq6 ?_ | refine zs (by dsimp only; omega) ?_ | refine zs (show pendP _ _ by repeat' constructor) ?_ | (with_reducible first | refine brT ‹_› ?_ | refine brF ‹_› ?_ | refine zt (by omega) ?_ | refine zf (by omega) ?_ | refine brNot ?_)); conv => whnf))
                        · rw [if_neg (fun h => by obtain ⟨⟨hs, h1, h2, h9⟩, -⟩ := h; unfold shape at hs; unfold all9 IB at h9; unfold inP IB at *; first | omega | simp_all | (simp_all; omega))] at hb
                          clear hsh
                          conv => whnf
                          repeat' (first | exact ⟨_, keepT_weak (maskOf 150 [2]) _, .inl ⟨rfl, hb.symm, rfl⟩⟩ | (refine ldI _ hld ?_; conv => whnf) | (refine CallH.lift seat_g ci1 ⟨Pt.closed _, trivial⟩ (by simp [Closed]) ?_; conv => whnf) | (refine CallH.lift seat_g ci2 ⟨Pt.closed _, trivial⟩ (by simp [Closed]) ?_; conv => whnf) | (refine CallH.lift seat_g ci3 ⟨Pt.closed _, trivial⟩ (by simp [Closed]) ?_; conv => whnf) | (refine lf seat_g cb1 ?_; conv => whnf) | (refine lf seat_g cb2 ?_; conv => whnf) | (refine lf seat_g cb3 ?_; conv => whnf) | (refine brNot (brT e2 ?_); conv => whnf) | (refine brNot (brF e2 ?_); conv => whnf) | (refine brNot (brT e1 ?_); conv => whnf) | (refine brNot (brF e1 ?_); conv => whnf) | ((first | refine zs (by omega) ?_ | refine zq6 ?_ | refine zs (by dsimp only; omega) ?_ | refine zs (show pendP _ _ by repeat' constructor) ?_ | (with_reducible first | refine brT ‹_› ?_ | refine brF ‹_› ?_ | refine zt (by omega) ?_ | refine zf (by omega) ?_ | refine brNot ?_)); conv => whnf))
                      · rw [if_neg (fun h => by obtain ⟨⟨hs, h1, h2, h9⟩, -⟩ := h; unfold shape at hs; unfold all9 IB at h9; unfold inP IB at *; first | omega | simp_all | (simp_all; omega))] at hb
                        clear hsh
                        conv => whnf
                        repeat' (first | exact ⟨_, keepT_weak (maskOf 150 [2]) _, .inl ⟨rfl, hb.symm, rfl⟩⟩ | (refine ldI _ hld ?_; conv => whnf) | (refine CallH.lift seat_g ci1 ⟨Pt.closed _, trivial⟩ (by simp [Closed]) ?_; conv => whnf) | (refine CallH.lift seat_g ci2 ⟨Pt.closed _, trivial⟩ (by simp [Closed]) ?_; conv => whnf) | (refine CallH.lift seat_g ci3 ⟨Pt.closed _, trivial⟩ (by simp [Closed]) ?_; conv => whnf) | (refine lf seat_g cb1 ?_; conv => whnf) | (refine lf seat_g cb2 ?_; conv => whnf) | (refine lf seat_g cb3 ?_; conv => whnf) | (refine brNot (brT e2 ?_); conv => whnf) | (refine brNot (brF e2 ?_); conv => whnf) | (refine brNot (brT e1 ?_); conv => whnf) | (refine brNot (brF e1 ?_); conv => whnf) | ((first | refine zs (by omega) ?_ | refine zq6 ?_ | refine zs (by dsimp only; omega) ?_ | refine zs (show pendP _ _ by repeat' constructor) ?_ | (with_reducible first | refine brT ‹_› ?_ | refine brF ‹_› ?_ | refine zt (by omega) ?_ | refine zf (by omega) ?_ | refine brNot ?_)); conv => whnf))
                    · rw [decide_eq_false p8] at cb3
                      rw [if_neg (fun h => by obtain ⟨⟨hs, h1, h2, h9⟩, -⟩ := h; unfold shape at hs; unfold all9 IB at h9; unfold inP IB at *; first | omega | simp_all | (simp_all; omega))] at hb
                      clear hsh
                      conv => whnf
                      repeat' (first | exact ⟨_, keepT_weak (maskOf 150 [2]) _, .inl ⟨rfl, hb.symm, rfl⟩⟩ | (refine ldI _ hld ?_; conv => whnf) | (refine CallH.lift seat_g ci1 ⟨Pt.closed _, trivial⟩ (by simp [Closed]) ?_; conv => whnf) | (refine CallH.lift seat_g ci2 ⟨Pt.closed _, trivial⟩ (by simp [Closed]) ?_; conv => whnf) | (refine CallH.lift seat_g ci3 ⟨Pt.closed _, trivial⟩ (by simp [Closed]) ?_; conv => whnf) | (refine lf seat_g cb1 ?_; conv => whnf) | (refine lf seat_g cb2 ?_; conv => whnf) | (refine lf seat_g cb3 ?_; conv => whnf) | (refine brNot (brT e2 ?_); conv => whnf) | (refine brNot (brF e2 ?_); conv => whnf) | (refine brNot (brT e1 ?_); conv => whnf) | (refine brNot (brF e1 ?_); conv => whnf) | ((first | refine zs (by omega) ?_ | refine zq6 ?_ | refine zs (by dsimp only; omega) ?_ | refine zs (show pendP _ _ by repeat' constructor) ?_ | (with_reducible first | refine brT ‹_› ?_ | refine brF ‹_› ?_ | refine zt (by omega) ?_ | refine zf (by omega) ?_ | refine brNot ?_)); conv => whnf))
                  · rw [decide_eq_false p7] at cb2
                    rw [if_neg (fun h => by obtain ⟨⟨hs, h1, h2, h9⟩, -⟩ := h; unfold shape at hs; unfold all9 IB at h9; unfold inP IB at *; first | omega | simp_all | (simp_all; omega))] at hb
                    clear hsh
                    conv => whnf
                    repeat' (first | exact ⟨_, keepT_weak (maskOf 150 [2]) _, .inl ⟨rfl, hb.symm, rfl⟩⟩ | (refine ldI _ hld ?_; conv => whnf) | (refine CallH.lift seat_g ci1 ⟨Pt.closed _, trivial⟩ (by simp [Closed]) ?_; conv => whnf) | (refine CallH.lift seat_g ci2 ⟨Pt.closed _, trivial⟩ (by simp [Closed]) ?_; conv => whnf) | (refine CallH.lift seat_g ci3 ⟨Pt.closed _, trivial⟩ (by simp [Closed]) ?_; conv => whnf) | (refine lf seat_g cb1 ?_; conv => whnf) | (refine lf seat_g cb2 ?_; conv => whnf) | (refine lf seat_g cb3 ?_; conv => whnf) | (refine brNot (brT e2 ?_); conv => whnf) | (refine brNot (brF e2 ?_); conv => whnf) | (refine brNot (brT e1 ?_); conv => whnf) | (refine brNot (brF e1 ?_); conv => whnf) | ((first | refine zs (by omega) ?_ | refine zq6 ?_ | refine zs (by dsimp only; omega) ?_ | refine zs (show pendP _ _ by repeat' constructor) ?_ | (with_reducible first | refine brT ‹_› ?_ | refine brF ‹_› ?_ | refine zt (by omega) ?_ | refine zf (by omega) ?_ | refine brNot ?_)); conv => whnf))
                · rw [decide_eq_false p6] at cb1
                  rw [if_neg (fun h => by obtain ⟨⟨hs, h1, h2, h9⟩, -⟩ := h; unfold shape at hs; unfold all9 IB at h9; unfold inP IB at *; first | omega | simp_all | (simp_all; omega))] at hb
                  clear hsh
                  conv => whnf
                  repeat' (first | exact ⟨_, keepT_weak (maskOf 150 [2]) _, .inl ⟨rfl, hb.symm, rfl⟩⟩ | (refine ldI _ hld ?_; conv => whnf) | (refine CallH.lift seat_g ci1 ⟨Pt.closed _, trivial⟩ (by simp [Closed]) ?_; conv => whnf) | (refine CallH.lift seat_g ci2 ⟨Pt.closed _, trivial⟩ (by simp [Closed]) ?_; conv => whnf) | (refine CallH.lift seat_g ci3 ⟨Pt.closed _, trivial⟩ (by simp [Closed]) ?_; conv => whnf) | (refine lf seat_g cb1 ?_; conv => whnf) | (refine lf seat_g cb2 ?_; conv => whnf) | (refine lf seat_g cb3 ?_; conv => whnf) | (refine brNot (brT e2 ?_); conv => whnf) | (refine brNot (brF e2 ?_); conv => whnf) | (refine brNot (brT e1 ?_); conv => whnf) | (refine brNot (brF e1 ?_); conv => whnf) | ((first | refine zs (by omega) ?_ | refine zq6 ?_ | refine zs (by dsimp only; omega) ?_ | refine zs (show pendP _ _ by repeat' constructor) ?_ | (with_reducible first | refine brT ‹_› ?_ | refine brF ‹_› ?_ | refine zt (by omega) ?_ | refine zf (by omega) ?_ | refine brNot ?_)); conv => whnf))
              · rw [decide_eq_false p5] at ci3
                rw [if_neg (fun h => by obtain ⟨⟨hs, h1, h2, h9⟩, -⟩ := h; unfold shape at hs; unfold all9 IB at h9; unfold inP IB at *; first | omega | simp_all | (simp_all; omega))] at hb
                clear hsh
                conv => whnf
                repeat' (first | exact ⟨_, keepT_weak (maskOf 150 [2]) _, .inl ⟨rfl, hb.symm, rfl⟩⟩ | (refine ldI _ hld ?_; conv => whnf) | (refine CallH.lift seat_g ci1 ⟨Pt.closed _, trivial⟩ (by simp [Closed]) ?_; conv => whnf) | (refine CallH.lift seat_g ci2 ⟨Pt.closed _, trivial⟩ (by simp [Closed]) ?_; conv => whnf) | (refine CallH.lift seat_g ci3 ⟨Pt.closed _, trivial⟩ (by simp [Closed]) ?_; conv => whnf) | (refine lf seat_g cb1 ?_; conv => whnf) | (refine lf seat_g cb2 ?_; conv => whnf) | (refine lf seat_g cb3 ?_; conv => whnf) | (refine brNot (brT e2 ?_); conv => whnf) | (refine brNot (brF e2 ?_); conv => whnf) | (refine brNot (brT e1 ?_); conv => whnf) | (refine brNot (brF e1 ?_); conv => whnf) | ((first | refine zs (by omega) ?_ | refine zq6 ?_ | refine zs (by dsimp only; omega) ?_ | refine zs (show pendP _ _ by repeat' constructor) ?_ | (with_reducible first | refine brT ‹_› ?_ | refine brF ‹_› ?_ | refine zt (by omega) ?_ | refine zf (by omega) ?_ | refine brNot ?_)); conv => whnf))
            · rw [decide_eq_false p4] at ci2
              rw [if_neg (fun h => by obtain ⟨⟨hs, h1, h2, h9⟩, -⟩ := h; unfold shape at hs; unfold all9 IB at h9; unfold inP IB at *; first | omega | simp_all | (simp_all; omega))] at hb
              clear hsh
              conv => whnf
              repeat' (first | exact ⟨_, keepT_weak (maskOf 150 [2]) _, .inl ⟨rfl, hb.symm, rfl⟩⟩ | (refine ldI _ hld ?_; conv => whnf) | (refine CallH.lift seat_g ci1 ⟨Pt.closed _, trivial⟩ (by simp [Closed]) ?_; conv => whnf) | (refine CallH.lift seat_g ci2 ⟨Pt.closed _, trivial⟩ (by simp [Closed]) ?_; conv => whnf) | (refine CallH.lift seat_g ci3 ⟨Pt.closed _, trivial⟩ (by simp [Closed]) ?_; conv => whnf) | (refine lf seat_g cb1 ?_; conv => whnf) | (refine lf seat_g cb2 ?_; conv => whnf) | (refine lf seat_g cb3 ?_; conv => whnf) | (refine brNot (brT e2 ?_); conv => whnf) | (refine brNot (brF e2 ?_); conv => whnf) | (refine brNot (brT e1 ?_); conv => whnf) | (refine brNot (brF e1 ?_); conv => whnf) | ((first | refine zs (by omega) ?_ | refine zq6 ?_ | refine zs (by dsimp only; omega) ?_ | refine zs (show pendP _ _ by repeat' constructor) ?_ | (with_reducible first | refine brT ‹_› ?_ | refine brF ‹_› ?_ | refine zt (by omega) ?_ | refine zf (by omega) ?_ | refine brNot ?_)); conv => whnf))
          · rw [decide_eq_false p3] at ci1
            rw [if_neg (fun h => by obtain ⟨⟨hs, h1, h2, h9⟩, -⟩ := h; unfold shape at hs; unfold all9 IB at h9; unfold inP IB at *; first | omega | simp_all | (simp_all; omega))] at hb
            clear hsh
            conv => whnf
            repeat' (first | exact ⟨_, keepT_weak (maskOf 150 [2]) _, .inl ⟨rfl, hb.symm, rfl⟩⟩ | (refine ldI _ hld ?_; conv => whnf) | (refine CallH.lift seat_g ci1 ⟨Pt.closed _, trivial⟩ (by simp [Closed]) ?_; conv => whnf) | (refine CallH.lift seat_g ci2 ⟨Pt.closed _, trivial⟩ (by simp [Closed]) ?_; conv => whnf) | (refine CallH.lift seat_g ci3 ⟨Pt.closed _, trivial⟩ (by simp [Closed]) ?_; conv => whnf) | (refine lf seat_g cb1 ?_; conv => whnf) | (refine lf seat_g cb2 ?_; conv => whnf) | (refine lf seat_g cb3 ?_; conv => whnf) | (refine brNot (brT e2 ?_); conv => whnf) | (refine brNot (brF e2 ?_); conv => whnf) | (refine brNot (brT e1 ?_); conv => whnf) | (refine brNot (brF e1 ?_); conv => whnf) | ((first | refine zs (by omega) ?_ | refine zq6 ?_ | refine zs (by dsimp only; omega) ?_ | refine zs (show pendP _ _ by repeat' constructor) ?_ | (with_reducible first | refine brT ‹_› ?_ | refine brF ‹_› ?_ | refine zt (by omega) ?_ | refine zf (by omega) ?_ | refine brNot ?_)); conv => whnf))
        · rw [if_neg (fun h => by obtain ⟨⟨hs, h1, h2, h9⟩, -⟩ := h; unfold shape at hs; unfold all9 IB at h9; unfold inP IB at *; first | omega | simp_all | (simp_all; omega))] at hb
          clear hsh
          conv => whnf
          repeat' (first | exact ⟨_, keepT_weak (maskOf 150 [2]) _, .inl ⟨rfl, hb.symm, rfl⟩⟩ | (refine ldI _ hld ?_; conv => whnf) | (refine CallH.lift seat_g ci1 ⟨Pt.closed _, trivial⟩ (by simp [Closed]) ?_; conv => whnf) | (refine CallH.lift seat_g ci2 ⟨Pt.closed _, trivial⟩ (by simp [Closed]) ?_; conv => whnf) | (refine CallH.lift seat_g ci3 ⟨Pt.closed _, trivial⟩ (by simp [Closed]) ?_; conv => whnf) | (refine lf seat_g cb1 ?_; conv => whnf) | (refine lf seat_g cb2 ?_; conv => whnf) | (refine lf seat_g cb3 ?_; conv => whnf) | (refine brNot (brT e2 ?_); conv => whnf) | (refine brNot (brF e2 ?_); conv => whnf) | (refine brNot (brT e1 ?_); conv => whnf) | (refine brNot (brF e1 ?_); conv => whnf) | ((first | refine zs (by omega) ?_ | refine zq6 ?_ | refine zs (by dsimp only; omega) ?_ | refine zs (show pendP _ _ by repeat' constructor) ?_ | (with_reducible first | refine brT ‹_› ?_ | refine brF ‹_› ?_ | refine zt (by omega) ?_ | refine zf (by omega) ?_ | refine brNot ?_)); conv => whnf))
      · rw [if_neg (fun h => by obtain ⟨⟨hs, h1, h2, h9⟩, -⟩ := h; unfold shape at hs; unfold all9 IB at h9; unfold inP IB at *; first | omega | simp_all | (simp_all; omega))] at hb
        clear hsh
        conv => whnf
        repeat' (first | exact ⟨_, keepT_weak (maskOf 150 [2]) _, .inl ⟨rfl, hb.symm, rfl⟩⟩ | (refine ldI _ hld ?_; conv => whnf) | (refine CallH.lift seat_g ci1 ⟨Pt.closed _, trivial⟩ (by simp [Closed]) ?_; conv => whnf) | (refine CallH.lift seat_g ci2 ⟨Pt.closed _, trivial⟩ (by simp [Closed]) ?_; conv => whnf) | (refine CallH.lift seat_g ci3 ⟨Pt.closed _, trivial⟩ (by simp [Closed]) ?_; conv => whnf) | (refine lf seat_g cb1 ?_; conv => whnf) | (refine lf seat_g cb2 ?_; conv => whnf) | (refine lf seat_g cb3 ?_; conv => whnf) | (refine brNot (brT e2 ?_); conv => whnf) | (refine brNot (brF e2 ?_); conv => whnf) | (refine brNot (brT e1 ?_); conv => whnf) | (refine brNot (brF e1 ?_); conv => whnf) | ((first | refine zs (by omega) ?_ | refine zq6 ?_ | refine zs (by dsimp only; omega) ?_ | refine zs (show pendP _ _ by repeat' constructor) ?_ | (with_reducible first | refine brT ‹_› ?_ | refine brF ‹_› ?_ | refine zt (by omega) ?_ | refine zf (by omega) ?_ | refine brNot ?_)); conv => whnf))
    · obtain rfl : i = l.length := by omega
      rw [List.drop_length] at hb
      conv => whnf
      repeat' (first | exact ⟨_, keepT_weak (maskOf 150 []) _, .inr ⟨rfl, hb.symm, rfl⟩⟩ | ((first | refine zs (by omega) ?_ | refine zq6 ?_ | refine zs (by dsimp only; omega) ?_ | refine zs (show pendP _ _ by repeat' constructor) ?_ | (with_reducible first | refine brT ‹_› ?_ | refine brF ‹_› ?_ | refine zt (by omega) ?_ | refine zf (by omega) ?_ | refine brNot ?_)); conv => whnf))
  · rintro _ _ _ (⟨rfl, rfl, rfl⟩ | ⟨rfl, rfl, rfl⟩)
    · conv => whnf
      rfl
    · conv => whnf
      rfl
end Go.Proofs.YteicdddheaajlaaDoor
namespace Go.Proofs.YteicdddheaajlaaDoor
open Go.Abs
def allA : List UInt8 → List Int → Bool
  | k :: ks, v :: vs => if v ≤ -4294967296 ∨ v ≥ 4294967296 ∨ (k = 117 ∧ v < 0) ∨ ((k = 103 ∨ k = 102) ∧ v ≠ 0 ∧ v ≠ 1) then false else allA ks vs
  | _, _ => true
def rightR (c : Int) (vals : List Int) : Bool := match ofN c with
  | some x => if vals.length = x.2.length then allA x.2 vals else false
  | none => false
theorem pofV_none {c : Int} (h : ofN c = none) : pofV c = .tup [.agg [.int .u8 0, .str []], .bool false] := by unfold pofV; rw [h]
theorem pofV_some {c : Int} {x : Int × List UInt8} (h : ofN c = some x) : pofV c = .tup [.agg [.int .u8 x.1, .str x.2], .bool true] := by unfold pofV; rw [h]
set_option maxRecDepth 20000 in
set_option maxHeartbeats 1000000 in
theorem c_right (c : Int) (vals : List Int) (hc : 0 ≤ c ∧ c < 256) (hl : vals.length ≤ 100000) : ACalls seat 23 [.agg [.int .u8 c, .vec (ci .i64 vals) vals.length none]] [] (fun x _ => x = .ret (.bool (rightR c vals))) := by
  refine ACalls.body seat_ok Tryd.func23 rfl rfl ?_
  have cf := c_pof c hc
  cases h : ofN c with
  | none =>
    have hr : rightR c vals = false := by unfold rightR; rw [h]
    rw [hr]
    rw [pofV_none h] at cf
    clear hr h
    conv => whnf
    repeat' (first | exact rfl | (refine lf seat_g cf ?_; conv => whnf) | (refine Req.mk (by decide) ?_; conv => whnf) | ((first | refine zs (by omega) ?_ | refine zq6 ?_ | refine zs (by dsimp only; omega) ?_ | refine zs (show pendP _ _ by repeat' constructor) ?_ | (with_reducible first | refine brT ‹_› ?_ | refine brF ‹_› ?_ | refine zt (by omega) ?_ | refine zf (by omega) ?_ | refine brNot ?_)); conv => whnf))
  | some y =>
    have hx := sign_ok h
    have hr : rightR c vals = if vals.length = y.2.length then allA y.2 vals else false := by unfold rightR; rw [h]
    rw [hr]
    rw [pofV_some h] at cf
    obtain ⟨a, ks⟩ := y
    simp only at cf hr hx ⊢
    clear hr h
    by_cases hle : vals.length = ks.length
    · rw [if_pos hle]
      have hle2 : ((vals.length : Int) != (ks.length : Int)) = false := by simp; omega
      generalize hR : allA ks vals = R
      conv => whnf
      repeat' (first | (refine lf seat_g cf ?_; conv => whnf) | (refine Req.mk (by decide) ?_; conv => whnf) | (refine brF hle2 ?_; conv => whnf) | ((first | refine zs (by omega) ?_ | refine zq6 ?_ | refine zs (by dsimp only; omega) ?_ | refine zs (show pendP _ _ by repeat' constructor) ?_ | (with_reducible first | refine brT ‹_› ?_ | refine brF ‹_› ?_ | refine zt (by omega) ?_ | refine zf (by omega) ?_ | refine brNot ?_)); conv => whnf))
      refine Sat.cut (fun x t h => (x = .ret ∧ R = false ∧ t = (uu::uu::.bool false::uu::uu::uu::uu::uu::uu::uu::uu::uu::uu::uu::uu::uu::uu::uu::uu::uu::uu::uu::uu::uu::uu::uu::uu::uu::uu::uu::uu::uu::uu::uu::uu::uu::uu::uu::uu::uu::uu::uu::uu::uu::uu::uu::uu::uu::uu::uu::uu::uu::uu::uu::uu::uu::uu::uu::uu::uu::uu::uu::uu::uu::uu::uu::uu::uu::uu::[])) ∨ (x = .exit 0 ∧ R = true ∧ t = (uu::uu::uu::uu::uu::uu::uu::uu::uu::uu::uu::uu::uu::uu::uu::uu::uu::uu::uu::uu::uu::uu::uu::uu::uu::uu::uu::uu::uu::uu::uu::uu::uu::uu::uu::uu::uu::uu::uu::uu::uu::uu::uu::uu::uu::uu::uu::uu::uu::uu::uu::uu::uu::uu::uu::uu::uu::uu::uu::uu::uu::uu::uu::uu::uu::uu::uu::uu::uu::[]))) ?_ ?_
      · refine Sat.invP seat_ok seat_g (maskOf 69 [3, 25, 26, 27]) 2 (fun μ t h => ∃ (i : Nat) (z : Int), z = i ∧ i ≤ vals.length ∧ allA (ks.drop i) (vals.drop i) = R ∧ μ = vals.length - i ∧ t = (uu::uu::uu::.ptr 1 0::uu::uu::uu::uu::uu::uu::uu::uu::uu::uu::uu::uu::uu::uu::uu::uu::uu::uu::uu::uu::uu::.vec (ci .i64 vals) vals.length none::.int .i64 vals.length::.int .i64 z::uu::uu::uu::uu::uu::uu::uu::uu::uu::uu::uu::uu::uu::uu::uu::uu::uu::uu::uu::uu::uu::uu::uu::uu::uu::uu::uu::uu::uu::uu::uu::uu::uu::uu::uu::uu::uu::uu::uu::uu::uu::[]) ∧ h = [.var [.int .u8 c, .vec (ci .i64 vals) vals.length none] 37, .var [.int .u8 a, .str ks] 78])
          ?_ ⟨_, _, WeakL.of_eq rfl, 0, 0, rfl, by omega, by rw [List.drop_zero, List.drop_zero]; exact hR, rfl, rfl, rfl⟩ ?_
        · rintro _ _ _ ⟨i, z, -, -, -, -, rfl, rfl⟩
          exact ⟨rfl, by simp [IdsL, Ids, ci_ids], by simp [IdsH, IdsC, IdsL, Ids, ci_ids]⟩
        rintro _ _ _ ⟨i, z, hz, hi, hA, rfl, rfl, rfl⟩
        clear cf hR
        by_cases g : i < vals.length
        · obtain ⟨v, hv⟩ : ∃ v, vals[i]? = some v := ⟨_, List.getElem?_eq_getElem g⟩
          obtain ⟨k, hk⟩ : ∃ k, ks[i]? = some k := ⟨_, List.getElem?_eq_getElem (by omega)⟩
          have hld : sub (ci .i64 vals) (z.toNat * 1) 1 = some [.int .i64 v] := by rw [show z.toNat = i by omega]; exact ci_sub .i64 hv
          have hlk : ks[z.toNat]? = some k := by rw [show z.toNat = i by omega]; exact hk
          have gz : z < vals.length := by omega
          have gk : z < ks.length := by omega
          rw [drop_cons' hv, drop_cons' hk] at hA
          simp only [allA] at hA
          have t117 : k = 117 ↔ (k.toNat : Int) = 117 := ⟨fun h => by rw [h]; rfl, fun h => UInt8.toNat_inj.1 (by show k.toNat = 117; omega)⟩
          have t103 : k = 103 ↔ (k.toNat : Int) = 103 := ⟨fun h => by rw [h]; rfl, fun h => UInt8.toNat_inj.1 (by show k.toNat = 103; omega)⟩
          have t102 : k = 102 ↔ (k.toNat : Int) = 102 := ⟨fun h => by rw [h]; rfl, fun h => UInt8.toNat_inj.1 (by show k.toNat = 102; omega)⟩
          simp only [t117, t103, t102] at hA
          clear t117 t103 t102
          have hcs : (v ≤ -4294967296) ∨ (¬ v ≤ -4294967296 ∧ v ≥ 4294967296) ∨ (¬ v ≤ -4294967296 ∧ ¬ v ≥ 4294967296 ∧ (k.toNat : Int) = 117 ∧ v < 0) ∨ (¬ v ≤ -4294967296 ∧ ¬ v ≥ 4294967296 ∧ (k.toNat : Int) = 103 ∧ v ≠ 0 ∧ v ≠ 1) ∨ (¬ v ≤ -4294967296 ∧ ¬ v ≥ 4294967296 ∧ (k.toNat : Int) = 102 ∧ v ≠ 0 ∧ v ≠ 1) ∨
              (¬ v ≤ -4294967296 ∧ ¬ v ≥ 4294967296 ∧ (k.toNat : Int) = 117 ∧ ¬ v < 0) ∨ (¬ v ≤ -4294967296 ∧ ¬ v ≥ 4294967296 ∧ (k.toNat : Int) = 103 ∧ v = 0) ∨ (¬ v ≤ -4294967296 ∧ ¬ v ≥ 4294967296 ∧ (k.toNat : Int) = 102 ∧ v = 0) ∨ (¬ v ≤ -4294967296 ∧ ¬ v ≥ 4294967296 ∧ (k.toNat : Int) = 103 ∧ v = 1) ∨ (¬ v ≤ -4294967296 ∧ ¬ v ≥ 4294967296 ∧ (k.toNat : Int) = 102 ∧ v = 1) ∨ (¬ v ≤ -4294967296 ∧ ¬ v ≥ 4294967296 ∧ (k.toNat : Int) ≠ 117 ∧ (k.toNat : Int) ≠ 103 ∧ (k.toNat : Int) ≠ 102) := by omega
          rcases hcs with h1 | ⟨h1, h2⟩ | ⟨h1, h2, h3, h4⟩ | ⟨h1, h2, h3, h4, h5⟩ | ⟨h1, h2, h3, h4, h5⟩ | ⟨h1, h2, h3, h4⟩ | ⟨h1, h2, h3, h4⟩ | ⟨h1, h2, h3, h4⟩ | ⟨h1, h2, h3, h4⟩ | ⟨h1, h2, h3, h4⟩ | ⟨h1, h2, h3, h4, h5⟩
          all_goals
            first
              | (have hA : false = R := by rw [if_pos (by omega)] at hA; exact hA
                 have hA := hA.symm
                 conv => whnf
                 repeat' (first | exact ⟨_, keepT_weak (maskOf 69 [2]) _, .inl ⟨rfl, hA, rfl⟩⟩ | (refine ldI _ hld ?_; conv => whnf) | (refine ldI _ hlk ?_; conv => whnf) | ((first | refine zs (by omega) ?_ | refine zq6 ?_ | refine zs (by dsimp only; omega) ?_ | refine zs (show pendP _ _ by repeat' constructor) ?_ | (with_reducible first | refine brT ‹_› ?_ | refine brF ‹_› ?_ | refine zt (by omega) ?_ | refine zf (by omega) ?_ | refine brNot ?_)); conv => whnf)))
              | (rw [if_neg (by omega)] at hA
                 conv => whnf
                 repeat' (first | exact ⟨_, _, Nat.sub_lt_sub_left g (Nat.lt_succ_self i), WeakL.of_eq rfl, i + 1, z + 1, by omega, by omega, hA, rfl, rfl, rfl⟩ | (refine ldI _ hld ?_; conv => whnf) | (refine ldI _ hlk ?_; conv => whnf) | ((first | refine zs (by omega) ?_ | refine zq6 ?_ | refine zs (by dsimp only; omega) ?_ | refine zs (show pendP _ _ by repeat' constructor) ?_ | (with_reducible first | refine brT ‹_› ?_ | refine brF ‹_› ?_ | refine zt (by omega) ?_ | refine zf (by omega) ?_ | refine brNot ?_)); conv => whnf)))
        · obtain rfl : i = vals.length := by omega
          have gz : ¬ (z < vals.length) := by omega
          have hA : true = R := by rw [hle, List.drop_length] at hA; exact hA
          have hA := hA.symm
          conv => whnf
          repeat' (first | exact ⟨_, keepT_weak (maskOf 69 []) _, .inr ⟨rfl, hA, rfl⟩⟩ | ((first | refine zs (by omega) ?_ | refine zq6 ?_ | refine zs (by dsimp only; omega) ?_ | refine zs (show pendP _ _ by repeat' constructor) ?_ | (with_reducible first | refine brT ‹_› ?_ | refine brF ‹_› ?_ | refine zt (by omega) ?_ | refine zf (by omega) ?_ | refine brNot ?_)); conv => whnf))
      · rintro _ _ _ (⟨rfl, h1, rfl⟩ | ⟨rfl, h1, rfl⟩)
        · subst h1
          conv => whnf
          rfl
        · subst h1
          conv => whnf
          rfl
    · rw [if_neg hle]
      have hle2 : ((vals.length : Int) != (ks.length : Int)) = true := by simp; omega
      conv => whnf
      repeat' (first | exact rfl | (refine lf seat_g cf ?_; conv => whnf) | (refine Req.mk (by decide) ?_; conv => whnf) | (refine brT hle2 ?_; conv => whnf) | ((first | refine zs (by omega) ?_ | refine zq6 ?_ | refine zs (by dsimp only; omega) ?_ | refine zs (show pendP _ _ by repeat' constructor) ?_ | (with_reducible first | refine brT ‹_› ?_ | refine brF ‹_› ?_ | refine zt (by omega) ?_ | refine zf (by omega) ?_ | refine brNot ?_)); conv => whnf))
end Go.Proofs.YteicdddheaajlaaDoor
namespace Go.Proofs.YteicdddheaajlaaDoor
open Go.Abs
end Go.Proofs.YteicdddheaajlaaDoor
namespace Go.Proofs.YteicdddheaajlaaDoor
open Go.Abs
theorem allA_ok : ∀ (ks : List UInt8) (vs : List Int), ks.length = vs.length → allA ks vs = true → ∀ v ∈ vs, -4294967296 < v ∧ v < 4294967296
  | [], [], _, _, v, h => by cases h
  | k :: ks, w :: vs, hl, ha, v, h => by
    simp only [allA] at ha
    split at ha
    · cases ha
    · rename_i g
      rcases List.mem_cons.1 h with h | h
      · subst h; omega
      · exact allA_ok ks vs (by simpa using hl) ha v h
theorem right_ok {x : UInt8 × List Int} (h : rightR x.1.toNat x.2 = true) : CmdOk x := by
  unfold rightR at h
  split at h
  · rename_i y hy
    split at h
    · rename_i hl; exact ⟨y, hy, hl, allA_ok y.2 x.2 hl.symm h⟩
    · cases h
  · cases h
def badI : List (UInt8 × List Int) → Nat → Option Nat
  | [], _ => none
  | x :: l, i => if rightR x.1.toNat x.2 = true ∧ (i = 0 → (x.1.toNat : Int) = 77 ∨ (x.1.toNat : Int) = 109) then badI l (i + 1) else some i
theorem badI_ok : ∀ (l : List (UInt8 × List Int)) (i : Nat), badI l i = none → ∀ x ∈ l, CmdOk x
  | [], _, _, x, h => by cases h
  | y :: l, i, hb, x, h => by
    rw [badI] at hb
    split at hb
    · rename_i g
      rcases List.mem_cons.1 h with h | h
      · subst h; exact right_ok g.1
      · exact badI_ok l (i + 1) hb x h
    · cases hb
def norV (b : Option Nat) (L : List Sg) (r : Option Nat) : AV := match b, r with
  | some i, _ => .tup [.nils, .int .i64 i, .int .i64 1]
  | none, some i => .tup [.nils, .int .i64 i, .int .i64 2]
  | none, none => .tup [sgV L, .int .i64 (-1), .int .i64 0]
set_option maxRecDepth 20000 in
theorem c_normal (C : List (UInt8 × List Int)) (hl : C.length ≤ 100000) (hv : ∀ x ∈ C, x.2.length ≤ 100000) (L : List Sg) (r : Option Nat) (hW : walkN C 0 st0 = (L, r)) :
    ACalls seat 13 [cmdV C] [] (fun x _ => x = .ret (norV (badI C 0) L r)) := by
  refine ACalls.body seat_ok Tryd.func13 rfl rfl ?_
  have cw := fun h => c_nwalk C (badI_ok C 0 h) hl L r hW
  clear hW
  generalize hB : badI C 0 = B at *
  unfold cmdV at *
  conv => whnf
  repeat' ((first | refine zs (by omega) ?_ | refine zq6 ?_ | refine zs (by dsimp only; omega) ?_ | refine zs (show pendP _ _ by repeat' constructor) ?_ | (with_reducible first | refine brT ‹_› ?_ | refine brF ‹_› ?_ | refine zt (by omega) ?_ | refine zf (by omega) ?_ | refine brNot ?_)); conv => whnf)
  refine Sat.cut (fun x t h => (x = .ret ∧ ∃ i : Nat, B = some i ∧ t = (uu::uu::.nils::.int .i64 i::.int .i64 1::uu::uu::uu::uu::uu::uu::uu::uu::uu::uu::uu::uu::uu::uu::uu::uu::uu::uu::uu::uu::uu::uu::uu::uu::uu::uu::uu::uu::uu::uu::uu::uu::uu::uu::uu::uu::uu::uu::uu::uu::uu::uu::[])) ∨ (x = .exit 0 ∧ B = none ∧ t = (.vec (cs cmdC C) C.length none::uu::uu::uu::uu::uu::uu::uu::uu::uu::uu::uu::uu::uu::uu::uu::uu::uu::uu::uu::uu::uu::uu::uu::uu::uu::uu::uu::uu::uu::uu::uu::uu::uu::uu::uu::uu::uu::uu::uu::uu::uu::uu::uu::uu::uu::uu::[]))) ?_ ?_
  · clear cw
    refine Sat.invP seat_ok seat_g (maskOf 47 [0, 10, 11, 12]) 0 (fun μ t h => ∃ i : Nat, i ≤ C.length ∧ badI (C.drop i) i = B ∧ μ = C.length - i ∧ t = (.vec (cs cmdC C) C.length none::uu::uu::uu::uu::uu::uu::uu::uu::uu::.vec (cs cmdC C) C.length none::.int .i64 C.length::.int .i64 i::uu::uu::uu::uu::uu::uu::uu::uu::uu::uu::uu::uu::uu::uu::uu::uu::uu::uu::uu::uu::uu::uu::uu::uu::uu::uu::uu::uu::uu::uu::uu::uu::uu::uu::[]) ∧ h = [])
      ?_ ⟨_, _, WeakL.of_eq rfl, 0, Nat.zero_le _, hB, rfl, rfl, rfl⟩ ?_
    · rintro _ _ _ ⟨i, -, -, -, rfl, rfl⟩
      exact ⟨rfl, by simp [IdsL, Ids, cmd_ids], (by simp [IdsL, Ids, IdsH, IdsC, lv_ids, ci_ids])⟩
    clear hB
    rintro _ _ _ ⟨i, hi, hb, rfl, rfl, rfl⟩
    by_cases g : i < C.length
    · obtain ⟨x, hx⟩ : ∃ x, C[i]? = some x := ⟨_, List.getElem?_eq_getElem g⟩
      have hld : sub (cs cmdC C) ((i : Int).toNat * 2) 2 = some (cmdC x) := cs_sub cmdC_len hx
      have hxb : 0 ≤ (x.1.toNat : Int) ∧ (x.1.toNat : Int) < 256 := by have := UInt8.toNat_lt x.1; omega
      have cr := c_right x.1.toNat x.2 hxb (hv x (List.mem_of_getElem? hx))
      rw [drop_cons' hx, badI] at hb
      clear hv hx
      generalize rightR x.1.toNat x.2 = R at *
      have h5 : (R = false) ∨ (R = true ∧ i ≠ 0) ∨ (R = true ∧ i = 0 ∧ (x.1.toNat : Int) = 77) ∨ (R = true ∧ i = 0 ∧ (x.1.toNat : Int) ≠ 77 ∧ (x.1.toNat : Int) = 109) ∨ (R = true ∧ i = 0 ∧ (x.1.toNat : Int) ≠ 77 ∧ (x.1.toNat : Int) ≠ 109) := by
        cases R with
        | false => exact .inl rfl
        | true =>
          by_cases g1 : i = 0
          · by_cases g2 : (x.1.toNat : Int) = 77
            · exact .inr (.inr (.inl ⟨rfl, g1, g2⟩))
            · by_cases g3 : (x.1.toNat : Int) = 109
              · exact .inr (.inr (.inr (.inl ⟨rfl, g1, g2, g3⟩)))
              · exact .inr (.inr (.inr (.inr ⟨rfl, g1, g2, g3⟩)))
          · exact .inr (.inl ⟨rfl, g1⟩)
      rcases h5 with rfl | ⟨rfl, h1⟩ | ⟨rfl, h1, h2⟩ | ⟨rfl, h1, h2, h3⟩ | ⟨rfl, h1, h2, h3⟩
      all_goals
        first
          | (rw [if_pos ⟨rfl, by omega⟩] at hb
             conv => whnf
             repeat' (first | exact ⟨_, _, Nat.sub_lt_sub_left g (Nat.lt_succ_self i), WeakL.of_eq rfl, i + 1, g, hb, rfl, rfl, rfl⟩ | (refine ldI _ hld ?_; conv => whnf) | (refine lf seat_g cr ?_; conv => whnf) | ((first | refine zs (by omega) ?_ | refine zq6 ?_ | refine zs (by dsimp only; omega) ?_ | refine zs (show pendP _ _ by repeat' constructor) ?_ | (with_reducible first | refine brT ‹_› ?_ | refine brF ‹_› ?_ | refine zt (by omega) ?_ | refine zf (by omega) ?_ | refine brNot ?_)); conv => whnf)))
          | (rw [if_neg (by first | (intro h; cases h.1; done) | (intro h; have := h.2 h1; omega))] at hb
             conv => whnf
             repeat' (first | exact ⟨_, keepT_weak (maskOf 47 [2, 3, 4]) _, .inl ⟨rfl, i, hb.symm, rfl⟩⟩ | (refine ldI _ hld ?_; conv => whnf) | (refine lf seat_g cr ?_; conv => whnf) | ((first | refine zs (by omega) ?_ | refine zq6 ?_ | refine zs (by dsimp only; omega) ?_ | refine zs (show pendP _ _ by repeat' constructor) ?_ | (with_reducible first | refine brT ‹_› ?_ | refine brF ‹_› ?_ | refine zt (by omega) ?_ | refine zf (by omega) ?_ | refine brNot ?_)); conv => whnf)))
    · obtain rfl : i = C.length := by omega
      rw [List.drop_length] at hb
      conv => whnf
      repeat' (first | exact ⟨_, keepT_weak (maskOf 47 [0]) _, .inr ⟨rfl, hb.symm, rfl⟩⟩ | ((first | refine zs (by omega) ?_ | refine zq6 ?_ | refine zs (by dsimp only; omega) ?_ | refine zs (show pendP _ _ by repeat' constructor) ?_ | (with_reducible first | refine brT ‹_› ?_ | refine brF ‹_› ?_ | refine zt (by omega) ?_ | refine zf (by omega) ?_ | refine brNot ?_)); conv => whnf))
  · rintro _ _ _ (⟨rfl, i, rfl, rfl⟩ | ⟨rfl, rfl, rfl⟩)
    · conv => whnf
      rfl
    · have c := cw rfl
      unfold sgV at c
      unfold norV sgV
      clear cw
      cases r with
      | none =>
        conv => whnf
        repeat' (first | exact rfl | (refine lf seat_g c ?_; conv => whnf) | ((first | refine zs (by omega) ?_ | refine zq6 ?_ | refine zs (by dsimp only; omega) ?_ | refine zs (show pendP _ _ by repeat' constructor) ?_ | (with_reducible first | refine brT ‹_› ?_ | refine brF ‹_› ?_ | refine zt (by omega) ?_ | refine zf (by omega) ?_ | refine brNot ?_)); conv => whnf))
      | some i =>
        conv => whnf
        repeat' (first | exact rfl | (refine lf seat_g c ?_; conv => whnf) | ((first | refine zs (by omega) ?_ | refine zq6 ?_ | refine zs (by dsimp only; omega) ?_ | refine zs (show pendP _ _ by repeat' constructor) ?_ | (with_reducible first | refine brT ‹_› ?_ | refine brF ‹_› ?_ | refine zt (by omega) ?_ | refine zf (by omega) ?_ | refine brNot ?_)); conv => whnf))
set_option maxRecDepth 20000 in
theorem c_great (C : List (UInt8 × List Int)) (m : Int) (hm : 0 ≤ m ∧ m ≤ 1000) : ∃ b : Bool, ACalls seat 11 [cmdV C, .int .i64 m] [] (fun x _ => x = .ret (.bool b)) ∧ (b = false → (C.length : Int) ≤ m ∧ ∀ x ∈ C, x.2.length ≤ 20) := by
  by_cases g0 : (C.length : Int) > m
  · refine ⟨true, ?_, fun h => by cases h⟩
    refine ACalls.body seat_ok Tryd.func11 rfl rfl ?_
    unfold cmdV
    conv => whnf
    repeat' ((first | refine zs (by omega) ?_ | refine zq6 ?_ | refine zs (by dsimp only; omega) ?_ | refine zs (show pendP _ _ by repeat' constructor) ?_ | (with_reducible first | refine brT ‹_› ?_ | refine brF ‹_› ?_ | refine zt (by omega) ?_ | refine zf (by omega) ?_ | refine brNot ?_)); conv => whnf)
    rfl
  · refine ⟨C.any fun x => decide (20 < x.2.length), ?_, fun h => ⟨by omega, fun x hx => ?_⟩⟩
    rotate_left
    · apply Nat.le_of_not_lt; intro h2
      have := List.any_eq_false.1 h x hx
      exact this (decide_eq_true h2)
    refine ACalls.body seat_ok Tryd.func11 rfl rfl ?_
    generalize hB : (C.any fun x => decide (20 < x.2.length)) = B
    unfold cmdV
    conv => whnf
    repeat' ((first | refine zs (by omega) ?_ | refine zq6 ?_ | refine zs (by dsimp only; omega) ?_ | refine zs (show pendP _ _ by repeat' constructor) ?_ | (with_reducible first | refine brT ‹_› ?_ | refine brF ‹_› ?_ | refine zt (by omega) ?_ | refine zf (by omega) ?_ | refine brNot ?_)); conv => whnf)
    refine Sat.cut (fun x t h => (x = .ret ∧ B = true ∧ t = (uu::uu::uu::uu::.bool true::uu::uu::uu::uu::uu::uu::uu::uu::uu::uu::uu::uu::uu::uu::uu::uu::uu::uu::[])) ∨ (x = .exit 0 ∧ B = false ∧ t = (uu::uu::uu::uu::uu::uu::uu::uu::uu::uu::uu::uu::uu::uu::uu::uu::uu::uu::uu::uu::uu::uu::uu::[]))) ?_ ?_
    · refine Sat.invP seat_ok seat_g (maskOf 23 [0, 5]) 0 (fun μ t h => ∃ i : Nat, i ≤ C.length ∧ ((C.drop i).any fun x => decide (20 < x.2.length)) = B ∧ μ = C.length - i ∧ t = (.vec (cs cmdC C) C.length none::uu::uu::uu::uu::.int .i64 i::uu::uu::uu::uu::uu::uu::uu::uu::uu::uu::uu::uu::uu::uu::uu::uu::uu::[]) ∧ h = [])
        ?_ ⟨_, _, WeakL.of_eq rfl, 0, Nat.zero_le _, hB, rfl, rfl, rfl⟩ ?_
      · rintro _ _ _ ⟨i, -, -, -, rfl, rfl⟩
        exact ⟨rfl, by simp [IdsL, Ids, cmd_ids], (by simp [IdsL, Ids, IdsH, IdsC, lv_ids, ci_ids])⟩
      clear hB
      rintro _ _ _ ⟨i, hi, hb, rfl, rfl, rfl⟩
      by_cases g : i < C.length
      · obtain ⟨x, hx⟩ : ∃ x, C[i]? = some x := ⟨_, List.getElem?_eq_getElem g⟩
        have hld : sub (cs cmdC C) ((i : Int).toNat * 2) 2 = some (cmdC x) := cs_sub cmdC_len hx
        rw [drop_cons' hx, List.any_cons] at hb
        clear hx
        by_cases h2 : 20 < x.2.length
        · rw [decide_eq_true h2, Bool.true_or] at hb
          conv => whnf
          repeat' (first | exact ⟨_, keepT_weak (maskOf 23 [4]) _, .inl ⟨rfl, hb.symm, rfl⟩⟩ | (refine ldI _ hld ?_; conv => whnf) | ((first | refine zs (by omega) ?_ | refine zq6 ?_ | refine zs (by dsimp only; omega) ?_ | refine zs (show pendP _ _ by repeat' constructor) ?_ | (with_reducible first | refine brT ‹_› ?_ | refine brF ‹_› ?_ | refine zt (by omega) ?_ | refine zf (by omega) ?_ | refine brNot ?_)); conv => whnf))
        · rw [decide_eq_false h2, Bool.false_or] at hb
          conv => whnf
          repeat' (first | exact ⟨_, _, Nat.sub_lt_sub_left g (Nat.lt_succ_self i), WeakL.of_eq rfl, i + 1, g, hb, rfl, rfl, rfl⟩ | (refine ldI _ hld ?_; conv => whnf) | ((first | refine zs (by omega) ?_ | refine zq6 ?_ | refine zs (by dsimp only; omega) ?_ | refine zs (show pendP _ _ by repeat' constructor) ?_ | (with_reducible first | refine brT ‹_› ?_ | refine brF ‹_› ?_ | refine zt (by omega) ?_ | refine zf (by omega) ?_ | refine brNot ?_)); conv => whnf))
      · obtain rfl : i = C.length := by omega
        rw [List.drop_length] at hb
        conv => whnf
        repeat' (first | exact ⟨_, keepT_weak (maskOf 23 []) _, .inr ⟨rfl, hb.symm, rfl⟩⟩ | ((first | refine zs (by omega) ?_ | refine zq6 ?_ | refine zs (by dsimp only; omega) ?_ | refine zs (show pendP _ _ by repeat' constructor) ?_ | (with_reducible first | refine brT ‹_› ?_ | refine brF ‹_› ?_ | refine zt (by omega) ?_ | refine zf (by omega) ?_ | refine brNot ?_)); conv => whnf))
    · rintro _ _ _ (⟨rfl, rfl, rfl⟩ | ⟨rfl, rfl, rfl⟩)
      · conv => whnf
        rfl
      · conv => whnf
        rfl
end Go.Proofs.YteicdddheaajlaaDoor
namespace Go.Proofs.YteicdddheaajlaaDoor
open Go.Abs
theorem goR_snoc : ∀ (a p : List Sg) (x : Sg), goR p (a ++ [x]) = (goR p a && decide (stepP (p ++ a) x))
  | [], p, x => by
    simp only [List.nil_append, goR, List.append_nil, Bool.true_and]
    by_cases h : stepP p x
    · rw [if_pos h, decide_eq_true h]
    · rw [if_neg h, decide_eq_false h]
  | y :: a, p, x => by
    have ih := goR_snoc a (p ++ [y]) x
    simp only [List.cons_append, goR]
    by_cases h : stepP p y
    · rw [if_pos h, if_pos h, ih, List.append_assoc]; rfl
    · rw [if_neg h, if_neg h, Bool.false_and]
theorem good_snoc {l : List Sg} {x : Sg} (h : goR [] l = true) (hs : stepP l x) : goR [] (l ++ [x]) = true := by
  rw [goR_snoc, h, List.nil_append, decide_eq_true hs]; rfl
theorem ln_plain {k : Int} {p : Pt} (hk : k = 1 ∨ k = 2 ∨ k = 6) (hp : inP p) : plainP (lnS k p) :=
  ⟨.inl ⟨hk, ⟨rfl, rfl⟩, ⟨rfl, rfl⟩, ⟨rfl, rfl, rfl⟩, rfl, rfl⟩, Int.le_refl _, Int.le_refl _, ⟨hp.1, hp.2, IB0⟩, ⟨IB0, IB0, IB0⟩, IB0, IB0, IB0⟩
def CmdOk2 (x : UInt8 × List Int) : Prop := CmdOk x ∧ (bigI x.1.toNat = 65 → 0 ≤ x.2.getD 0 0 ∧ 0 ≤ x.2.getD 1 0)
theorem allA_u {ks : List UInt8} {v : Int} {vs : List Int} (h : allA (117 :: ks) (v :: vs) = true) : 0 ≤ v ∧ allA ks vs = true := by
  simp only [allA] at h
  split at h
  · cases h
  · rename_i g; exact ⟨Int.not_lt.1 fun hv => g (by first | exact .inr (.inr (.inl ⟨rfl, hv⟩)) | exact .inr (.inr (.inl ⟨trivial, hv⟩)) | (simp; omega)), h⟩
theorem right_ok2 {x : UInt8 × List Int} (h : rightR x.1.toNat x.2 = true) : CmdOk2 x := by
  have h1 := right_ok h
  refine ⟨h1, fun hb => ?_⟩
  have hc := (cmd_cap h1).2
  unfold rightR at h
  split at h
  · rename_i y hy
    obtain ⟨hm, hcap⟩ := ofN_mem hy
    split at h
    · rename_i hl
      have h65 : y.1 = 65 := by
        rw [hcap]; unfold capN; unfold bigI at hb
        split at hb
        · rw [if_pos (by omega)]; exact hb
        · rw [if_neg (by omega)]; exact hb
      have hs : ∀ y ∈ signL, y.1 = 65 → y.2 = [117, 117, 110, 103, 102, 110, 110] := by decide
      rw [hs y hm h65] at h hl
      obtain ⟨c, n⟩ := x
      simp only at h hl ⊢
      match n, hl, h with
      | a :: b :: r, _, h =>
        obtain ⟨ha, h⟩ := allA_u h
        obtain ⟨hb, -⟩ := allA_u h
        exact ⟨ha, hb⟩
    · cases h
  · cases h
theorem badI_ok2 : ∀ (l : List (UInt8 × List Int)) (i : Nat), badI l i = none → ∀ x ∈ l, CmdOk2 x
  | [], _, _, x, h => by cases h
  | y :: l, i, hb, x, h => by
    rw [badI] at hb
    split at hb
    · rename_i g
      rcases List.mem_cons.1 h with h | h
      · subst h; exact right_ok2 g.1
      · exact badI_ok2 l (i + 1) hb x h
    · cases hb
theorem getD_IB {n : List Int} (hv : ∀ v ∈ n, IB v) (i : Nat) : IB (n.getD i 0) := by
  rw [List.getD_eq_getElem?_getD]
  cases h : n[i]? with
  | none => exact IB0
  | some v => exact hv v (List.mem_of_getElem? h)
theorem sgR_step {c : Int} {n : List Int} {q : Pt} {k : List Sg} {w : Int} (hcap : (bigI c, n.length) ∈ capL) (hv : ∀ v ∈ n, IB v) (harc : bigI c = 65 → 0 ≤ n.getD 0 0 ∧ 0 ≤ n.getD 1 0) (hsh : bigI c ≠ 77 → shutR k = false) (h : sgIn (sgR c n q k w)) : stepP k (sgR c n q k w) := by
  have hg := getD_IB hv
  unfold sgR at h ⊢
  simp only at h ⊢
  generalize (if 97 ≤ c then q else p0) = f at *
  simp only [capL, List.mem_cons, List.not_mem_nil, or_false, Prod.mk.injEq] at hcap
  generalize bigI c = B at *
  rcases hcap with ⟨rfl, hn⟩ | ⟨rfl, hn⟩ | ⟨rfl, hn⟩ | ⟨rfl, hn⟩ | ⟨rfl, hn⟩ | ⟨rfl, hn⟩ | ⟨rfl, hn⟩ | ⟨rfl, hn⟩ | ⟨rfl, hn⟩ | ⟨rfl, hn⟩
  · exact ⟨ln_plain (.inl rfl) h.1, .inl rfl⟩
  · exact ⟨ln_plain (.inr (.inl rfl)) h.1, .inr ⟨hsh (by decide), fun e => absurd e (show ¬ ((2 : Int) = 6) by decide)⟩⟩
  · exact ⟨ln_plain (.inr (.inl rfl)) h.1, .inr ⟨hsh (by decide), fun e => absurd e (show ¬ ((2 : Int) = 6) by decide)⟩⟩
  · exact ⟨ln_plain (.inr (.inl rfl)) h.1, .inr ⟨hsh (by decide), fun e => absurd e (show ¬ ((2 : Int) = 6) by decide)⟩⟩
  · exact ⟨⟨.inr (.inl ⟨rfl, ⟨rfl, rfl, rfl⟩, rfl, rfl⟩), Int.le_refl _, Int.le_refl _, ⟨h.1.1, h.1.2, h.2.1.1⟩, ⟨h.2.1.2, h.2.2.1, h.2.2.2⟩, IB0, IB0, IB0⟩, .inr ⟨hsh (by decide), fun e => absurd e (show ¬ ((3 : Int) = 6) by decide)⟩⟩
  · exact ⟨⟨.inr (.inl ⟨rfl, ⟨rfl, rfl, rfl⟩, rfl, rfl⟩), Int.le_refl _, Int.le_refl _, ⟨h.1.1, h.1.2, h.2.1.1⟩, ⟨h.2.1.2, h.2.2.1, h.2.2.2⟩, IB0, IB0, IB0⟩, .inr ⟨hsh (by decide), fun e => absurd e (show ¬ ((3 : Int) = 6) by decide)⟩⟩
  · exact ⟨⟨.inr (.inr (.inl ⟨rfl, ⟨rfl, rfl⟩, ⟨rfl, rfl, rfl⟩, rfl, rfl⟩)), Int.le_refl _, Int.le_refl _, ⟨h.1.1, h.1.2, h.2.1.1⟩, ⟨h.2.1.2, h.2.2.1, h.2.2.2⟩, IB0, IB0, IB0⟩, .inr ⟨hsh (by decide), fun e => absurd e (show ¬ ((4 : Int) = 6) by decide)⟩⟩
  · exact ⟨⟨.inr (.inr (.inl ⟨rfl, ⟨rfl, rfl⟩, ⟨rfl, rfl, rfl⟩, rfl, rfl⟩)), Int.le_refl _, Int.le_refl _, ⟨h.1.1, h.1.2, h.2.1.1⟩, ⟨h.2.1.2, h.2.2.1, h.2.2.2⟩, IB0, IB0, IB0⟩, .inr ⟨hsh (by decide), fun e => absurd e (show ¬ ((4 : Int) = 6) by decide)⟩⟩
  · exact ⟨⟨.inr (.inr (.inr ⟨rfl, ⟨rfl, rfl⟩, rfl, rfl⟩)), (harc rfl).1, (harc rfl).2, ⟨h.1.1, h.1.2, IB0⟩, ⟨IB0, IB0, IB0⟩, hg 0, hg 1, hg 2⟩, .inr ⟨hsh (by decide), fun e => absurd e (show ¬ ((5 : Int) = 6) by decide)⟩⟩
  · exact ⟨ln_plain (.inr (.inr rfl)) h.1, .inr ⟨hsh (by decide), fun _ => ⟨rfl, rfl⟩⟩⟩
theorem kR_good {l : List Sg} (c : Int) (h : goR [] l = true) (hp : inP (atR l)) : goR [] (kR c l) = true ∧ (bigI c ≠ 77 → shutR (kR c l) = false) := by
  unfold kR
  split
  · exact ⟨good_snoc h ⟨ln_plain (.inl rfl) hp, .inl rfl⟩, fun _ => by rw [shutR_snoc]; rfl⟩
  · rename_i g; exact ⟨h, fun hb => by
      cases hs : shutR l with
      | false => rfl
      | true => exact absurd ⟨hs, hb⟩ g⟩
theorem walkN_good : ∀ (C : List (UInt8 × List Int)) (i : Nat) {s : St} {l : List Sg} {w : Int} {L : List Sg}, (∀ x ∈ C, CmdOk2 x) → StOk s → Rel s l w → goR [] l = true → walkN C i s = (L, none) → goR [] L = true
  | [], _, s, l, w, L, _, _, hr, hg, h => by cases h; rw [hr.out]; exact hg
  | x :: C, i, s, l, w, L, hC, hs, hr, hg, h => by
    obtain ⟨h1, h2⟩ := rel_step x.1.toNat x.2 hs hr
    rw [walkN] at h
    split at h
    · cases h
    · rename_i hb
      have hb : (doS s x.1.toNat x.2).bad = false := by simpa using hb
      have hin := h1.1 hb
      obtain ⟨h3, h4⟩ := h2 hin
      obtain ⟨hk, harc⟩ := hC x (.head _)
      have hp : inP (atR l) := by rw [← hr.pos]; exact hs.pos
      obtain ⟨g1, g2⟩ := kR_good x.1.toNat hg hp
      have hv : ∀ v ∈ x.2, IB v := by obtain ⟨-, -, -, hv⟩ := hk; exact hv
      exact walkN_good C (i + 1) (fun y hy => hC y (.tail _ hy)) h3 h4 (good_snoc g1 (sgR_step (cmd_cap hk).1 hv harc g2 hin)) h
end Go.Proofs.YteicdddheaajlaaDoor
namespace Go.Abs
open Go Go.RowKit Go.ChangeShapes
inductive DK where
  | flat (k : CK)
  | slice (ks : List CK)
def dkFs (g : TypeId → Option (List DK)) : List Field → Nat → Option (List DK)
  | [], _ => some []
  | f :: r, off => if Nat.beq f.offset off = true then (match g f.type with | some a => (match dkFs g r (off + a.length) with | some b => some (a ++ b) | none => none) | none => none) else none
def dkOf (P : Program) : Nat → TypeId → Option (List DK)
  | 0, _ => none
  | d + 1, t =>
    match (match P.underlying t with
      | some (.int k) => some [DK.flat (.int k)]
      | some .bool => some [DK.flat .bool]
      | some .string => some [DK.flat .str]
      | some (.slice e) => (match ckOf P d e with | some ks => if Nat.blt 0 (P.cellsOf e) = true then some [DK.slice ks] else none | none => none)
      | some (.struct fs) => dkFs (dkOf P d) fs.toList 0
      | _ => none) with
    | some a => if Nat.beq a.length (P.cellsOf t) = true then some a else none
    | none => none
def cellD (w : World) : DK → Value → Prop
  | .flat k, c => cellOK k c
  | .slice ks, v => (v = .slice none 0 0) ∨ ∃ (a : Addr) (len cap : Nat), v = .slice (some a) len cap ∧ len ≤ cap ∧ cap ≤ maxLen ∧ (0 < len → a.spot = none) ∧ ∀ i, i < len → ∃ cs, CellsOK ks cs ∧ ∀ j, j < ks.length → w.cell? ⟨a.block, a.off + (i * ks.length + j), none⟩ = cs[j]?
def CellsD (w : World) : List DK → List Value → Prop
  | [], [] => True
  | k :: ks, c :: cs => cellD w k c ∧ CellsD w ks cs
  | _, _ => False
theorem CellsD.cons {w : World} {k : DK} {ks : List DK} {cs : List Value} (h : CellsD w (k :: ks) cs) : ∃ c r, cs = c :: r ∧ cellD w k c ∧ CellsD w ks r := by
  cases cs with
  | nil => exact h.elim
  | cons c r => exact ⟨c, r, rfl, h.1, h.2⟩
theorem CellsD.nil {w : World} {cs : List Value} (h : CellsD w [] cs) : cs = [] := by
  cases cs with
  | nil => rfl
  | cons c r => exact h.elim
theorem CellsD.append {w : World} : ∀ {a b : List DK} {cs ds : List Value}, CellsD w a cs → CellsD w b ds → CellsD w (a ++ b) (cs ++ ds)
  | [], b, [], ds, _, k => k
  | _ :: a, b, _ :: cs, ds, h, k => ⟨h.1, CellsD.append h.2 k⟩
  | [], _, _ :: _, _, h, _ => h.elim
  | _ :: _, _, [], _, h, _ => h.elim
theorem dkOf_length {P : Program} {d : Nat} {t : TypeId} {ks : List DK} (h : dkOf P d t = some ks) : ks.length = P.cellsOf t := by
  cases d with
  | zero => simp [dkOf] at h
  | succ d =>
    unfold dkOf at h
    split at h
    · split at h
      · rename_i hb; cases h; exact Nat.eq_of_beq_eq_true hb
      · cases h
    · cases h
section
variable {H : Type} {enc : TypeId × Value → H} {P : Program} {w : World} {base : Nat} {sp : Nat → Bool} {held : Bool}
theorem dk_trod : ∀ (d : Nat) (t : TypeId) (ks : List DK), dkOf P d t = some ks → ∀ (n : Nat) (cs : List Value) (x : DataW H × List MemPlace), DataW.trod enc P w base sp held n t cs = some x → CellsD w ks cs
  | 0, t, ks, h, _, _, _, _ => by simp [dkOf] at h
  | d + 1, t, ks, h, n, cs, x, ht => by
    have hlen := dkOf_length h
    unfold dkOf at h
    split at h
    case h_2 => cases h
    rename_i a ha
    split at h
    case isFalse => cases h
    cases h
    split at ha
    · rename_i k hu
      cases ha
      obtain ⟨m, rfl, _, hw⟩ := DataW.trod_int hu ht
      exact ⟨⟨m, rfl, hw⟩, trivial⟩
    · rename_i hu
      cases ha
      obtain ⟨b, rfl, _⟩ := DataW.trod_bool hu ht
      exact ⟨⟨b, rfl⟩, trivial⟩
    · rename_i hu
      cases ha
      obtain ⟨s, rfl, _, hs⟩ := DataW.trod_string hu ht
      exact ⟨⟨s, rfl, hs⟩, trivial⟩
    · rename_i e hu
      split at ha
      case h_2 => cases ha
      rename_i ks1 hk1
      split at ha
      case isFalse => cases ha
      rename_i hpos
      cases ha
      have hpos : 0 < P.cellsOf e := by simpa using hpos
      obtain ⟨v, rfl⟩ : ∃ v, cs = [v] := by
        rcases DataW.trod_slice hu ht with ⟨hcs, _⟩ | ⟨a, len, cap, elems, rest, m, _, hcs, _⟩
        · exact ⟨_, hcs⟩
        · exact ⟨_, hcs⟩
      exact ⟨slice_cells hu hk1 hpos ht, trivial⟩
    · rename_i fs hu
      obtain ⟨xs, m, _, _, hcl, hxl, hf⟩ := DataW.trod_struct hu ht
      have key : ∀ (l : List Field) (off j : Nat) (b : List DK), fs.toList.drop j = l → dkFs (dkOf P d) l off = some b → off + b.length = cs.length → CellsD w b (cs.drop off) := by
        intro l
        induction l with
        | nil =>
          intro off j b hl hb hle
          simp only [dkFs, Option.some.injEq] at hb
          subst hb
          rw [List.drop_eq_nil_of_le (by simpa using Nat.le_of_eq hle.symm)]; trivial
        | cons f l ih =>
          intro off j b hl hb hle
          simp only [dkFs] at hb
          split at hb
          case isFalse => cases hb
          rename_i hoff
          have hoff := Nat.eq_of_beq_eq_true hoff
          split at hb
          case h_2 => cases hb
          rename_i a1 ha1
          split at hb
          case h_2 => cases hb
          rename_i b1 hb1
          cases hb
          have hgj : fs[j]? = some f := by
            have : fs.toList[j]? = some f := by rw [← List.head?_drop, hl]; rfl
            simpa using this
          have hjl : j < fs.size := (Array.getElem?_eq_some_iff.1 hgj).1
          have hd := hf j f hgj
          obtain ⟨y, hy⟩ : ∃ y, xs[j]? = some y := ⟨xs[j]'(by omega), List.getElem?_eq_getElem (by omega)⟩
          rw [hy, hoff] at hd
          have h1 := dk_trod d f.type a1 ha1 m _ y hd
          have hl1 := dkOf_length ha1
          have h2 := ih (off + a1.length) (j + 1) b1 (by rw [← List.tail_drop, hl]; rfl) hb1 (by simp at hle; omega)
          have e : cs.drop off = (cs.drop off).take (P.cellsOf f.type) ++ cs.drop (off + a1.length) := by
            rw [hl1, ← List.drop_drop, List.take_append_drop]
          rw [e]
          exact h1.append h2
      have := key fs.toList 0 0 _ rfl ha (by rw [hcl]; omega)
      simpa using this
    · cases ha
theorem slice_vr {α : Type} {f : α → List AV} {I : α → Prop} {ks : List CK} (he : Elem f I ks) {v : Value} (h : cellD w (.slice ks) v) :
    ∃ l : List α, (∀ a ∈ l, I a) ∧ l.length ≤ maxLen ∧ VR (Env.bare (immAll w) w) (.vec (cs f l) l.length none) v := by
  rcases h with rfl | ⟨a, len, cap, rfl, hle, hcm, hsp, hc⟩
  · refine ⟨[], fun a h => absurd h (by simp), Nat.zero_le _, ?_⟩
    simp only [VR]
    exact ⟨none, 0, rfl, Nat.le_refl _, by simp [cs], fun i hi => nomatch hi⟩
  · have key : ∀ m, m ≤ len → ∃ l : List α, l.length = m ∧ ∀ (i : Nat) x, l[i]? = some x → I x ∧ VRI (Env.bare (immAll w) w) (f x) a.block (a.off + i * ks.length) := by
      intro m
      induction m with
      | zero => intro _; exact ⟨[], rfl, fun i x hx => by simp at hx⟩
      | succ m ih =>
        intro hm
        obtain ⟨l, h2, h3⟩ := ih (by omega)
        obtain ⟨cs, hcs, hcell⟩ := hc m (by omega)
        obtain ⟨x, hx, hxv⟩ := he.of cs hcs
        refine ⟨l ++ [x], by simp [h2], fun i y hy => ?_⟩
        rw [List.getElem?_append] at hy
        split at hy
        · exact h3 i y hy
        · rename_i hge
          have : i = m := by
            have := (List.getElem?_eq_some_iff.1 hy).1
            simp at this; omega
          subst this
          rw [h2, Nat.sub_self] at hy
          simp at hy; subst hy
          refine ⟨hx, VRI.of_get fun j c hj => ?_⟩
          obtain ⟨u, hu1, hu2⟩ := (hxv (Env.bare (immAll w) w)).get j c hj
          refine ⟨u, ?_, hu2⟩
          show w.cell? ⟨a.block, a.off + i * ks.length + j, none⟩ = some u
          have hjl : j < ks.length := by rw [← he.len x]; exact (List.getElem?_eq_some_iff.1 hj).1
          rw [Nat.add_assoc, hcell j hjl, hu1]
    obtain ⟨l, h2, h3⟩ := key len (Nat.le_refl _)
    refine ⟨l, fun x hx => ?_, by rw [h2]; exact Nat.le_trans hle hcm, ?_⟩
    · obtain ⟨i, hi⟩ := List.getElem?_of_mem hx
      exact (h3 i x hi).1
    · simp only [VR]
      refine ⟨_, _, by rw [h2], by rw [h2]; exact hle, ?_, fun i hi => nomatch hi⟩
      by_cases h0 : 0 < len
      · right
        refine ⟨a.block, a.off, ?_, vri_list he.len l a.off fun i x hx => (h3 i x hx).2⟩
        have := hsp h0
        cases a; simp_all
      · left
        have : l = [] := List.eq_nil_of_length_eq_zero (by omega)
        subst this; rfl
structure Elem2 {α : Type} (f : α → List AV) (I : α → Prop) (ks : List DK) : Prop where
  len : ∀ a, (f a).length = ks.length
  of : ∀ (w : World) cs, CellsD w ks cs → ∃ a, I a ∧ VRL (Env.bare (immAll w) w) (f a) cs
theorem slice_cellsD {t e : TypeId} {d : Nat} {ks : List DK} {n : Nat} {v : Value} {x : DataW H × List MemPlace} (hu : P.underlying t = some (.slice e)) (hk : dkOf P d e = some ks) (hpos : 0 < P.cellsOf e) (h : DataW.trod enc P w base sp held n t [v] = some x) :
    (v = .slice none 0 0) ∨ ∃ (a : Addr) (len cap : Nat), v = .slice (some a) len cap ∧ len ≤ cap ∧ cap ≤ maxLen ∧ (0 < len → a.spot = none) ∧ ∀ i, i < len → ∃ cs, CellsD w ks cs ∧ ∀ j, j < ks.length → w.cell? ⟨a.block, a.off + (i * ks.length + j), none⟩ = cs[j]? := by
  rcases DataW.trod_slice hu h with ⟨hcs, _⟩ | ⟨a, len, cap, elems, rest, m, _, hcs, _, _, hle, hcm, hel, hg, _⟩
  · exact .inl (by simpa using hcs)
  · have hl := dkOf_length hk
    refine .inr ⟨a, len, cap, by simpa using hcs, hle, hcm, fun h0 => ?_, fun i hi => ?_⟩
    · have := hg 0 h0
      obtain ⟨y, hy⟩ : ∃ y, elems[0]? = some y := ⟨elems[0]'(by omega), List.getElem?_eq_getElem (by omega)⟩
      rw [hy] at this
      simp only [Nat.zero_mul, Option.bind_eq_some_iff] at this
      obtain ⟨cs, hc, _⟩ := this
      obtain ⟨h1, h2⟩ := cells?_get hc
      have h3 := h2 0 hpos
      rw [List.getElem?_eq_getElem (by omega)] at h3
      simp only [Addr.add, if_true, World.cell?] at h3
      split at h3
      · split at h3
        · cases h3
        · rename_i hs; simpa using hs
      · cases h3
    · have := hg i hi
      obtain ⟨y, hy⟩ : ∃ y, elems[i]? = some y := ⟨elems[i]'(by omega), List.getElem?_eq_getElem (by omega)⟩
      rw [hy] at this
      simp only [Option.bind_eq_some_iff] at this
      obtain ⟨cs, hc, ht⟩ := this
      obtain ⟨h1, h2⟩ := cells?_get hc
      refine ⟨cs, dk_trod d e ks hk m cs y ht, fun j hj => ?_⟩
      have e1 : ∀ (u : Value), w.cell? ((a.add (i * P.cellsOf e)).add j) = some u → w.cell? ⟨a.block, a.off + (i * P.cellsOf e + j), none⟩ = some u := by
        intro u hu
        simp only [World.cell?, Addr.add] at hu ⊢
        by_cases hi0 : i * P.cellsOf e = 0
        · by_cases hj0 : j = 0
          · simp only [hi0, hj0, if_true, Nat.add_zero] at hu ⊢
            split at hu
            · split at hu
              · cases hu
              · simpa using hu
            · cases hu
          · simpa only [hi0, hj0, if_true, if_false, Nat.zero_add] using hu
        · by_cases hj0 : j = 0
          · simpa only [hi0, hj0, if_true, if_false, Nat.add_zero] using hu
          · simpa only [hi0, hj0, if_false, Nat.add_assoc] using hu
      have h4 := h2 j (by omega)
      rw [List.getElem?_eq_getElem (by omega)] at h4 ⊢
      rw [hl]; exact e1 _ h4
theorem open_list2 {α : Type} {f : α → List AV} {I : α → Prop} {ks : List DK} (he : Elem2 f I ks) (hks : 0 < ks.length) {r : Reach} {b0 : Nat} {t e : TypeId} {v : Value} {d : DataW H} {ps : List MemPlace} (hu : P.underlying t = some (.slice e)) (hk : dkOf P 9 e = some ks) (hval : Value.okWide P w r b0 t v) (hd : DataW.Trod enc P w base sp held t v d ps) :
    ∃ l : List α, (∀ a ∈ l, I a) ∧ l.length ≤ maxLen ∧ VR (Env.bare (immAll w) w) (.vec (cs f l) l.length none) v := by
  have hl := dkOf_length hk
  have h1 : v.cells.toList = [v] := by
    unfold Value.okWide at hval
    rw [hu] at hval
    simp only [] at hval
    cases v <;> first | rfl | (simp [Cell.okWide, Cell.ok, hu] at hval)
  obtain ⟨n, hn⟩ := hd
  rw [h1] at hn
  rcases slice_cellsD hu hk (by omega) hn with rfl | ⟨a, len, cap, rfl, hle, hcm, hsp, hc⟩
  · refine ⟨[], fun a h => absurd h (by simp), Nat.zero_le _, ?_⟩
    simp only [VR]
    exact ⟨none, 0, rfl, Nat.le_refl _, by simp [cs], fun i hi => nomatch hi⟩
  · have key : ∀ m, m ≤ len → ∃ l : List α, l.length = m ∧ ∀ (i : Nat) x, l[i]? = some x → I x ∧ VRI (Env.bare (immAll w) w) (f x) a.block (a.off + i * ks.length) := by
      intro m
      induction m with
      | zero => intro _; exact ⟨[], rfl, fun i x hx => by simp at hx⟩
      | succ m ih =>
        intro hm
        obtain ⟨l, h2, h3⟩ := ih (by omega)
        obtain ⟨cs, hcs, hcell⟩ := hc m (by omega)
        obtain ⟨x, hx, hxv⟩ := he.of w cs hcs
        refine ⟨l ++ [x], by simp [h2], fun i y hy => ?_⟩
        rw [List.getElem?_append] at hy
        split at hy
        · exact h3 i y hy
        · rename_i hge
          have : i = m := by
            have := (List.getElem?_eq_some_iff.1 hy).1
            simp at this; omega
          subst this
          rw [h2, Nat.sub_self] at hy
          simp at hy; subst hy
          refine ⟨hx, VRI.of_get fun j c hj => ?_⟩
          obtain ⟨u, hu1, hu2⟩ := hxv.get j c hj
          refine ⟨u, ?_, hu2⟩
          show w.cell? ⟨a.block, a.off + i * ks.length + j, none⟩ = some u
          have hjl : j < ks.length := by rw [← he.len x]; exact (List.getElem?_eq_some_iff.1 hj).1
          rw [Nat.add_assoc, hcell j hjl, hu1]
    obtain ⟨l, h2, h3⟩ := key len (Nat.le_refl _)
    refine ⟨l, fun x hx => ?_, by rw [h2]; exact Nat.le_trans hle hcm, ?_⟩
    · obtain ⟨i, hi⟩ := List.getElem?_of_mem hx
      exact (h3 i x hi).1
    · simp only [VR]
      refine ⟨_, _, by rw [h2], by rw [h2]; exact hle, ?_, fun i hi => nomatch hi⟩
      by_cases h0 : 0 < len
      · right
        refine ⟨a.block, a.off, ?_, vri_list he.len l a.off fun i x hx => (h3 i x hx).2⟩
        have := hsp h0
        cases a; simp_all
      · left
        have : l = [] := List.eq_nil_of_length_eq_zero (by omega)
        subst this; rfl
end
end Go.Abs
namespace Go.Proofs.YteicdddheaajlaaDoor
open Go.Abs Go.RowKit
def cmdOK (x : UInt8 × List Int) : Prop := ∀ v ∈ x.2, I64 v
def i64c (n : Int) : List AV := [.int .i64 n]
theorem i64_elem : Elem i64c I64 [.int .i64] where
  len _ := rfl
  of cs h := by
    obtain ⟨a, _, rfl, w1, h⟩ := h.consI
    obtain rfl := h.nil
    exact ⟨a, wf_I64 w1, fun E => by simp [i64c, VRL, VR]⟩
theorem cs_i64 : ∀ l : List Int, cs i64c l = ci .i64 l
  | [] => rfl
  | a :: l => by have := cs_i64 l; simp only [cs, ci, List.flatMap_cons, List.map_cons] at *; rw [this]; rfl
theorem cmd_elem : Elem2 cmdC cmdOK [.flat (.int .u8), .slice [.int .i64]] where
  len _ := rfl
  of w cs h := by
    obtain ⟨c, r, rfl, ⟨n, rfl, w1⟩, g⟩ := h.cons
    obtain ⟨v, r, rfl, h2, g2⟩ := g.cons
    obtain rfl := g2.nil
    obtain ⟨l, k1, -, k3⟩ := slice_vr i64_elem h2
    have hn : 0 ≤ n ∧ n < 256 := by
      simp [Lit.wf, IntKind.min, IntKind.max, IntKind.signed, IntKind.bits] at w1; omega
    refine ⟨(UInt8.ofNat n.toNat, l), k1, ?_⟩
    have hu : ((UInt8.ofNat n.toNat).toNat : Int) = n := by
      have h8 : (UInt8.ofNat n.toNat).toNat = n.toNat % 256 := rfl
      rw [h8]; omega
    rw [cs_i64] at k3
    show VRL _ [.int .u8 ((UInt8.ofNat n.toNat).toNat : Int), .vec (ci .i64 l) l.length none] _
    rw [hu]
    exact .cons (vr_int _ _ _) (.cons k3 .nil)
end Go.Proofs.YteicdddheaajlaaDoor
