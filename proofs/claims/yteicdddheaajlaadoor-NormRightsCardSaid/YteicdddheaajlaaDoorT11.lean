/- Definitions and lemmas for the law, part 11. No condition beyond those in each statement. -/
import Derived.Test.YteicdddheaajlaaDoorT10
set_option linter.unusedSimpArgs false
set_option linter.unusedVariables false
set_option linter.deprecated false
namespace Go.Proofs.YteicdddheaajlaaDoor
open Go.Abs
theorem consB {ks : List CK} {cs : List Value} (h : CellsOK (.bool :: ks) cs) : ∃ b r, cs = .bool b :: r ∧ CellsOK ks r := by
  obtain ⟨c, r, rfl, ⟨b, rfl⟩, h2⟩ := CellsOK.cons h
  exact ⟨b, r, rfl, h2⟩
theorem sg_elem : Elem sgC (fun _ => True) [.int .i64, .int .i64, .int .i64, .int .i64, .int .i64, .int .i64, .int .i64, .int .i64, .int .i64, .int .i64, .bool, .bool] where
  len _ := rfl
  of cs h := by
    obtain ⟨a, _, rfl, w1, h⟩ := h.consI
    obtain ⟨b, _, rfl, w2, h⟩ := h.consI
    obtain ⟨c, _, rfl, w3, h⟩ := h.consI
    obtain ⟨d, _, rfl, w4, h⟩ := h.consI
    obtain ⟨e, _, rfl, w5, h⟩ := h.consI
    obtain ⟨f, _, rfl, w6, h⟩ := h.consI
    obtain ⟨g, _, rfl, w7, h⟩ := h.consI
    obtain ⟨i, _, rfl, w8, h⟩ := h.consI
    obtain ⟨j, _, rfl, w9, h⟩ := h.consI
    obtain ⟨k, _, rfl, w10, h⟩ := h.consI
    obtain ⟨l, q, hq, hb1⟩ := consB h
    subst hq
    obtain ⟨m, q2, hq2, hb2⟩ := consB hb1
    subst hq2
    obtain rfl := hb2.nil
    exact ⟨⟨a, ⟨b, c⟩, ⟨d, e⟩, ⟨f, g⟩, i, j, k, l, m⟩, trivial, fun E => by simp [sgC, VRL, VR]⟩
set_option maxRecDepth 20000 in
set_option maxHeartbeats 1000000 in
theorem l_normRights (l : List Sg) (C : List (UInt8 × List Int)) : ACalls seat 6 [sgV l, cmdV C] [] (fun x _ => x = .ret (.bool true)) := by
  refine ACalls.body seat_ok Tryd.func6 rfl rfl ?_
  by_cases g0 : (l.length : Int) > 60
  · unfold sgV cmdV
    conv => whnf
    repeat' (first | exact rfl | (refine CallH.lift seat_g c_wakes trivial (by simp [Closed]) ?_; conv => whnf) | ((first | refine zs (by omega) ?_ | refine zq6 ?_ | refine zs (by dsimp only; omega) ?_ | refine zs (show pendP _ _ by repeat' constructor) ?_ | (with_reducible first | refine brT ‹_› ?_ | refine brF ‹_› ?_ | refine zt (by omega) ?_ | refine zf (by omega) ?_ | refine brNot ?_)); conv => whnf))
  obtain ⟨b, cg, hb⟩ := c_great C 40 (by decide)
  cases b with
  | true =>
    clear hb
    unfold sgV cmdV at *
    conv => whnf
    repeat' (first | exact rfl | (refine CallH.lift seat_g c_wakes trivial (by simp [Closed]) ?_; conv => whnf) | (refine lf seat_g cg ?_; conv => whnf) | ((first | refine zs (by omega) ?_ | refine zq6 ?_ | refine zs (by dsimp only; omega) ?_ | refine zs (show pendP _ _ by repeat' constructor) ?_ | (with_reducible first | refine brT ‹_› ?_ | refine brF ‹_› ?_ | refine zt (by omega) ?_ | refine zf (by omega) ?_ | refine brNot ?_)); conv => whnf))
  | false =>
    obtain ⟨h1, h2⟩ := hb rfl
    obtain ⟨⟨L, r⟩, hW⟩ : ∃ p, walkN C 0 st0 = p := ⟨_, rfl⟩
    have c1 := c_normal C (by omega) (fun x hx => by have := h2 x hx; omega) L r hW
    have d1 := c_nright l (by omega)
    have d2 := c_rright7 l (by omega)
    have hLl := walkN_len C 0 st0
    rw [hW] at hLl
    have h00 : st0.out.length = 0 := rfl
    simp only at hLl
    have d3 := c_nright L (by omega)
    have d4 := c_rright7 L (by omega)
    have h3 : (∃ i : Nat, badI C 0 = some i) ∨ (badI C 0 = none ∧ ∃ i, r = some i) ∨ (badI C 0 = none ∧ r = none ∧ goR [] L = true) := by
      cases hB : badI C 0 with
      | some i => exact .inl ⟨i, rfl⟩
      | none =>
        cases r with
        | some i => exact .inr (.inl ⟨rfl, i, rfl⟩)
        | none => exact .inr (.inr ⟨rfl, rfl, walkN_good C 0 (badI_ok2 C 0 hB) st0_ok rel0 rfl hW⟩)
    clear hW h2 hLl h00
    generalize goR [] l = R at *
    rcases h3 with ⟨i, h3⟩ | ⟨h3, i, rfl⟩ | ⟨h3, rfl, h4⟩
    all_goals
      rw [h3] at c1
      try rw [h4] at d3 d4
      unfold norV sgV at c1
      unfold sgV cmdV at *
      cases R
    all_goals
      conv => whnf
      repeat' (first | exact rfl | (refine CallH.lift seat_g c_wakes trivial (by simp [Closed]) ?_; conv => whnf) | (refine lf seat_g cg ?_; conv => whnf) | (refine lf seat_g c1 ?_; conv => whnf) | (refine lf seat_g d1 ?_; conv => whnf) | (refine lf seat_g d2 ?_; conv => whnf) | (refine lf seat_g d3 ?_; conv => whnf) | (refine lf seat_g d4 ?_; conv => whnf) | ((first | refine zs (by omega) ?_ | refine zq6 ?_ | refine zs (by dsimp only; omega) ?_ | refine zs (show pendP _ _ by repeat' constructor) ?_ | (with_reducible first | refine brT ‹_› ?_ | refine brF ‹_› ?_ | refine zt (by omega) ?_ | refine zf (by omega) ?_ | refine brNot ?_)); conv => whnf))
end Go.Proofs.YteicdddheaajlaaDoor
