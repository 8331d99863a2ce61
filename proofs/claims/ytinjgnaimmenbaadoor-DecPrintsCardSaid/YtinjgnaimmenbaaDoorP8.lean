/- Definitions and lemmas for the law, part 8. No condition beyond those in each statement. -/
import Derived.Test.YtinjgnaimmenbaaDoorP7
set_option linter.unusedSimpArgs false
set_option linter.unusedVariables false
set_option linter.deprecated false
namespace Go.Proofs.YtinjgnaimmenbaaDoor
open Go.Abs
set_option maxRecDepth 20000 in
set_option maxHeartbeats 2000000 in
theorem c_rprint (n : Int) (hn : I64 n) : ACalls seat 12 [.int .i64 n] [] (fun x _ => x = .ret (.str (prD n))) := by
  refine ACalls.bodyS seat_ok Tryd.func12 rfl rfl ?_
  have co := c_of n hn
  obtain ⟨m, hm⟩ : ∃ m, m = n.natAbs := ⟨_, rfl⟩
  have hmb : m ≤ 9223372036854775808 := by have := hn; unfold I64 at this; omega
  rw [← hm] at co
  unfold prD
  rw [← hm]
  refine Sat.splitAt seat_ok (fun t h => t = (uu::uu::uu::.str (prS n)::.ptr 0 0::.int .u64 0::uu::uu::uu::uu::uu::uu::uu::uu::uu::uu::uu::uu::uu::uu::uu::uu::uu::uu::uu::uu::uu::uu::uu::uu::uu::uu::uu::uu::uu::uu::uu::uu::uu::uu::uu::uu::uu::uu::uu::uu::uu::uu::uu::uu::uu::uu::uu::uu::uu::uu::uu::uu::uu::uu::uu::uu::uu::uu::uu::uu::uu::uu::uu::uu::uu::uu::[]) ∧ h = [.var [.bool (decide (n < 0)), lv (dig m)] 51]) 5 ?_ ?_
  · unfold prS
    by_cases h : n < 0
    · rw [decide_eq_true h] at co ⊢
      rw [if_pos h]
      conv => whnf
      repeat' (first | exact ⟨_, keepT_weak (maskOf 72 [3, 4, 5]) _, rfl, rfl⟩ | (refine CallH.lift seat_g co (by simp [Closed, ClosedL]) (nv_closed _ _) ?_; conv => whnf) | ((first | refine zq1 (by omega) ?_ | refine zq2 (by omega) ?_ | refine NumH.rem (by omega) ?_ | refine zq4 (by omega) ?_ | refine zq5 (by omega) ?_ | refine zq6 ?_ | refine Req.mk (by omega) ?_ | refine Req.mk (by dsimp only; omega) ?_ | refine Req.mk (show pendP _ _ by repeat' constructor) ?_ | (with_reducible first | refine brT (by assumption) ?_ | refine brF (by assumption) ?_ | refine brDT (by omega) ?_ | refine brDF (by omega) ?_ | refine brET (by omega) ?_ | refine brEF (by omega) ?_ | refine brNET (by omega) ?_ | refine brNEF (by omega) ?_ | refine brNot ?_)); conv => whnf))
    · rw [decide_eq_false h] at co ⊢
      rw [if_neg h]
      conv => whnf
      repeat' (first | exact ⟨_, keepT_weak (maskOf 72 [3, 4, 5]) _, rfl, rfl⟩ | (refine CallH.lift seat_g co (by simp [Closed, ClosedL]) (nv_closed _ _) ?_; conv => whnf) | ((first | refine zq1 (by omega) ?_ | refine zq2 (by omega) ?_ | refine NumH.rem (by omega) ?_ | refine zq4 (by omega) ?_ | refine zq5 (by omega) ?_ | refine zq6 ?_ | refine Req.mk (by omega) ?_ | refine Req.mk (by dsimp only; omega) ?_ | refine Req.mk (show pendP _ _ by repeat' constructor) ?_ | (with_reducible first | refine brT (by assumption) ?_ | refine brF (by assumption) ?_ | refine brDT (by omega) ?_ | refine brDF (by omega) ?_ | refine brET (by omega) ?_ | refine brEF (by omega) ?_ | refine brNET (by omega) ?_ | refine brNEF (by omega) ?_ | refine brNot ?_)); conv => whnf))
  rintro _ _ ⟨rfl, rfl⟩
  generalize hSS : prS n = S
  have hSl : S.length ≤ 1 := by rw [← hSS]; unfold prS; split <;> simp
  have hD := dig_Dg m
  have hdv := dv_drop m
  have hll : (dig m).length ≤ 5 := dig_length_lt (Nat.lt_of_le_of_lt hmb (by decide))
  refine Sat.splitAt seat_ok (fun t h => t = (uu::uu::uu::.str S::.ptr 0 0::.int .u64 ((m / 65536 : Nat) : Int)::uu::uu::uu::uu::uu::uu::uu::uu::uu::uu::uu::uu::uu::uu::uu::uu::uu::uu::uu::uu::uu::uu::uu::uu::uu::uu::uu::uu::uu::uu::uu::uu::uu::uu::uu::uu::uu::uu::uu::uu::uu::uu::uu::uu::uu::uu::uu::uu::uu::uu::uu::uu::uu::uu::uu::uu::uu::uu::uu::uu::uu::uu::uu::uu::uu::uu::[]) ∧ h = [.var [.bool (decide (n < 0)), lv (dig m)] 51]) 1 ?_ ?_
  · generalize decide (n < 0) = sn
    conv => whnf
    repeat' ((first | refine zq1 (by omega) ?_ | refine zq2 (by omega) ?_ | refine NumH.rem (by omega) ?_ | refine zq4 (by omega) ?_ | refine zq5 (by omega) ?_ | refine zq6 ?_ | refine Req.mk (by omega) ?_ | refine Req.mk (by dsimp only; omega) ?_ | refine Req.mk (show pendP _ _ by repeat' constructor) ?_ | (with_reducible first | refine brT (by assumption) ?_ | refine brF (by assumption) ?_ | refine brDT (by omega) ?_ | refine brDF (by omega) ?_ | refine brET (by omega) ?_ | refine brEF (by omega) ?_ | refine brNET (by omega) ?_ | refine brNEF (by omega) ?_ | refine brNot ?_)); conv => whnf)
    refine Sat.cut (fun x t h => x = .exit 0 ∧ t = (uu::uu::uu::.str S::.ptr 0 0::.int .u64 ((m / 65536 : Nat) : Int)::uu::uu::uu::uu::uu::uu::uu::uu::uu::uu::uu::uu::uu::uu::uu::uu::uu::uu::uu::uu::uu::uu::uu::uu::uu::uu::uu::uu::uu::uu::uu::uu::uu::uu::uu::uu::uu::uu::uu::uu::uu::uu::uu::uu::uu::uu::uu::uu::uu::uu::uu::uu::uu::uu::uu::uu::uu::uu::uu::uu::uu::uu::uu::uu::uu::uu::[]) ∧ h = [.var [.bool sn, lv (dig m)] 51]) ?_ ?_
    · refine Sat.invP seat_ok seat_g (maskOf 72 [3, 4, 5, 6]) 1 (fun μ t h => ∃ (j : Nat) (z u : Int), j ≤ (dig m).length ∧ (1 ≤ j ∨ (dig m).length = 0) ∧ z = (j : Int) - 1 ∧ u = dv ((dig m).drop j) ∧ μ = j ∧ t = (uu::uu::uu::.str S::.ptr 0 0::.int .u64 u::.int .i64 z::uu::uu::uu::uu::uu::uu::uu::uu::uu::uu::uu::uu::uu::uu::uu::uu::uu::uu::uu::uu::uu::uu::uu::uu::uu::uu::uu::uu::uu::uu::uu::uu::uu::uu::uu::uu::uu::uu::uu::uu::uu::uu::uu::uu::uu::uu::uu::uu::uu::uu::uu::uu::uu::uu::uu::uu::uu::uu::uu::uu::uu::uu::uu::uu::uu::[]) ∧ h = [.var [.bool sn, lv (dig m)] 51])
        ?_ ⟨_, _, WeakL.of_eq rfl, (dig m).length, _, 0, Nat.le_refl _, by omega, rfl, by rw [List.drop_length]; rfl, rfl, rfl, rfl⟩ ?_
      · rintro _ _ _ ⟨j, z, u, -, -, -, -, -, rfl, rfl⟩
        exact ⟨rfl, (by simp [IdsL, Ids, IdsH, IdsC, lv_ids, ci_ids]), (by simp [IdsL, Ids, IdsH, IdsC, lv_ids, ci_ids])⟩
      rintro j _ _ ⟨_, z, u, hj, hj1, hz, hu, rfl, rfl, rfl⟩
      have h1 := hdv j
      by_cases g : 2 ≤ j
      · obtain ⟨j, rfl⟩ : ∃ i, j = i + 1 := ⟨j - 1, by omega⟩
        obtain ⟨x, hx⟩ : ∃ x, (dig m)[j]? = some x := ⟨_, List.getElem?_eq_getElem (by omega)⟩
        have hxb := hD x (List.mem_of_getElem? hx)
        have hds : dv ((dig m).drop j) = x + 65536 * dv ((dig m).drop (j + 1)) := by rw [drop_cons' hx]; rfl
        have h2 := hdv j
        have h3 : m / 65536 ^ j ≤ m / 65536 ^ 1 := Nat.div_le_div_left (Nat.pow_le_pow_right (by decide) (by omega)) (by decide)
        have h4 : 0 ≤ u := by rw [hu, h1]; exact Int.natCast_nonneg _
        have hub : u * 65536 + x < 281474976710656 := by
          rw [hu]
          rw [hds] at h2
          have h5 : m / 65536 ^ 1 < 281474976710656 := by rw [Nat.pow_one]; omega
          omega
        have e1 : z.toNat = j := by omega
        have hx' : (dig m)[z.toNat]? = some x := by rw [e1]; exact hx
        have g1 : z > 0 := by omega
        have hzl : z < (dig m).length := by omega
        have hu2 : u * 65536 + x = dv ((dig m).drop j) := by rw [hds, hu]; omega
        clear hdv hds h2 h3 h1
        conv => whnf
        repeat' (first | exact ⟨_, _, Nat.lt_succ_self j, WeakL.of_eq rfl, j, z - 1, u * 65536 + x, by omega, by omega, by omega, hu2, rfl, rfl, rfl⟩ | (refine ldI _ (ci_sub .i64 hx') ?_; conv => whnf) | ((first | refine zq1 (by omega) ?_ | refine zq2 (by omega) ?_ | refine NumH.rem (by omega) ?_ | refine zq4 (by omega) ?_ | refine zq5 (by omega) ?_ | refine zq6 ?_ | refine Req.mk (by omega) ?_ | refine Req.mk (by dsimp only; omega) ?_ | refine Req.mk (show pendP _ _ by repeat' constructor) ?_ | (with_reducible first | refine brT (by assumption) ?_ | refine brF (by assumption) ?_ | refine brDT (by omega) ?_ | refine brDF (by omega) ?_ | refine brET (by omega) ?_ | refine brEF (by omega) ?_ | refine brNET (by omega) ?_ | refine brNEF (by omega) ?_ | refine brNot ?_)); conv => whnf))
      · have g1 : ¬ (z > 0) := by omega
        have hu2 : u = ((m / 65536 : Nat) : Int) := by
          rcases Nat.lt_or_ge 0 j with hj0 | hj0
          · rw [hu, h1, show j = 1 by omega, Nat.pow_one]
          · have hl0 : (dig m).length = 0 := by omega
            have hm0 : m = 0 := by
              apply Classical.byContradiction; intro h; rw [dig_pos h] at hl0; simp at hl0
            rw [hu, h1, hm0]; simp
        rw [hu2]
        conv => whnf
        repeat' ((first | refine zq1 (by omega) ?_ | refine zq2 (by omega) ?_ | refine NumH.rem (by omega) ?_ | refine zq4 (by omega) ?_ | refine zq5 (by omega) ?_ | refine zq6 ?_ | refine Req.mk (by omega) ?_ | refine Req.mk (by dsimp only; omega) ?_ | refine Req.mk (show pendP _ _ by repeat' constructor) ?_ | (with_reducible first | refine brT (by assumption) ?_ | refine brF (by assumption) ?_ | refine brDT (by omega) ?_ | refine brDF (by omega) ?_ | refine brET (by omega) ?_ | refine brEF (by omega) ?_ | refine brNET (by omega) ?_ | refine brNEF (by omega) ?_ | refine brNot ?_)); conv => whnf)
        exact ⟨_, keepT_weak (maskOf 72 [3, 4, 5]) _, rfl, rfl, rfl⟩
    · rintro _ _ _ ⟨rfl, rfl, rfl⟩
      conv => whnf
      exact ⟨_, WeakL.refl _, rfl, rfl⟩
  rintro _ _ ⟨rfl, rfl⟩
  refine Sat.splitAt seat_ok (fun t h => t = (uu::uu::uu::.str S::uu::.int .u64 ((m / 65536 : Nat) : Int)::uu::.int .i64 ((m % 65536 : Nat) : Int)::uu::uu::uu::uu::uu::uu::uu::uu::uu::uu::uu::uu::uu::uu::uu::uu::uu::uu::uu::uu::uu::uu::uu::uu::uu::uu::uu::uu::uu::uu::uu::uu::uu::uu::uu::uu::uu::uu::uu::uu::uu::uu::uu::uu::uu::uu::uu::uu::uu::uu::uu::uu::uu::uu::uu::uu::uu::uu::uu::uu::uu::uu::uu::uu::[]) ∧ h = [.var [.bool (decide (n < 0)), lv (dig m)] 51]) 2 ?_ ?_
  · by_cases h0 : m = 0
    · subst h0
      conv => whnf
      repeat' (first | exact ⟨_, keepT_weak (maskOf 72 [3, 5, 7]) _, rfl, rfl⟩ | ((first | refine zq1 (by omega) ?_ | refine zq2 (by omega) ?_ | refine NumH.rem (by omega) ?_ | refine zq4 (by omega) ?_ | refine zq5 (by omega) ?_ | refine zq6 ?_ | refine Req.mk (by omega) ?_ | refine Req.mk (by dsimp only; omega) ?_ | refine Req.mk (show pendP _ _ by repeat' constructor) ?_ | (with_reducible first | refine brT (by assumption) ?_ | refine brF (by assumption) ?_ | refine brDT (by omega) ?_ | refine brDF (by omega) ?_ | refine brET (by omega) ?_ | refine brEF (by omega) ?_ | refine brNET (by omega) ?_ | refine brNEF (by omega) ?_ | refine brNot ?_)); conv => whnf))
    · have hl0 : (0 : Int) < (dig m).length := by rw [dig_pos h0]; simp
      have hx : (dig m)[(0 : Int).toNat]? = some ((m % 65536 : Nat) : Int) := by rw [dig_pos h0]; rfl
      conv => whnf
      repeat' (first | exact ⟨_, keepT_weak (maskOf 72 [3, 5, 7]) _, rfl, rfl⟩ | (refine ldI _ (ci_sub .i64 hx) ?_; conv => whnf) | ((first | refine zq1 (by omega) ?_ | refine zq2 (by omega) ?_ | refine NumH.rem (by omega) ?_ | refine zq4 (by omega) ?_ | refine zq5 (by omega) ?_ | refine zq6 ?_ | refine Req.mk (by omega) ?_ | refine Req.mk (by dsimp only; omega) ?_ | refine Req.mk (show pendP _ _ by repeat' constructor) ?_ | (with_reducible first | refine brT (by assumption) ?_ | refine brF (by assumption) ?_ | refine brDT (by omega) ?_ | refine brDF (by omega) ?_ | refine brET (by omega) ?_ | refine brEF (by omega) ?_ | refine brNET (by omega) ?_ | refine brNEF (by omega) ?_ | refine brNot ?_)); conv => whnf))
  rintro _ _ ⟨rfl, rfl⟩
  have hH : ∀ b : Bool, IdsH (fun i => i < 1) [.var [.bool b, lv (dig m)] 51] := fun b => (by simp [IdsL, Ids, IdsH, IdsC, lv_ids, ci_ids])
  have hH2 : ∀ b : Bool, IdsH (fun i => i < 2) [.var [.bool b, lv (dig m)] 51, .tok 1 5 1] := fun b => (by simp [IdsL, Ids, IdsH, IdsC, lv_ids, ci_ids])
  generalize decide (n < 0) = sn at *
  generalize hUU : m / 65536 = U
  have hUb : U < 281474976710656 := by omega
  have hUl := decD_len 14 U (by omega)
  refine Sat.splitAt seat_ok (fun t h => t = (uu::uu::uu::.str S::uu::uu::uu::.int .i64 ((m % 65536 : Nat) : Int)::.str (decD U)::uu::uu::uu::uu::uu::uu::uu::uu::uu::uu::uu::uu::uu::uu::uu::uu::uu::uu::uu::uu::uu::uu::uu::uu::uu::uu::uu::uu::uu::uu::uu::uu::uu::uu::uu::uu::uu::uu::uu::uu::uu::uu::uu::uu::uu::uu::uu::uu::uu::uu::uu::uu::uu::uu::uu::uu::uu::uu::uu::uu::uu::uu::uu::[]) ∧ h = [.var [.bool sn, lv (dig m)] 51, .tok 1 5 1]) 2 ?_ ?_
  · conv => whnf
    refine Sat.cut (fun x t h => x = .exit 2 ∧ t = (uu::uu::uu::.str S::uu::uu::uu::.int .i64 ((m % 65536 : Nat) : Int)::.str (decD U)::uu::uu::uu::uu::uu::uu::uu::uu::uu::uu::uu::uu::uu::uu::uu::uu::uu::uu::uu::uu::uu::uu::uu::uu::uu::uu::uu::uu::uu::uu::uu::uu::uu::uu::uu::uu::uu::uu::uu::uu::uu::uu::uu::uu::uu::uu::uu::uu::uu::uu::uu::uu::uu::uu::uu::uu::uu::uu::uu::uu::uu::uu::uu::[]) ∧ h = [.var [.bool sn, lv (dig m)] 51, .tok 1 5 1]) ?_ ?_
    · refine Sat.invP seat_ok seat_g (maskOf 72 [3, 5, 7, 8]) 1 (fun μ t h => ∃ (j : Nat) (z : Int) (s : List UInt8), z = j ∧ j < 281474976710656 ∧ decD U = decD j ++ s ∧ μ = j ∧ t = (uu::uu::uu::.str S::uu::.int .u64 z::uu::.int .i64 ((m % 65536 : Nat) : Int)::.str s::uu::uu::uu::uu::uu::uu::uu::uu::uu::uu::uu::uu::uu::uu::uu::uu::uu::uu::uu::uu::uu::uu::uu::uu::uu::uu::uu::uu::uu::uu::uu::uu::uu::uu::uu::uu::uu::uu::uu::uu::uu::uu::uu::uu::uu::uu::uu::uu::uu::uu::uu::uu::uu::uu::uu::uu::uu::uu::uu::uu::uu::uu::uu::[]) ∧ h = [.var [.bool sn, lv (dig m)] 51])
        ?_ ⟨_, _, WeakL.of_eq rfl, U, U, [], rfl, hUb, (List.append_nil _).symm, rfl, rfl, rfl⟩ ?_
      · rintro _ _ _ ⟨j, z, s, -, -, -, -, rfl, rfl⟩
        exact ⟨rfl, (by simp [IdsL, Ids, IdsH, IdsC, lv_ids, ci_ids]), hH sn⟩
      rintro j _ _ ⟨_, z, s, hz, hj, hd, rfl, rfl, rfl⟩
      have hsl := congrArg List.length hd
      rw [List.length_append] at hsl
      have hw : IntKind.wrap .u8 (48 + z % 10) = ((48 + j % 10 : Nat) : Int) := by rw [wrap_u8m]; omega
      by_cases g : j < 10
      · have hd2 : decD U = dgB (j % 10) :: s := by rw [hd, decD_lt g, Nat.mod_eq_of_lt g]; rfl
        rw [hd2]
        conv => whnf
        repeat' (first | exact ⟨_, keepT_weak (maskOf 72 [3, 7, 8]) _, rfl, rfl, rfl⟩ | (refine WrapH.is _ hw ?_; conv => whnf) | (refine Req.mk (by simp only [List.length_cons, List.length_nil]; omega) ?_; conv => whnf) | ((first | refine zq1 (by omega) ?_ | refine zq2 (by omega) ?_ | refine NumH.rem (by omega) ?_ | refine zq4 (by omega) ?_ | refine zq5 (by omega) ?_ | refine zq6 ?_ | refine Req.mk (by omega) ?_ | refine Req.mk (by dsimp only; omega) ?_ | refine Req.mk (show pendP _ _ by repeat' constructor) ?_ | (with_reducible first | refine brT (by assumption) ?_ | refine brF (by assumption) ?_ | refine brDT (by omega) ?_ | refine brDF (by omega) ?_ | refine brET (by omega) ?_ | refine brEF (by omega) ?_ | refine brNET (by omega) ?_ | refine brNEF (by omega) ?_ | refine brNot ?_)); conv => whnf))
      · have hd2 : decD U = decD (j / 10) ++ dgB (j % 10) :: s := by rw [hd, decD_ge g, List.append_assoc]; rfl
        clear hd
        conv => whnf
        repeat' (first | exact ⟨_, _, show j / 10 < j by omega, WeakL.of_eq rfl, j / 10, z / 10, dgB (j % 10) :: s, by omega, by omega, hd2, rfl, rfl, rfl⟩ | (refine WrapH.is _ hw ?_; conv => whnf) | (refine Req.mk (by simp only [List.length_cons, List.length_nil]; omega) ?_; conv => whnf) | ((first | refine zq1 (by omega) ?_ | refine zq2 (by omega) ?_ | refine NumH.rem (by omega) ?_ | refine zq4 (by omega) ?_ | refine zq5 (by omega) ?_ | refine zq6 ?_ | refine Req.mk (by omega) ?_ | refine Req.mk (by dsimp only; omega) ?_ | refine Req.mk (show pendP _ _ by repeat' constructor) ?_ | (with_reducible first | refine brT (by assumption) ?_ | refine brF (by assumption) ?_ | refine brDT (by omega) ?_ | refine brDF (by omega) ?_ | refine brET (by omega) ?_ | refine brEF (by omega) ?_ | refine brNET (by omega) ?_ | refine brNEF (by omega) ?_ | refine brNot ?_)); conv => whnf))
    · rintro _ _ _ ⟨rfl, rfl, rfl⟩
      conv => whnf
      exact ⟨_, WeakL.refl _, rfl, rfl⟩
  rintro _ _ ⟨rfl, rfl⟩
  generalize decD U = W at *
  obtain ⟨q, hq⟩ : ∃ q, q = m % 65536 := ⟨_, rfl⟩
  rw [← hq]
  unfold prB
  rw [← hq]
  refine Sat.splitAt seat_ok (fun t h => t = (uu::uu::uu::.str (S ++ (W ++ if q > 0 then [46] else []))::uu::uu::uu::.int .i64 (q : Nat)::uu::uu::uu::uu::uu::uu::uu::uu::uu::uu::uu::uu::uu::uu::uu::uu::uu::uu::uu::uu::uu::uu::uu::uu::uu::uu::uu::uu::uu::uu::uu::uu::uu::uu::uu::uu::uu::uu::uu::uu::uu::uu::uu::uu::uu::uu::uu::uu::uu::uu::uu::uu::uu::uu::uu::uu::uu::uu::uu::uu::uu::uu::uu::uu::[]) ∧ h = [.var [.bool sn, lv (dig m)] 51, .tok 1 5 1]) 2 ?_ ?_
  · by_cases g : q > 0
    · rw [if_pos g, ← List.append_assoc]
      have g2 : (q : Int) > 0 := by omega
      conv => whnf
      repeat' (first | exact ⟨_, keepT_weak (maskOf 72 [3, 7]) _, rfl, rfl⟩ | (refine Req.mk (by simp only [List.length_append, List.toList_toArray, List.length_cons, List.length_nil]; omega) ?_; conv => whnf) | ((first | refine zq1 (by omega) ?_ | refine zq2 (by omega) ?_ | refine NumH.rem (by omega) ?_ | refine zq4 (by omega) ?_ | refine zq5 (by omega) ?_ | refine zq6 ?_ | refine Req.mk (by omega) ?_ | refine Req.mk (by dsimp only; omega) ?_ | refine Req.mk (show pendP _ _ by repeat' constructor) ?_ | (with_reducible first | refine brT (by assumption) ?_ | refine brF (by assumption) ?_ | refine brDT (by omega) ?_ | refine brDF (by omega) ?_ | refine brET (by omega) ?_ | refine brEF (by omega) ?_ | refine brNET (by omega) ?_ | refine brNEF (by omega) ?_ | refine brNot ?_)); conv => whnf))
    · rw [if_neg g, List.append_nil]
      have g2 : ¬ ((q : Int) > 0) := by omega
      conv => whnf
      repeat' (first | exact ⟨_, keepT_weak (maskOf 72 [3, 7]) _, rfl, rfl⟩ | (refine Req.mk (by simp only [List.length_append, List.toList_toArray, List.length_cons, List.length_nil]; omega) ?_; conv => whnf) | ((first | refine zq1 (by omega) ?_ | refine zq2 (by omega) ?_ | refine NumH.rem (by omega) ?_ | refine zq4 (by omega) ?_ | refine zq5 (by omega) ?_ | refine zq6 ?_ | refine Req.mk (by omega) ?_ | refine Req.mk (by dsimp only; omega) ?_ | refine Req.mk (show pendP _ _ by repeat' constructor) ?_ | (with_reducible first | refine brT (by assumption) ?_ | refine brF (by assumption) ?_ | refine brDT (by omega) ?_ | refine brDF (by omega) ?_ | refine brET (by omega) ?_ | refine brEF (by omega) ?_ | refine brNET (by omega) ?_ | refine brNEF (by omega) ?_ | refine brNot ?_)); conv => whnf))
  rintro _ _ ⟨rfl, rfl⟩
  have hfull : S ++ (W ++ dotL (if q > 0 then some (fracF 16 q) else none)) = (S ++ (W ++ if q > 0 then [46] else [])) ++ fracF 16 q := by
    by_cases g : q > 0
    · rw [if_pos g, if_pos g]; simp [dotL]
    · have : q = 0 := by omega
      subst this; simp [dotL, fracF_zero]
  rw [hfull]
  have hHl : (S ++ (W ++ if q > 0 then [46] else [])).length ≤ 20 := by
    simp only [List.length_append]; split <;> simp <;> omega
  generalize (S ++ (W ++ if q > 0 then [46] else [])) = H at *
  refine codeR_sound seat_ok _ _ _ _ ?_
  conv => whnf
  refine Sat.cut (fun x t h => x = .exit 4 ∧ t = (uu::uu::uu::.str (H ++ fracF 16 q)::uu::uu::uu::uu::uu::uu::uu::uu::uu::uu::uu::uu::uu::uu::uu::uu::uu::uu::uu::uu::uu::uu::uu::uu::uu::uu::uu::uu::uu::uu::uu::uu::uu::uu::uu::uu::uu::uu::uu::uu::uu::uu::uu::uu::uu::uu::uu::uu::uu::uu::uu::uu::uu::uu::uu::uu::uu::uu::uu::uu::uu::uu::uu::uu::uu::uu::uu::uu::[]) ∧ h = [.var [.bool sn, lv (dig m)] 51, .tok 1 5 1]) ?_ ?_
  · refine Sat.invP seat_ok seat_g (maskOf 72 [3, 7]) 2 (fun μ t h => ∃ (k j r : Nat) (z : Int) (s : List UInt8), k + j = 16 ∧ r < 65536 ∧ r % 2 ^ j = 0 ∧ z = r ∧ H ++ fracF 16 q = s ++ fracF k r ∧ μ = k ∧ t = (uu::uu::uu::.str s::uu::uu::uu::.int .i64 z::uu::uu::uu::uu::uu::uu::uu::uu::uu::uu::uu::uu::uu::uu::uu::uu::uu::uu::uu::uu::uu::uu::uu::uu::uu::uu::uu::uu::uu::uu::uu::uu::uu::uu::uu::uu::uu::uu::uu::uu::uu::uu::uu::uu::uu::uu::uu::uu::uu::uu::uu::uu::uu::uu::uu::uu::uu::uu::uu::uu::uu::uu::uu::uu::[]) ∧ h = [.var [.bool sn, lv (dig m)] 51, .tok 1 5 1])
      ?_ ⟨_, _, WeakL.of_eq rfl, 16, 0, q, q, H, rfl, by omega, Nat.mod_one _, rfl, rfl, rfl, rfl, rfl⟩ ?_
    · rintro _ _ _ ⟨k, j, r, z, s, -, -, -, -, -, -, rfl, rfl⟩
      exact ⟨rfl, (by simp [IdsL, Ids, IdsH, IdsC, lv_ids, ci_ids]), hH2 sn⟩
    rintro k _ _ ⟨_, j, r, z, s, hkj, hr, h2, hz, hd, rfl, rfl, rfl⟩
    have hsl := congrArg List.length hd
    have hf16 := fracF_len 16 q
    rw [List.length_append, List.length_append] at hsl
    by_cases g : r = 0
    · have g1 : ¬ (z > 0) := by omega
      rw [g, fracF_zero, List.append_nil] at hd
      rw [hd]
      conv => whnf
      repeat' ((first | refine zq1 (by omega) ?_ | refine zq2 (by omega) ?_ | refine NumH.rem (by omega) ?_ | refine zq4 (by omega) ?_ | refine zq5 (by omega) ?_ | refine zq6 ?_ | refine Req.mk (by omega) ?_ | refine Req.mk (by dsimp only; omega) ?_ | refine Req.mk (show pendP _ _ by repeat' constructor) ?_ | (with_reducible first | refine brT (by assumption) ?_ | refine brF (by assumption) ?_ | refine brDT (by omega) ?_ | refine brDF (by omega) ?_ | refine brET (by omega) ?_ | refine brEF (by omega) ?_ | refine brNET (by omega) ?_ | refine brNEF (by omega) ?_ | refine brNot ?_)); conv => whnf)
      exact ⟨_, keepT_weak (maskOf 72 [3]) _, rfl, rfl, rfl⟩
    · have g1 : z > 0 := by omega
      obtain ⟨k, rfl⟩ : ∃ i, k = i + 1 := by
        cases k with
        | succ i => exact ⟨i, rfl⟩
        | zero => exfalso; have : j = 16 := by omega
                  subst this; rw [show (2 : Nat) ^ 16 = 65536 from rfl] at h2; omega
      have hd2 : H ++ fracF 16 q = (s ++ [dgB (r * 10 / 65536)]) ++ fracF k (r * 10 % 65536) := by rw [hd]; simp [fracF, g]
      have hz2 : z * 10 / 65536 = ((r * 10 / 65536 : Nat) : Int) := by rw [hz]; omega
      have hz3 : z * 10 % 65536 = ((r * 10 % 65536 : Nat) : Int) := by rw [hz]; omega
      have hw : IntKind.wrap .u8 (48 + z * 10 / 65536) = ((48 + r * 10 / 65536 : Nat) : Int) := by
        rw [wrap_u8m, hz2]
        have : r * 10 / 65536 ≤ 9 := by omega
        omega
      have ht := frac_twos h2 (by omega)
      clear hd h2
      conv => whnf
      repeat' (first | exact ⟨_, _, Nat.lt_succ_self k, WeakL.of_eq rfl, k, j + 1, r * 10 % 65536, z * 10 % 65536, s ++ [dgB (r * 10 / 65536)], by omega, by omega, ht, hz3, hd2, rfl, rfl, rfl⟩ | (refine WrapH.is _ hw ?_; conv => whnf) | (refine Req.mk (by simp only [List.length_cons, List.length_nil]; omega) ?_; conv => whnf) | ((first | refine zq1 (by omega) ?_ | refine zq2 (by omega) ?_ | refine NumH.rem (by omega) ?_ | refine zq4 (by omega) ?_ | refine zq5 (by omega) ?_ | refine zq6 ?_ | refine Req.mk (by omega) ?_ | refine Req.mk (by dsimp only; omega) ?_ | refine Req.mk (show pendP _ _ by repeat' constructor) ?_ | (with_reducible first | refine brT (by assumption) ?_ | refine brF (by assumption) ?_ | refine brDT (by omega) ?_ | refine brDF (by omega) ?_ | refine brET (by omega) ?_ | refine brEF (by omega) ?_ | refine brNET (by omega) ?_ | refine brNEF (by omega) ?_ | refine brNot ?_)); conv => whnf))
  · rintro _ _ _ ⟨rfl, rfl, rfl⟩
    conv => whnf
    rfl
end Go.Proofs.YtinjgnaimmenbaaDoor
namespace Go.Proofs.YtinjgnaimmenbaaDoor
open Go.Abs
theorem dp_lit {s S A : List UInt8} {B : Option (List UInt8)} {ex} {v : AV} (h : TxtOK S A B ex) (hl : s.length ≤ 400) (hs : s = txt S A B ex) (hv : txtV S A B ex = v) : ACalls seat 8 [.str s] [] (fun x _ => x = .ret v) := by
  subst hs hv; exact c_dparse_txt h hl
set_option maxRecDepth 20000 in
theorem c_wakes : ACalls seat 7 [] [] (fun x _ => x = .ret (.bool true)) := by
  have c1 : ACalls seat 8 [.str [49, 46, 53]] [] (fun x _ => x = .ret (.tup [.int .i64 98304, .int .i64 0])) :=
    dp_lit (S := []) (A := [49]) (B := some [53]) (ex := none) ⟨.inl rfl, by unfold digL; decide, by unfold digL; decide, by decide, trivial⟩ (by decide) rfl (by rfl)
  have c2 : ACalls seat 8 [.str [45, 46, 53, 101, 49]] [] (fun x _ => x = .ret (.tup [.int .i64 (-327680), .int .i64 0])) :=
    dp_lit (S := [45]) (A := []) (B := some [53]) (ex := some (101, [], [49])) ⟨.inr (.inr rfl), by unfold digL; decide, by unfold digL; decide, by decide, ⟨by decide, .inl rfl, by decide, by decide⟩⟩ (by decide) rfl (by rfl)
  have c3 : ACalls seat 8 [.str [49, 101]] [] (fun x _ => x = .ret (.tup [.int .i64 0, .int .i64 3])) :=
    c_dparseE _ (by decide) (by decide)
  have c4 : ACalls seat 8 [.str [54, 53, 53, 51, 54]] [] (fun x _ => x = .ret (.tup [.int .i64 0, .int .i64 2])) :=
    dp_lit (S := []) (A := [54, 53, 53, 51, 54]) (B := none) (ex := none) ⟨.inl rfl, by unfold digL; decide, by unfold digL; decide, by decide, trivial⟩ (by decide) rfl (by rfl)
  refine ACalls.body seat_ok Tryd.func7 rfl rfl ?_
  conv => whnf
  refine CallH.lift seat_g c1 (by simp [Closed, ClosedL]) (by simp [Closed, ClosedL]) ?_
  conv => whnf
  refine CallH.lift seat_g c2 (by simp [Closed, ClosedL]) (by simp [Closed, ClosedL]) ?_
  conv => whnf
  refine CallH.lift seat_g c3 (by simp [Closed, ClosedL]) (by simp [Closed, ClosedL]) ?_
  conv => whnf
  refine CallH.lift seat_g c4 (by simp [Closed, ClosedL]) (by simp [Closed, ClosedL]) ?_
  conv => whnf
  rfl
end Go.Proofs.YtinjgnaimmenbaaDoor
namespace Go.Proofs.YtinjgnaimmenbaaDoor
open Go.Abs
theorem prD_len {n : Int} (hn : I64 n) : (prD n).length ≤ 40 := by
  have h1 := prB_len n.natAbs
  have h2 := decD_len 14 (n.natAbs / 65536) (by unfold I64 at hn; omega)
  have h3 : (dotL (prB n.natAbs)).length ≤ 17 := by
    cases hB : prB n.natAbs with
    | none => simp [dotL]
    | some B => rw [hB] at h1; simp only [Option.getD_some] at h1; simp only [dotL, List.length_cons]; omega
  have h4 : (prS n).length ≤ 1 := by unfold prS; split <;> simp
  unfold prD
  simp only [List.length_append]; omega
theorem c_dparse_pr (n : Int) (hn : I64 n) : ACalls seat 8 [.str (prD n)] [] (fun x _ => x = .ret (outV n)) := by
  have h := c_dparse_txt (prD_ok n) (by rw [← prD_txt]; have := prD_len hn; omega)
  rw [← prD_txt] at h
  unfold txtV at h
  rw [refV_pr] at h
  exact h
set_option maxRecDepth 20000 in
theorem l_decPrints (n : Int) (hn : I64 n) : ACalls seat 6 [.int .i64 n] [] (fun x _ => x = .ret (.bool true)) := by
  refine ACalls.body seat_ok Tryd.func6 rfl rfl ?_
  have c1 := c_dprint n hn
  have c2 := c_dparse_pr n hn
  have c3 := c_rprint n hn
  have hb : (prD n == prD n) = true := by simp
  generalize prD n = s at *
  have hnb : -9223372036854775808 ≤ n ∧ n < 9223372036854775808 := by have := hn; unfold I64 at this; omega
  unfold outV at c2
  have hc : (4294967296 ≤ n) ∨ (¬ 4294967296 ≤ n ∧ n ≤ -4294967296) ∨ (¬ 4294967296 ≤ n ∧ ¬ n ≤ -4294967296) := by omega
  rcases hc with h | ⟨h, h2⟩ | ⟨h, h2⟩
  all_goals
    first
      | rw [if_pos (by omega)] at c2
      | rw [if_neg (by omega)] at c2
    conv => whnf
    repeat' (first | exact rfl | (refine brNot (brT hb ?_); conv => whnf) | exact congrArg (fun b => AEnd.ret (.bool b)) (beq_self_eq_true (_ : Int)) | (refine CallH.lift seat_g c_wakes trivial (by simp [Closed]) ?_; conv => whnf) | (refine CallH.lift seat_g c1 (by simp [Closed, ClosedL]) (by simp [Closed, ClosedL]) ?_; conv => whnf) | (refine CallH.lift seat_g c2 (by simp [Closed, ClosedL]) (by simp [Closed, ClosedL]) ?_; conv => whnf) | (refine CallH.lift seat_g c3 (by simp [Closed, ClosedL]) (by simp [Closed, ClosedL]) ?_; conv => whnf) | ((first | refine zq1 (by omega) ?_ | refine zq2 (by omega) ?_ | refine NumH.rem (by omega) ?_ | refine zq4 (by omega) ?_ | refine zq5 (by omega) ?_ | refine zq6 ?_ | refine Req.mk (by omega) ?_ | refine Req.mk (by dsimp only; omega) ?_ | refine Req.mk (show pendP _ _ by repeat' constructor) ?_ | (with_reducible first | refine brT (by assumption) ?_ | refine brF (by assumption) ?_ | refine brDT (by omega) ?_ | refine brDF (by omega) ?_ | refine brET (by omega) ?_ | refine brEF (by omega) ?_ | refine brNET (by omega) ?_ | refine brNEF (by omega) ?_ | refine brNot ?_)); conv => whnf))
theorem l_decPrints' (n : Int) (h : (Lit.int .i64 n).wf = true) : ACalls seat 6 [.int .i64 n] [] (fun x _ => x = .ret (.bool true)) := l_decPrints n (wf_I64 h)
end Go.Proofs.YtinjgnaimmenbaaDoor
