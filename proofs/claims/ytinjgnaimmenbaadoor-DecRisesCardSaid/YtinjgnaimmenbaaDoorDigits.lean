/- The law's own digits of a number: the walk. Conditions: a number from 0 on. -/
import Derived.Test.YtinjgnaimmenbaaDoorDec10
set_option linter.unusedSimpArgs false
set_option linter.unusedVariables false
set_option linter.deprecated false
namespace Go.Proofs.YtinjgnaimmenbaaDoor
open Go.Abs
theorem c_digits (n : Nat) (hn : n < 9223372036854775808) : ACalls seat 10 [.int .i64 n] [] (fun x _ => x = .ret (.str (decD n))) := by
  refine ACalls.body seat_ok Tryd.func10 rfl rfl ?_
  conv => whnf
  refine Sat.cut (fun x t h => x = .ret ∧ t = (uu :: uu :: .str (decD n) :: uu :: uu :: uu :: uu :: uu :: uu :: uu :: uu :: uu :: uu :: uu :: uu :: uu :: uu :: [])) ?_ ?_
  · refine Sat.invP seat_ok seat_g (maskOf 17 [0, 3]) 0 (fun μ t h => ∃ (m : Nat) (z : Int) (s : List UInt8), z = m ∧ m < 9223372036854775808 ∧ decD n = decD m ++ s ∧ μ = m ∧ t = (.int .i64 z :: uu :: uu :: .str s :: uu :: uu :: uu :: uu :: uu :: uu :: uu :: uu :: uu :: uu :: uu :: uu :: uu :: []) ∧ h = [])
      ?_ ⟨_, _, WeakL.of_eq rfl, n, n, [], rfl, hn, (List.append_nil _).symm, rfl, rfl, rfl⟩ ?_
    · rintro _ _ _ ⟨m, z, s, -, -, -, -, rfl, rfl⟩
      exact ⟨rfl, (by simp [IdsL, Ids, IdsH, IdsC, lv_ids, ci_ids]), (by simp [IdsL, Ids, IdsH, IdsC, lv_ids, ci_ids])⟩
    rintro m _ _ ⟨_, z, s, hz, hm, hd, rfl, rfl, rfl⟩
    have hl := decD_len 18 n (by omega)
    have hsl := congrArg List.length hd
    rw [List.length_append] at hsl
    have hw : IntKind.wrap .u8 (48 + z % 10) = ((48 + m % 10 : Nat) : Int) := by rw [wrap_u8m]; omega
    by_cases g : m < 10
    · have hd2 : decD n = dgB (m % 10) :: s := by rw [hd, decD_lt g, Nat.mod_eq_of_lt g]; rfl
      rw [hd2]
      conv => whnf
      repeat' (first | exact ⟨_, keepT_weak (maskOf 17 [2]) _, rfl, rfl⟩ | (refine WrapH.is _ hw ?_; conv => whnf) | (refine Req.mk (by simp only [List.length_cons, List.length_nil]; omega) ?_; conv => whnf) | ((first | refine zq1 (by omega) ?_ | refine zq2 (by omega) ?_ | refine NumH.rem (by omega) ?_ | refine zq4 (by omega) ?_ | refine zq5 (by omega) ?_ | refine zq6 ?_ | refine Req.mk (by omega) ?_ | refine Req.mk (by dsimp only; omega) ?_ | refine Req.mk ⟨rfl, rfl, rfl, by simp [ci_length, *], rfl, by simp [okCell], by dsimp only; omega, by omega, by decide⟩ ?_ | refine Req.mk (show pendP _ _ by repeat' constructor) ?_ | (with_reducible refine brT ?_ ?_; next => assumption) | (with_reducible refine brF ?_ ?_; next => assumption) | (with_reducible refine brDT ?_ ?_; next => omega) | (with_reducible refine brDF ?_ ?_; next => omega) | (with_reducible refine brET ?_ ?_; next => omega) | (with_reducible refine brEF ?_ ?_; next => omega) | (with_reducible refine brNET ?_ ?_; next => omega) | (with_reducible refine brNEF ?_ ?_; next => omega) | with_reducible refine brNot ?_); conv => whnf))
    · have hd2 : decD n = decD (m / 10) ++ dgB (m % 10) :: s := by rw [hd, decD_ge g, List.append_assoc]; rfl
      clear hd
      conv => whnf
      repeat' (first | exact ⟨_, _, show m / 10 < m by omega, WeakL.of_eq rfl, m / 10, z / 10, dgB (m % 10) :: s, by omega, by omega, hd2, rfl, rfl, rfl⟩ | (refine WrapH.is _ hw ?_; conv => whnf) | (refine Req.mk (by simp only [List.length_cons, List.length_nil]; omega) ?_; conv => whnf) | ((first | refine zq1 (by omega) ?_ | refine zq2 (by omega) ?_ | refine NumH.rem (by omega) ?_ | refine zq4 (by omega) ?_ | refine zq5 (by omega) ?_ | refine zq6 ?_ | refine Req.mk (by omega) ?_ | refine Req.mk (by dsimp only; omega) ?_ | refine Req.mk ⟨rfl, rfl, rfl, by simp [ci_length, *], rfl, by simp [okCell], by dsimp only; omega, by omega, by decide⟩ ?_ | refine Req.mk (show pendP _ _ by repeat' constructor) ?_ | (with_reducible refine brT ?_ ?_; next => assumption) | (with_reducible refine brF ?_ ?_; next => assumption) | (with_reducible refine brDT ?_ ?_; next => omega) | (with_reducible refine brDF ?_ ?_; next => omega) | (with_reducible refine brET ?_ ?_; next => omega) | (with_reducible refine brEF ?_ ?_; next => omega) | (with_reducible refine brNET ?_ ?_; next => omega) | (with_reducible refine brNEF ?_ ?_; next => omega) | with_reducible refine brNot ?_); conv => whnf))
  · rintro _ _ _ ⟨rfl, rfl⟩
    conv => whnf
    rfl
end Go.Proofs.YtinjgnaimmenbaaDoor
