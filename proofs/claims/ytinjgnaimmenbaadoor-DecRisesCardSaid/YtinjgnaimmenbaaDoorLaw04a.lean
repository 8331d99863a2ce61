/- The law DecParses answers true. No condition. -/
import Derived.Test.YtinjgnaimmenbaaDoorDecTxt3
set_option linter.unusedSimpArgs false
set_option linter.unusedVariables false
set_option linter.deprecated false
namespace Go.Proofs.YtinjgnaimmenbaaDoor
open Go.Abs
theorem dp_lit {s S A : List UInt8} {B : Option (List UInt8)} {ex} {v : AV} (h : TxtOK S A B ex) (hl : s.length ≤ 400) (hs : s = txt S A B ex) (hv : txtV S A B ex = v) : ACalls seat 8 [.str s] [] (fun x _ => x = .ret v) := by
  subst hs hv; exact c_dparse_txt h hl
set_option maxRecDepth 20000 in
theorem c_wakes : ACalls seat 7 [] [] (fun x _ => x = .ret (.bool true)) := by
  have c1 : ACalls seat 8 [.str [49, 46, 53]] [] (fun x _ => x = .ret (.tup [.int .i64 98304, .int .i64 0])) :=
    dp_lit (S := []) (A := [49]) (B := some [53]) (ex := none) ⟨.inl rfl, by unfold digL; decide, by unfold digL; decide, by decide, trivial⟩ (by decide) rfl (by rfl)
  have c2 : ACalls seat 8 [.str [45, 46, 53, 101, 49]] [] (fun x _ => x = .ret (.tup [.int .i64 (-327680), .int .i64 0])) :=
    dp_lit (S := [45]) (A := []) (B := some [53]) (ex := some (101, [], [49])) ⟨.inr (.inr rfl), by unfold digL; decide, by unfold digL; decide, by decide, ⟨by decide, .inl rfl, by decide, by decide⟩⟩ (by decide) rfl (by rfl)
  have c3 : ACalls seat 8 [.str [49, 101]] [] (fun x _ => x = .ret (.tup [.int .i64 0, .int .i64 3])) :=
    c_dparseE _ (by decide) (by decide)
  have c4 : ACalls seat 8 [.str [54, 53, 53, 51, 54]] [] (fun x _ => x = .ret (.tup [.int .i64 0, .int .i64 2])) :=
    dp_lit (S := []) (A := [54, 53, 53, 51, 54]) (B := none) (ex := none) ⟨.inl rfl, by unfold digL; decide, by unfold digL; decide, by decide, trivial⟩ (by decide) rfl (by rfl)
  refine ACalls.body seat_ok Tryd.func7 rfl rfl ?_
  conv => whnf
  refine CallH.lift seat_g c1 (by simp [Closed, ClosedL]) (by simp [Closed, ClosedL]) ?_
  conv => whnf
  refine CallH.lift seat_g c2 (by simp [Closed, ClosedL]) (by simp [Closed, ClosedL]) ?_
  conv => whnf
  refine CallH.lift seat_g c3 (by simp [Closed, ClosedL]) (by simp [Closed, ClosedL]) ?_
  conv => whnf
  refine CallH.lift seat_g c4 (by simp [Closed, ClosedL]) (by simp [Closed, ClosedL]) ?_
  conv => whnf
  rfl
theorem outV_ex (n : Int) : ∃ a e : Int, outV n = .tup [.int .i64 a, .int .i64 e] ∧ ((e = 0 ∧ a = n ∧ -4294967296 < n ∧ n < 4294967296) ∨ (e = 2 ∧ a = 0 ∧ (4294967296 ≤ n ∨ n ≤ -4294967296))) := by
  unfold outV
  by_cases h : 4294967296 ≤ n ∨ n ≤ -4294967296
  · rw [if_pos h]; exact ⟨_, _, rfl, .inr ⟨rfl, rfl, h⟩⟩
  · rw [if_neg h]; exact ⟨_, _, rfl, .inl ⟨rfl, rfl, by omega, by omega⟩⟩
theorem l_decParses (s : List UInt8) : ACalls seat 3 [.str s] [] (fun x _ => x = .ret (.bool true)) := by
  refine ACalls.body seat_ok Tryd.func3 rfl rfl ?_
  by_cases hl : s.length ≤ 60
  · obtain ⟨v, hv, c1, c2⟩ := parse_both s (by omega)
    obtain ⟨a, e, rfl⟩ : ∃ a e : Int, v = .tup [.int .i64 a, .int .i64 e] := by
      rcases hv with rfl | ⟨S, A, B, ex, -, -, rfl⟩
      · exact ⟨_, _, rfl⟩
      · obtain ⟨a, e, h, -⟩ := outV_ex (refV (S == [45]) (txtN A B) (txtP A B ex)); exact ⟨a, e, h⟩
    have g : ¬ ((s.length : Int) > 60) := by omega
    have b1 : (a == a) = true := by simp
    have b2 : (e == e) = true := by simp
    conv => whnf
    refine CallH.lift seat_g c_wakes trivial (by simp [Closed]) ?_
    conv => whnf
    repeat' ((first | refine zq1 (by omega) ?_ | refine zq2 (by omega) ?_ | refine NumH.rem (by omega) ?_ | refine zq4 (by omega) ?_ | refine zq5 (by omega) ?_ | refine zq6 ?_ | refine Req.mk (by omega) ?_ | refine Req.mk (by dsimp only; omega) ?_ | refine Req.mk ⟨rfl, rfl, rfl, by simp [ci_length, *], rfl, by simp [okCell], by dsimp only; omega, by omega, by decide⟩ ?_ | refine Req.mk (show pendP _ _ by repeat' constructor) ?_ | (with_reducible refine brT ?_ ?_; next => assumption) | (with_reducible refine brF ?_ ?_; next => assumption) | (with_reducible refine brDT ?_ ?_; next => omega) | (with_reducible refine brDF ?_ ?_; next => omega) | (with_reducible refine brET ?_ ?_; next => omega) | (with_reducible refine brEF ?_ ?_; next => omega) | (with_reducible refine brNET ?_ ?_; next => omega) | (with_reducible refine brNEF ?_ ?_; next => omega) | with_reducible refine brNot ?_); conv => whnf)
    refine CallH.lift seat_g c1 (by simp [Closed, ClosedL]) (by simp [Closed, ClosedL]) ?_
    conv => whnf
    refine CallH.lift seat_g c2 (by simp [Closed, ClosedL]) (by simp [Closed, ClosedL]) ?_
    conv => whnf
    repeat' ((first | refine zq1 (by omega) ?_ | refine zq2 (by omega) ?_ | refine NumH.rem (by omega) ?_ | refine zq4 (by omega) ?_ | refine zq5 (by omega) ?_ | refine zq6 ?_ | refine Req.mk (by omega) ?_ | refine Req.mk (by dsimp only; omega) ?_ | refine Req.mk ⟨rfl, rfl, rfl, by simp [ci_length, *], rfl, by simp [okCell], by dsimp only; omega, by omega, by decide⟩ ?_ | refine Req.mk (show pendP _ _ by repeat' constructor) ?_ | (with_reducible refine brT ?_ ?_; next => assumption) | (with_reducible refine brF ?_ ?_; next => assumption) | (with_reducible refine brDT ?_ ?_; next => omega) | (with_reducible refine brDF ?_ ?_; next => omega) | (with_reducible refine brET ?_ ?_; next => omega) | (with_reducible refine brEF ?_ ?_; next => omega) | (with_reducible refine brNET ?_ ?_; next => omega) | (with_reducible refine brNEF ?_ ?_; next => omega) | with_reducible refine brNot ?_); conv => whnf)
    exact congrArg (fun b => AEnd.ret (.bool b)) b2
  · have g : (s.length : Int) > 60 := by omega
    conv => whnf
    refine CallH.lift seat_g c_wakes trivial (by simp [Closed]) ?_
    conv => whnf
    repeat' ((first | refine zq1 (by omega) ?_ | refine zq2 (by omega) ?_ | refine NumH.rem (by omega) ?_ | refine zq4 (by omega) ?_ | refine zq5 (by omega) ?_ | refine zq6 ?_ | refine Req.mk (by omega) ?_ | refine Req.mk (by dsimp only; omega) ?_ | refine Req.mk ⟨rfl, rfl, rfl, by simp [ci_length, *], rfl, by simp [okCell], by dsimp only; omega, by omega, by decide⟩ ?_ | refine Req.mk (show pendP _ _ by repeat' constructor) ?_ | (with_reducible refine brT ?_ ?_; next => assumption) | (with_reducible refine brF ?_ ?_; next => assumption) | (with_reducible refine brDT ?_ ?_; next => omega) | (with_reducible refine brDF ?_ ?_; next => omega) | (with_reducible refine brET ?_ ?_; next => omega) | (with_reducible refine brEF ?_ ?_; next => omega) | (with_reducible refine brNET ?_ ?_; next => omega) | (with_reducible refine brNEF ?_ ?_; next => omega) | with_reducible refine brNot ?_); conv => whnf)
    rfl
end Go.Proofs.YtinjgnaimmenbaaDoor
