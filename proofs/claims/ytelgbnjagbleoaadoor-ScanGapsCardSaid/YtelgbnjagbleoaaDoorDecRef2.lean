/- The document's scan of a number's text: the walk. Conditions: the text's length. -/
import Derived.Test.YtelgbnjagbleoaaDoorDecRef
import Derived.Test.YtelgbnjagbleoaaDoorAbsE
set_option linter.unusedSimpArgs false
set_option linter.unusedVariables false
set_option linter.deprecated false
namespace Go.Proofs.YtelgbnjagbleoaaDoor
open Go.Abs
theorem scR0 {sg : Bool} {s : List UInt8} {p i : Nat} (h : (sg = true ∧ kd (s.drop p) = 3 ∧ i = p + 1) ∨ (¬ (sg = true ∧ kd (s.drop p) = 3) ∧ i = p)) : scR sg s p = ptR s i := by
  unfold scR; rcases h with ⟨h1, h2, rfl⟩ | ⟨h1, rfl⟩
  · rw [if_pos ⟨h1, h2⟩]
  · rw [if_neg h1]
set_option maxRecDepth 20000 in
set_option maxHeartbeats 1000000 in
theorem c_rscan (s : List UInt8) (p : Nat) (sg : Bool) (hp : p ≤ s.length) (hl : s.length ≤ 900000) : ACalls seat 27 [.str s, .int .i64 p, .bool sg] [] (fun x _ => x = .ret (.tup [.int .i64 ((scR sg s p).1 : Nat), .bool (scR sg s p).2])) := by
  refine ACalls.bodyS seat_ok Tryd.func27 rfl rfl ?_
  obtain ⟨i, hi⟩ : ∃ i, (sg = true ∧ kd (s.drop p) = 3 ∧ i = p + 1) ∨ (¬ (sg = true ∧ kd (s.drop p) = 3) ∧ i = p) := by
    by_cases h : sg = true ∧ kd (s.drop p) = 3
    · exact ⟨_, .inl ⟨h.1, h.2, rfl⟩⟩
    · exact ⟨_, .inr ⟨h, rfl⟩⟩
  have hil : i ≤ s.length := by
    rcases hi with ⟨-, h, rfl⟩ | ⟨-, rfl⟩
    · exact kd_ne (by omega)
    · exact hp
  rw [scR0 hi]
  have cr := c_run s i (by omega) (by omega)
  have hin := runIn s i hil
  refine Sat.splitAt seat_ok (fun t h => t = (.str s :: uu :: uu :: uu :: uu :: uu :: uu :: uu :: .int .i64 ((i + runN (s.drop i) : Nat) : Int) :: uu :: .bool (decide (((i + runN (s.drop i) : Nat) : Int) > ((i : Nat) : Int))) :: uu :: uu :: uu :: uu :: uu :: uu :: uu :: uu :: uu :: uu :: uu :: uu :: uu :: uu :: uu :: uu :: uu :: uu :: uu :: uu :: uu :: uu :: uu :: uu :: uu :: uu :: uu :: uu :: uu :: uu :: uu :: uu :: uu :: uu :: uu :: uu :: uu :: uu :: uu :: uu :: uu :: uu :: uu :: uu :: uu :: uu :: uu :: uu :: uu :: uu :: uu :: uu :: uu :: uu :: uu :: uu :: uu :: uu :: uu :: uu :: uu :: uu :: uu :: uu :: uu :: uu :: uu :: uu :: uu :: uu :: uu :: uu :: uu :: uu :: uu :: uu :: uu :: uu :: uu :: uu :: uu :: uu :: []) ∧ h = []) 7 ?_ ?_
  · have cs := c_rsign s p
    have g0 : ¬ ((p : Int) < 0) := by omega
    have g1 : ¬ ((p : Int) > s.length) := by omega
    rcases hi with ⟨rfl, h, rfl⟩ | ⟨h, rfl⟩
    · rw [decide_eq_true h] at cs
      conv => whnf
      repeat' (first | exact ⟨_, keepT_weak (maskOf 93 [0, 8, 10]) _, rfl, rfl⟩ | (refine CallH.lift seat_g cs (by simp [Closed, ClosedL]) (by simp [Closed]) ?_; conv => whnf) | (refine CallH.lift seat_g cr (by simp [Closed, ClosedL]) (by simp [Closed]) ?_; conv => whnf) | ((first | refine zq1 (by omega) ?_ | refine zq2 (by omega) ?_ | refine NumH.rem (by omega) ?_ | refine zq4 (by omega) ?_ | refine zq5 (by omega) ?_ | refine zq6 ?_ | refine Req.mk (by omega) ?_ | refine Req.mk (by dsimp only; omega) ?_ | refine Req.mk ⟨rfl, rfl, rfl, by simp [ci_length, *], rfl, by simp [okCell], by dsimp only; omega, by omega, by decide⟩ ?_ | refine Req.mk (show pendP _ _ by repeat' constructor) ?_ | (with_reducible refine brT ?_ ?_; next => assumption) | (with_reducible refine brF ?_ ?_; next => assumption) | (with_reducible refine brDT ?_ ?_; next => omega) | (with_reducible refine brDF ?_ ?_; next => omega) | (with_reducible refine brET ?_ ?_; next => omega) | (with_reducible refine brEF ?_ ?_; next => omega) | (with_reducible refine brNET ?_ ?_; next => omega) | (with_reducible refine brNEF ?_ ?_; next => omega) | with_reducible refine brNot ?_); conv => whnf))
    · cases sg with
      | false =>
        conv => whnf
        repeat' (first | exact ⟨_, keepT_weak (maskOf 93 [0, 8, 10]) _, rfl, rfl⟩ | (refine CallH.lift seat_g cr (by simp [Closed, ClosedL]) (by simp [Closed]) ?_; conv => whnf) | ((first | refine zq1 (by omega) ?_ | refine zq2 (by omega) ?_ | refine NumH.rem (by omega) ?_ | refine zq4 (by omega) ?_ | refine zq5 (by omega) ?_ | refine zq6 ?_ | refine Req.mk (by omega) ?_ | refine Req.mk (by dsimp only; omega) ?_ | refine Req.mk ⟨rfl, rfl, rfl, by simp [ci_length, *], rfl, by simp [okCell], by dsimp only; omega, by omega, by decide⟩ ?_ | refine Req.mk (show pendP _ _ by repeat' constructor) ?_ | (with_reducible refine brT ?_ ?_; next => assumption) | (with_reducible refine brF ?_ ?_; next => assumption) | (with_reducible refine brDT ?_ ?_; next => omega) | (with_reducible refine brDF ?_ ?_; next => omega) | (with_reducible refine brET ?_ ?_; next => omega) | (with_reducible refine brEF ?_ ?_; next => omega) | (with_reducible refine brNET ?_ ?_; next => omega) | (with_reducible refine brNEF ?_ ?_; next => omega) | with_reducible refine brNot ?_); conv => whnf))
      | true =>
        rw [decide_eq_false (fun e => h ⟨rfl, e⟩)] at cs
        conv => whnf
        repeat' (first | exact ⟨_, keepT_weak (maskOf 93 [0, 8, 10]) _, rfl, rfl⟩ | (refine CallH.lift seat_g cs (by simp [Closed, ClosedL]) (by simp [Closed]) ?_; conv => whnf) | (refine CallH.lift seat_g cr (by simp [Closed, ClosedL]) (by simp [Closed]) ?_; conv => whnf) | ((first | refine zq1 (by omega) ?_ | refine zq2 (by omega) ?_ | refine NumH.rem (by omega) ?_ | refine zq4 (by omega) ?_ | refine zq5 (by omega) ?_ | refine zq6 ?_ | refine Req.mk (by omega) ?_ | refine Req.mk (by dsimp only; omega) ?_ | refine Req.mk ⟨rfl, rfl, rfl, by simp [ci_length, *], rfl, by simp [okCell], by dsimp only; omega, by omega, by decide⟩ ?_ | refine Req.mk (show pendP _ _ by repeat' constructor) ?_ | (with_reducible refine brT ?_ ?_; next => assumption) | (with_reducible refine brF ?_ ?_; next => assumption) | (with_reducible refine brDT ?_ ?_; next => omega) | (with_reducible refine brDF ?_ ?_; next => omega) | (with_reducible refine brET ?_ ?_; next => omega) | (with_reducible refine brEF ?_ ?_; next => omega) | (with_reducible refine brNET ?_ ?_; next => omega) | (with_reducible refine brNEF ?_ ?_; next => omega) | with_reducible refine brNot ?_); conv => whnf))
  rintro _ _ ⟨rfl, rfl⟩
  have hd0 : decide (((i + runN (s.drop i) : Nat) : Int) > ((i : Nat) : Int)) = decide (0 < runN (s.drop i)) := decide_eq_decide.2 (by omega)
  rw [hd0]
  clear hi cr hd0 hp
  obtain ⟨e3, hpe⟩ : ∃ e3 : Nat × Bool, e3 = (if kd (s.drop (i + runN (s.drop i))) = 1 then (i + runN (s.drop i) + 1 + runN (s.drop (i + runN (s.drop i) + 1)), decide (0 < runN (s.drop i)) || decide (0 < runN (s.drop (i + runN (s.drop i) + 1)))) else (i + runN (s.drop i), decide (0 < runN (s.drop i)))) := ⟨_, rfl⟩
  have hpt : ptR s i = eR e3.2 s e3.1 := by
    rw [hpe]; unfold ptR; dsimp only
    split <;> rfl
  rw [hpt]
  clear hpt
  generalize hr0 : runN (s.drop i) = r0 at *
  refine Sat.splitAt seat_ok (fun t h => t = (.str s :: uu :: uu :: uu :: uu :: uu :: uu :: uu :: .int .i64 ((e3.1 : Nat) : Int) :: uu :: .bool e3.2 :: uu :: uu :: uu :: uu :: uu :: uu :: uu :: uu :: uu :: uu :: uu :: uu :: uu :: uu :: uu :: uu :: uu :: uu :: uu :: uu :: uu :: uu :: uu :: uu :: uu :: uu :: uu :: uu :: uu :: uu :: uu :: uu :: uu :: uu :: uu :: uu :: uu :: uu :: uu :: uu :: uu :: uu :: uu :: uu :: uu :: uu :: uu :: uu :: uu :: uu :: uu :: uu :: uu :: uu :: uu :: uu :: uu :: uu :: uu :: uu :: uu :: uu :: uu :: uu :: uu :: uu :: uu :: uu :: uu :: uu :: uu :: uu :: uu :: uu :: uu :: uu :: uu :: uu :: uu :: uu :: uu :: uu :: []) ∧ h = []) 1 ?_ ?_
  · rcases dotB_cases (s := s) (p := i + r0) with ⟨d1, bd, d2, d3, d4⟩ | ⟨d1, d2⟩
    · rw [if_pos d1] at hpe
      have ed : (s[((i + r0 : Nat) : Int).toNat]?) = some bd := d3
      have cr1 := c_run s (i + r0 + 1) (by omega) (by omega)
      have hin1 := runIn s (i + r0 + 1) (by omega)
      have hd1 : decide (((i + r0 + 1 + runN (s.drop (i + r0 + 1)) : Nat) : Int) > ((i + r0 : Nat) : Int) + 1) = decide (0 < runN (s.drop (i + r0 + 1))) := decide_eq_decide.2 (by omega)
      generalize runN (s.drop (i + r0 + 1)) = r1 at *
      subst hpe
      by_cases q0 : 0 < r0
      · rw [decide_eq_true q0]
        conv => whnf
        repeat' (first | exact ⟨_, keepT_weak (maskOf 93 [0, 8, 10]) _, rfl, rfl⟩ | (refine ldI _ ed ?_; conv => whnf) | (refine CallH.lift seat_g cr1 (by simp [Closed, ClosedL]) (by simp [Closed]) ?_; conv => whnf) | ((first | refine zq1 (by omega) ?_ | refine zq2 (by omega) ?_ | refine NumH.rem (by omega) ?_ | refine zq4 (by omega) ?_ | refine zq5 (by omega) ?_ | refine zq6 ?_ | refine Req.mk (by omega) ?_ | refine Req.mk (by dsimp only; omega) ?_ | refine Req.mk ⟨rfl, rfl, rfl, by simp [ci_length, *], rfl, by simp [okCell], by dsimp only; omega, by omega, by decide⟩ ?_ | refine Req.mk (show pendP _ _ by repeat' constructor) ?_ | (with_reducible refine brT ?_ ?_; next => assumption) | (with_reducible refine brF ?_ ?_; next => assumption) | (with_reducible refine brDT ?_ ?_; next => omega) | (with_reducible refine brDF ?_ ?_; next => omega) | (with_reducible refine brET ?_ ?_; next => omega) | (with_reducible refine brEF ?_ ?_; next => omega) | (with_reducible refine brNET ?_ ?_; next => omega) | (with_reducible refine brNEF ?_ ?_; next => omega) | with_reducible refine brNot ?_); conv => whnf))
      · rw [decide_eq_false q0, Bool.false_or, ← hd1]
        conv => whnf
        repeat' (first | exact ⟨_, keepT_weak (maskOf 93 [0, 8, 10]) _, rfl, rfl⟩ | (refine ldI _ ed ?_; conv => whnf) | (refine CallH.lift seat_g cr1 (by simp [Closed, ClosedL]) (by simp [Closed]) ?_; conv => whnf) | ((first | refine zq1 (by omega) ?_ | refine zq2 (by omega) ?_ | refine NumH.rem (by omega) ?_ | refine zq4 (by omega) ?_ | refine zq5 (by omega) ?_ | refine zq6 ?_ | refine Req.mk (by omega) ?_ | refine Req.mk (by dsimp only; omega) ?_ | refine Req.mk ⟨rfl, rfl, rfl, by simp [ci_length, *], rfl, by simp [okCell], by dsimp only; omega, by omega, by decide⟩ ?_ | refine Req.mk (show pendP _ _ by repeat' constructor) ?_ | (with_reducible refine brT ?_ ?_; next => assumption) | (with_reducible refine brF ?_ ?_; next => assumption) | (with_reducible refine brDT ?_ ?_; next => omega) | (with_reducible refine brDF ?_ ?_; next => omega) | (with_reducible refine brET ?_ ?_; next => omega) | (with_reducible refine brEF ?_ ?_; next => omega) | (with_reducible refine brNET ?_ ?_; next => omega) | (with_reducible refine brNEF ?_ ?_; next => omega) | with_reducible refine brNot ?_); conv => whnf))
    · rw [if_neg d1] at hpe
      subst hpe
      rcases d2 with d2 | ⟨bd, d2, d3, d4⟩
      · have d2' : ¬ (((i + r0 : Nat) : Int) < s.length) := by omega
        conv => whnf
        repeat' (first | exact ⟨_, keepT_weak (maskOf 93 [0, 8, 10]) _, rfl, rfl⟩ | ((first | refine zq1 (by omega) ?_ | refine zq2 (by omega) ?_ | refine NumH.rem (by omega) ?_ | refine zq4 (by omega) ?_ | refine zq5 (by omega) ?_ | refine zq6 ?_ | refine Req.mk (by omega) ?_ | refine Req.mk (by dsimp only; omega) ?_ | refine Req.mk ⟨rfl, rfl, rfl, by simp [ci_length, *], rfl, by simp [okCell], by dsimp only; omega, by omega, by decide⟩ ?_ | refine Req.mk (show pendP _ _ by repeat' constructor) ?_ | (with_reducible refine brT ?_ ?_; next => assumption) | (with_reducible refine brF ?_ ?_; next => assumption) | (with_reducible refine brDT ?_ ?_; next => omega) | (with_reducible refine brDF ?_ ?_; next => omega) | (with_reducible refine brET ?_ ?_; next => omega) | (with_reducible refine brEF ?_ ?_; next => omega) | (with_reducible refine brNET ?_ ?_; next => omega) | (with_reducible refine brNEF ?_ ?_; next => omega) | with_reducible refine brNot ?_); conv => whnf))
      · have ed : (s[((i + r0 : Nat) : Int).toNat]?) = some bd := d3
        conv => whnf
        repeat' (first | exact ⟨_, keepT_weak (maskOf 93 [0, 8, 10]) _, rfl, rfl⟩ | (refine ldI _ ed ?_; conv => whnf) | ((first | refine zq1 (by omega) ?_ | refine zq2 (by omega) ?_ | refine NumH.rem (by omega) ?_ | refine zq4 (by omega) ?_ | refine zq5 (by omega) ?_ | refine zq6 ?_ | refine Req.mk (by omega) ?_ | refine Req.mk (by dsimp only; omega) ?_ | refine Req.mk ⟨rfl, rfl, rfl, by simp [ci_length, *], rfl, by simp [okCell], by dsimp only; omega, by omega, by decide⟩ ?_ | refine Req.mk (show pendP _ _ by repeat' constructor) ?_ | (with_reducible refine brT ?_ ?_; next => assumption) | (with_reducible refine brF ?_ ?_; next => assumption) | (with_reducible refine brDT ?_ ?_; next => omega) | (with_reducible refine brDF ?_ ?_; next => omega) | (with_reducible refine brET ?_ ?_; next => omega) | (with_reducible refine brEF ?_ ?_; next => omega) | (with_reducible refine brNET ?_ ?_; next => omega) | (with_reducible refine brNEF ?_ ?_; next => omega) | with_reducible refine brNot ?_); conv => whnf))
  rintro _ _ ⟨rfl, rfl⟩
  have he3 : e3.1 ≤ s.length := by
    rw [hpe]
    split
    · rename_i h
      exact runIn s (i + r0 + 1) (kd_ne (by omega))
    · exact hin
  clear hpe hin hil hr0
  obtain ⟨q, sm⟩ := e3
  dsimp only at he3 ⊢
  refine codeR_sound seat_ok _ _ _ _ ?_
  cases sm with
  | false =>
    rw [show eR false s q = (q, false) from rfl]
    conv => whnf
    repeat' ((first | refine zq1 (by omega) ?_ | refine zq2 (by omega) ?_ | refine NumH.rem (by omega) ?_ | refine zq4 (by omega) ?_ | refine zq5 (by omega) ?_ | refine zq6 ?_ | refine Req.mk (by omega) ?_ | refine Req.mk (by dsimp only; omega) ?_ | refine Req.mk ⟨rfl, rfl, rfl, by simp [ci_length, *], rfl, by simp [okCell], by dsimp only; omega, by omega, by decide⟩ ?_ | refine Req.mk (show pendP _ _ by repeat' constructor) ?_ | (with_reducible refine brT ?_ ?_; next => assumption) | (with_reducible refine brF ?_ ?_; next => assumption) | (with_reducible refine brDT ?_ ?_; next => omega) | (with_reducible refine brDF ?_ ?_; next => omega) | (with_reducible refine brET ?_ ?_; next => omega) | (with_reducible refine brEF ?_ ?_; next => omega) | (with_reducible refine brNET ?_ ?_; next => omega) | (with_reducible refine brNEF ?_ ?_; next => omega) | with_reducible refine brNot ?_); conv => whnf)
    rfl
  | true =>
    rcases eB_cases (s := s) (p := q) with ⟨e1, b, e2, e3, e4⟩ | ⟨e1, e2⟩
    · have eb : (s[((q : Nat) : Int).toNat]?) = some b := e3
      have cs2 := c_rsign s (q + 1)
      by_cases g2 : kd (s.drop (q + 1)) = 3
      · rw [decide_eq_true g2] at cs2
        have hj := kd_ne (s := s) (p := q + 1) (by omega)
        have cr2 := c_run s (q + 1 + 1) (by omega) (by omega)
        have hin2 := runIn s (q + 1 + 1) (by omega)
        rw [show eR true s q = ((q + 1 + 1) + runN (s.drop (q + 1 + 1)), decide (0 < runN (s.drop (q + 1 + 1)))) by unfold eR; rw [if_neg (by decide), if_pos e1]; dsimp only; rw [if_pos g2]]
        have hdd : decide (((q + 1 + 1 + runN (s.drop (q + 1 + 1)) : Nat) : Int) > ((q + 1 + 1 : Nat) : Int)) = decide (0 < runN (s.drop (q + 1 + 1))) := decide_eq_decide.2 (by omega)
        generalize runN (s.drop (q + 1 + 1)) = r2 at *
        rcases e4 with e4 | ⟨e5, e4⟩
        · conv => whnf
          repeat' (first | exact congrArg (fun b => AEnd.ret (.tup [_, .bool b])) hdd | (refine ldI _ eb ?_; conv => whnf) | (refine CallH.lift seat_g cs2 (by simp [Closed, ClosedL]) (by simp [Closed]) ?_; conv => whnf) | (refine CallH.lift seat_g cr2 (by simp [Closed, ClosedL]) (by simp [Closed]) ?_; conv => whnf) | ((first | refine zq1 (by omega) ?_ | refine zq2 (by omega) ?_ | refine NumH.rem (by omega) ?_ | refine zq4 (by omega) ?_ | refine zq5 (by omega) ?_ | refine zq6 ?_ | refine Req.mk (by omega) ?_ | refine Req.mk (by dsimp only; omega) ?_ | refine Req.mk ⟨rfl, rfl, rfl, by simp [ci_length, *], rfl, by simp [okCell], by dsimp only; omega, by omega, by decide⟩ ?_ | refine Req.mk (show pendP _ _ by repeat' constructor) ?_ | (with_reducible refine brT ?_ ?_; next => assumption) | (with_reducible refine brF ?_ ?_; next => assumption) | (with_reducible refine brDT ?_ ?_; next => omega) | (with_reducible refine brDF ?_ ?_; next => omega) | (with_reducible refine brET ?_ ?_; next => omega) | (with_reducible refine brEF ?_ ?_; next => omega) | (with_reducible refine brNET ?_ ?_; next => omega) | (with_reducible refine brNEF ?_ ?_; next => omega) | with_reducible refine brNot ?_); conv => whnf))
        · conv => whnf
          repeat' (first | exact congrArg (fun b => AEnd.ret (.tup [_, .bool b])) hdd | (refine ldI _ eb ?_; conv => whnf) | (refine CallH.lift seat_g cs2 (by simp [Closed, ClosedL]) (by simp [Closed]) ?_; conv => whnf) | (refine CallH.lift seat_g cr2 (by simp [Closed, ClosedL]) (by simp [Closed]) ?_; conv => whnf) | ((first | refine zq1 (by omega) ?_ | refine zq2 (by omega) ?_ | refine NumH.rem (by omega) ?_ | refine zq4 (by omega) ?_ | refine zq5 (by omega) ?_ | refine zq6 ?_ | refine Req.mk (by omega) ?_ | refine Req.mk (by dsimp only; omega) ?_ | refine Req.mk ⟨rfl, rfl, rfl, by simp [ci_length, *], rfl, by simp [okCell], by dsimp only; omega, by omega, by decide⟩ ?_ | refine Req.mk (show pendP _ _ by repeat' constructor) ?_ | (with_reducible refine brT ?_ ?_; next => assumption) | (with_reducible refine brF ?_ ?_; next => assumption) | (with_reducible refine brDT ?_ ?_; next => omega) | (with_reducible refine brDF ?_ ?_; next => omega) | (with_reducible refine brET ?_ ?_; next => omega) | (with_reducible refine brEF ?_ ?_; next => omega) | (with_reducible refine brNET ?_ ?_; next => omega) | (with_reducible refine brNEF ?_ ?_; next => omega) | with_reducible refine brNot ?_); conv => whnf))
      · rw [decide_eq_false g2] at cs2
        have cr2 := c_run s (q + 1) (by omega) (by omega)
        have hin2 := runIn s (q + 1) (by omega)
        rw [show eR true s q = ((q + 1) + runN (s.drop (q + 1)), decide (0 < runN (s.drop (q + 1)))) by unfold eR; rw [if_neg (by decide), if_pos e1]; dsimp only; rw [if_neg g2]]
        have hdd : decide (((q + 1 + runN (s.drop (q + 1)) : Nat) : Int) > ((q + 1 : Nat) : Int)) = decide (0 < runN (s.drop (q + 1))) := decide_eq_decide.2 (by omega)
        generalize runN (s.drop (q + 1)) = r2 at *
        rcases e4 with e4 | ⟨e5, e4⟩
        · conv => whnf
          repeat' (first | exact congrArg (fun b => AEnd.ret (.tup [_, .bool b])) hdd | (refine ldI _ eb ?_; conv => whnf) | (refine CallH.lift seat_g cs2 (by simp [Closed, ClosedL]) (by simp [Closed]) ?_; conv => whnf) | (refine CallH.lift seat_g cr2 (by simp [Closed, ClosedL]) (by simp [Closed]) ?_; conv => whnf) | ((first | refine zq1 (by omega) ?_ | refine zq2 (by omega) ?_ | refine NumH.rem (by omega) ?_ | refine zq4 (by omega) ?_ | refine zq5 (by omega) ?_ | refine zq6 ?_ | refine Req.mk (by omega) ?_ | refine Req.mk (by dsimp only; omega) ?_ | refine Req.mk ⟨rfl, rfl, rfl, by simp [ci_length, *], rfl, by simp [okCell], by dsimp only; omega, by omega, by decide⟩ ?_ | refine Req.mk (show pendP _ _ by repeat' constructor) ?_ | (with_reducible refine brT ?_ ?_; next => assumption) | (with_reducible refine brF ?_ ?_; next => assumption) | (with_reducible refine brDT ?_ ?_; next => omega) | (with_reducible refine brDF ?_ ?_; next => omega) | (with_reducible refine brET ?_ ?_; next => omega) | (with_reducible refine brEF ?_ ?_; next => omega) | (with_reducible refine brNET ?_ ?_; next => omega) | (with_reducible refine brNEF ?_ ?_; next => omega) | with_reducible refine brNot ?_); conv => whnf))
        · conv => whnf
          repeat' (first | exact congrArg (fun b => AEnd.ret (.tup [_, .bool b])) hdd | (refine ldI _ eb ?_; conv => whnf) | (refine CallH.lift seat_g cs2 (by simp [Closed, ClosedL]) (by simp [Closed]) ?_; conv => whnf) | (refine CallH.lift seat_g cr2 (by simp [Closed, ClosedL]) (by simp [Closed]) ?_; conv => whnf) | ((first | refine zq1 (by omega) ?_ | refine zq2 (by omega) ?_ | refine NumH.rem (by omega) ?_ | refine zq4 (by omega) ?_ | refine zq5 (by omega) ?_ | refine zq6 ?_ | refine Req.mk (by omega) ?_ | refine Req.mk (by dsimp only; omega) ?_ | refine Req.mk ⟨rfl, rfl, rfl, by simp [ci_length, *], rfl, by simp [okCell], by dsimp only; omega, by omega, by decide⟩ ?_ | refine Req.mk (show pendP _ _ by repeat' constructor) ?_ | (with_reducible refine brT ?_ ?_; next => assumption) | (with_reducible refine brF ?_ ?_; next => assumption) | (with_reducible refine brDT ?_ ?_; next => omega) | (with_reducible refine brDF ?_ ?_; next => omega) | (with_reducible refine brET ?_ ?_; next => omega) | (with_reducible refine brEF ?_ ?_; next => omega) | (with_reducible refine brNET ?_ ?_; next => omega) | (with_reducible refine brNEF ?_ ?_; next => omega) | with_reducible refine brNot ?_); conv => whnf))
    · rw [show eR true s q = (q, true) by unfold eR; rw [if_neg (by decide), if_neg e1]]
      rcases e2 with e2 | ⟨b, e2, e3, e4, e5⟩
      · have e2' : ¬ (((q : Nat) : Int) < s.length) := by omega
        conv => whnf
        repeat' ((first | refine zq1 (by omega) ?_ | refine zq2 (by omega) ?_ | refine NumH.rem (by omega) ?_ | refine zq4 (by omega) ?_ | refine zq5 (by omega) ?_ | refine zq6 ?_ | refine Req.mk (by omega) ?_ | refine Req.mk (by dsimp only; omega) ?_ | refine Req.mk ⟨rfl, rfl, rfl, by simp [ci_length, *], rfl, by simp [okCell], by dsimp only; omega, by omega, by decide⟩ ?_ | refine Req.mk (show pendP _ _ by repeat' constructor) ?_ | (with_reducible refine brT ?_ ?_; next => assumption) | (with_reducible refine brF ?_ ?_; next => assumption) | (with_reducible refine brDT ?_ ?_; next => omega) | (with_reducible refine brDF ?_ ?_; next => omega) | (with_reducible refine brET ?_ ?_; next => omega) | (with_reducible refine brEF ?_ ?_; next => omega) | (with_reducible refine brNET ?_ ?_; next => omega) | (with_reducible refine brNEF ?_ ?_; next => omega) | with_reducible refine brNot ?_); conv => whnf)
        rfl
      · have eb : (s[((q : Nat) : Int).toNat]?) = some b := e3
        conv => whnf
        repeat' (first | exact rfl | (refine ldI _ eb ?_; conv => whnf) | ((first | refine zq1 (by omega) ?_ | refine zq2 (by omega) ?_ | refine NumH.rem (by omega) ?_ | refine zq4 (by omega) ?_ | refine zq5 (by omega) ?_ | refine zq6 ?_ | refine Req.mk (by omega) ?_ | refine Req.mk (by dsimp only; omega) ?_ | refine Req.mk ⟨rfl, rfl, rfl, by simp [ci_length, *], rfl, by simp [okCell], by dsimp only; omega, by omega, by decide⟩ ?_ | refine Req.mk (show pendP _ _ by repeat' constructor) ?_ | (with_reducible refine brT ?_ ?_; next => assumption) | (with_reducible refine brF ?_ ?_; next => assumption) | (with_reducible refine brDT ?_ ?_; next => omega) | (with_reducible refine brDF ?_ ?_; next => omega) | (with_reducible refine brET ?_ ?_; next => omega) | (with_reducible refine brEF ?_ ?_; next => omega) | (with_reducible refine brNET ?_ ?_; next => omega) | (with_reducible refine brNEF ?_ ?_; next => omega) | with_reducible refine brNot ?_); conv => whnf))
end Go.Proofs.YtelgbnjagbleoaaDoor
