/- The reader's numbers and gaps, and the document's: the walk. Conditions: the text's length, the place in it. -/
import Derived.Test.YtelgbnjagbleoaaDoorScanW2
import Derived.Test.YtelgbnjagbleoaaDoorLaw04p
set_option linter.unusedSimpArgs false
set_option linter.unusedVariables false
set_option linter.deprecated false
namespace Go.Proofs.YtelgbnjagbleoaaDoor
open Go.Abs
theorem scR_bd (sg : Bool) (s : List UInt8) (p : Nat) (hp : p ≤ s.length) : p ≤ (scR sg s p).1 ∧ (scR sg s p).1 ≤ s.length := by
  rw [scan_eq]
  have h := (dfa_le sg (s.drop p) 0 (by omega)).1
  rw [List.length_drop] at h
  unfold addA ans
  simp only
  omega
theorem c_dscanR (s : List UInt8) (p : Nat) (sg : Bool) (hp : p ≤ s.length) (hl : s.length ≤ 900000) : ACalls seat 24 [.str s, .int .i64 p, .bool sg] [] (fun x _ => x = .ret (.tup [.int .i64 ((scR sg s p).1 : Nat), .bool (scR sg s p).2])) := by
  have c := c_dscan s p sg (by omega)
  rw [if_neg (by omega), Int.toNat_natCast] at c
  rw [scan_eq]
  exact c
theorem c_numberE (s : List UInt8) (p : Nat) (sg : Bool) (hp : p ≤ s.length) (hl : s.length ≤ 900000) (h : (scR sg s p).2 = false) : ACalls seat 11 [.ptr 0 0, .bool sg] [.var (rdr s p) 51] (fun x h => x = .ret (.tup [.int .i64 0, .int .i64 3]) ∧ h = [.var (rdr s (scR sg s p).1) 51]) := by
  have c := c_dscanR s p sg hp hl
  rw [h] at c
  generalize (scR sg s p).1 = q at *
  refine ACalls.body seat_ok Tryd.func11 rfl rfl ?_
  unfold rdr at *
  conv => whnf
  refine DrawH.plan seat_ok (.take 0 (.take 1 (.take 2 (.take 3 (.take 4 (.take 5 (.take 6 (.take 7 (.take 8 (.perform 9 none (.take 10 (.take 11 (.take 12 (.take 13 (.take 14 Plan.done))))))))))))))) 0 (by kernel_rfl) ?_
  conv => whnf
  repeat' (first | exact ⟨rfl, rfl⟩ | (refine CallH.lift seat_g c (by simp [Closed, ClosedL]) (by simp [Closed, ClosedL]) ?_; conv => whnf) | ((first | refine zq1 (by omega) ?_ | refine zq2 (by omega) ?_ | refine NumH.rem (by omega) ?_ | refine zq4 (by omega) ?_ | refine zq5 (by omega) ?_ | refine zq6 ?_ | refine Req.mk (by omega) ?_ | refine Req.mk (by dsimp only; omega) ?_ | refine Req.mk ⟨rfl, rfl, rfl, by simp [ci_length, *], rfl, by simp [okCell], by dsimp only; omega, by omega, by decide⟩ ?_ | refine Req.mk (show pendP _ _ by repeat' constructor) ?_ | (with_reducible refine brT ?_ ?_; next => assumption) | (with_reducible refine brF ?_ ?_; next => assumption) | (with_reducible refine brDT ?_ ?_; next => omega) | (with_reducible refine brDF ?_ ?_; next => omega) | (with_reducible refine brET ?_ ?_; next => omega) | (with_reducible refine brEF ?_ ?_; next => omega) | (with_reducible refine brNET ?_ ?_; next => omega) | (with_reducible refine brNEF ?_ ?_; next => omega) | with_reducible refine brNot ?_); conv => whnf) | (refine And.intro ?_ ?_ <;> (conv => whnf)))
theorem c_numberV (s : List UInt8) (p q : Nat) (sg : Bool) (v e : Int) (hp : p ≤ s.length) (hl : s.length ≤ 900000) (h : scR sg s p = (q, true)) (cp : ACalls seat 25 [.str ((s.drop p).take (q - p))] [] (fun x _ => x = .ret (.tup [.int .i64 v, .int .i64 e]))) :
    ACalls seat 11 [.ptr 0 0, .bool sg] [.var (rdr s p) 51] (fun x h => x = .ret (.tup [.int .i64 v, .int .i64 e]) ∧ h = [.var (rdr s (if e = 0 then q else p)) 51]) := by
  have c := c_dscanR s p sg hp hl
  have hb := scR_bd sg s p hp
  rw [h] at c hb
  simp only at c hb
  have cp' : ACalls seat 25 [.str ((s.drop (p : Int).toNat).take ((q : Int).toNat - (p : Int).toNat))] [] (fun x _ => x = .ret (.tup [.int .i64 v, .int .i64 e])) := cp
  refine ACalls.body seat_ok Tryd.func11 rfl rfl ?_
  clear h cp
  unfold rdr at *
  by_cases he : e = 0
  · rw [if_pos he]
    conv => whnf
    refine DrawH.plan seat_ok (.take 0 (.take 1 (.take 2 (.take 3 (.take 4 (.take 5 (.take 6 (.take 7 (.take 8 (.perform 9 none (.take 10 (.take 11 (.take 12 (.take 13 (.take 14 Plan.done))))))))))))))) 0 (by kernel_rfl) ?_
    conv => whnf
    repeat' (first | (refine CallH.lift seat_g c (by simp [Closed, ClosedL]) (by simp [Closed, ClosedL]) ?_; conv => whnf) | ((first | refine zq1 (by omega) ?_ | refine zq2 (by omega) ?_ | refine NumH.rem (by omega) ?_ | refine zq4 (by omega) ?_ | refine zq5 (by omega) ?_ | refine zq6 ?_ | refine Req.mk (by omega) ?_ | refine Req.mk (by dsimp only; omega) ?_ | refine Req.mk ⟨rfl, rfl, rfl, by simp [ci_length, *], rfl, by simp [okCell], by dsimp only; omega, by omega, by decide⟩ ?_ | refine Req.mk (show pendP _ _ by repeat' constructor) ?_ | (with_reducible refine brT ?_ ?_; next => assumption) | (with_reducible refine brF ?_ ?_; next => assumption) | (with_reducible refine brDT ?_ ?_; next => omega) | (with_reducible refine brDF ?_ ?_; next => omega) | (with_reducible refine brET ?_ ?_; next => omega) | (with_reducible refine brEF ?_ ?_; next => omega) | (with_reducible refine brNET ?_ ?_; next => omega) | (with_reducible refine brNEF ?_ ?_; next => omega) | with_reducible refine brNot ?_); conv => whnf))
    refine DrawH.plan seat_ok (.take 0 (.take 1 (.take 2 (.take 3 (.take 4 (.take 5 (.take 6 (.take 7 (.take 8 (.take 9 (.perform 10 none (.take 11 (.take 12 (.take 13 (.take 14 (.take 15 Plan.done)))))))))))))))) 0 (by kernel_rfl) ?_
    conv => whnf
    repeat' (first | exact ⟨rfl, rfl⟩ | (refine CallH.lift seat_g cp' (by simp [Closed, ClosedL]) (by simp [Closed, ClosedL]) ?_; conv => whnf) | ((first | refine zq1 (by omega) ?_ | refine zq2 (by omega) ?_ | refine NumH.rem (by omega) ?_ | refine zq4 (by omega) ?_ | refine zq5 (by omega) ?_ | refine zq6 ?_ | refine Req.mk (by omega) ?_ | refine Req.mk (by dsimp only; omega) ?_ | refine Req.mk ⟨rfl, rfl, rfl, by simp [ci_length, *], rfl, by simp [okCell], by dsimp only; omega, by omega, by decide⟩ ?_ | refine Req.mk (show pendP _ _ by repeat' constructor) ?_ | (with_reducible refine brT ?_ ?_; next => assumption) | (with_reducible refine brF ?_ ?_; next => assumption) | (with_reducible refine brDT ?_ ?_; next => omega) | (with_reducible refine brDF ?_ ?_; next => omega) | (with_reducible refine brET ?_ ?_; next => omega) | (with_reducible refine brEF ?_ ?_; next => omega) | (with_reducible refine brNET ?_ ?_; next => omega) | (with_reducible refine brNEF ?_ ?_; next => omega) | with_reducible refine brNot ?_); conv => whnf))
  · rw [if_neg he]
    conv => whnf
    refine DrawH.plan seat_ok (.take 0 (.take 1 (.take 2 (.take 3 (.take 4 (.take 5 (.take 6 (.take 7 (.take 8 (.perform 9 none (.take 10 (.take 11 (.take 12 (.take 13 (.take 14 Plan.done))))))))))))))) 0 (by kernel_rfl) ?_
    conv => whnf
    repeat' (first | (refine CallH.lift seat_g c (by simp [Closed, ClosedL]) (by simp [Closed, ClosedL]) ?_; conv => whnf) | ((first | refine zq1 (by omega) ?_ | refine zq2 (by omega) ?_ | refine NumH.rem (by omega) ?_ | refine zq4 (by omega) ?_ | refine zq5 (by omega) ?_ | refine zq6 ?_ | refine Req.mk (by omega) ?_ | refine Req.mk (by dsimp only; omega) ?_ | refine Req.mk ⟨rfl, rfl, rfl, by simp [ci_length, *], rfl, by simp [okCell], by dsimp only; omega, by omega, by decide⟩ ?_ | refine Req.mk (show pendP _ _ by repeat' constructor) ?_ | (with_reducible refine brT ?_ ?_; next => assumption) | (with_reducible refine brF ?_ ?_; next => assumption) | (with_reducible refine brDT ?_ ?_; next => omega) | (with_reducible refine brDF ?_ ?_; next => omega) | (with_reducible refine brET ?_ ?_; next => omega) | (with_reducible refine brEF ?_ ?_; next => omega) | (with_reducible refine brNET ?_ ?_; next => omega) | (with_reducible refine brNEF ?_ ?_; next => omega) | with_reducible refine brNot ?_); conv => whnf))
    refine DrawH.plan seat_ok (.take 0 (.take 1 (.take 2 (.take 3 (.take 4 (.take 5 (.take 6 (.take 7 (.take 8 (.take 9 (.perform 10 none (.take 11 (.take 12 (.take 13 (.take 14 (.take 15 Plan.done)))))))))))))))) 0 (by kernel_rfl) ?_
    conv => whnf
    repeat' (first | exact ⟨rfl, rfl⟩ | (refine CallH.lift seat_g cp' (by simp [Closed, ClosedL]) (by simp [Closed, ClosedL]) ?_; conv => whnf) | ((first | refine zq1 (by omega) ?_ | refine zq2 (by omega) ?_ | refine NumH.rem (by omega) ?_ | refine zq4 (by omega) ?_ | refine zq5 (by omega) ?_ | refine zq6 ?_ | refine Req.mk (by omega) ?_ | refine Req.mk (by dsimp only; omega) ?_ | refine Req.mk ⟨rfl, rfl, rfl, by simp [ci_length, *], rfl, by simp [okCell], by dsimp only; omega, by omega, by decide⟩ ?_ | refine Req.mk (show pendP _ _ by repeat' constructor) ?_ | (with_reducible refine brT ?_ ?_; next => assumption) | (with_reducible refine brF ?_ ?_; next => assumption) | (with_reducible refine brDT ?_ ?_; next => omega) | (with_reducible refine brDF ?_ ?_; next => omega) | (with_reducible refine brET ?_ ?_; next => omega) | (with_reducible refine brEF ?_ ?_; next => omega) | (with_reducible refine brNET ?_ ?_; next => omega) | (with_reducible refine brNEF ?_ ?_; next => omega) | with_reducible refine brNot ?_); conv => whnf))
theorem c_rnumberE (s : List UInt8) (p : Nat) (sg : Bool) (hp : p ≤ s.length) (hl : s.length ≤ 900000) (h : (scR sg s p).2 = false) : ACalls seat 18 [.str s, .int .i64 p, .bool sg] [] (fun x _ => x = .ret (gotV 0 3 (scR sg s p).1)) := by
  have c := c_rscan s p sg hp hl
  rw [h] at c
  generalize (scR sg s p).1 = q at *
  refine ACalls.body seat_ok Tryd.func18 rfl rfl ?_
  conv => whnf
  repeat' (first | exact rfl | (refine CallH.lift seat_g c (by simp [Closed, ClosedL]) (by simp [Closed, ClosedL]) ?_; conv => whnf) | ((first | refine zq1 (by omega) ?_ | refine zq2 (by omega) ?_ | refine NumH.rem (by omega) ?_ | refine zq4 (by omega) ?_ | refine zq5 (by omega) ?_ | refine zq6 ?_ | refine Req.mk (by omega) ?_ | refine Req.mk (by dsimp only; omega) ?_ | refine Req.mk ⟨rfl, rfl, rfl, by simp [ci_length, *], rfl, by simp [okCell], by dsimp only; omega, by omega, by decide⟩ ?_ | refine Req.mk (show pendP _ _ by repeat' constructor) ?_ | (with_reducible refine brT ?_ ?_; next => assumption) | (with_reducible refine brF ?_ ?_; next => assumption) | (with_reducible refine brDT ?_ ?_; next => omega) | (with_reducible refine brDF ?_ ?_; next => omega) | (with_reducible refine brET ?_ ?_; next => omega) | (with_reducible refine brEF ?_ ?_; next => omega) | (with_reducible refine brNET ?_ ?_; next => omega) | (with_reducible refine brNEF ?_ ?_; next => omega) | with_reducible refine brNot ?_); conv => whnf))
theorem c_rnumberV (s : List UInt8) (p q : Nat) (sg : Bool) (v e : Int) (hp : p ≤ s.length) (hl : s.length ≤ 900000) (h : scR sg s p = (q, true)) (hv : e = 0 ∨ v = 0) (cp : ACalls seat 28 [.str ((s.drop p).take (q - p))] [] (fun x _ => x = .ret (.tup [.int .i64 v, .int .i64 e]))) :
    ACalls seat 18 [.str s, .int .i64 p, .bool sg] [] (fun x _ => x = .ret (gotV v e (if e = 0 then q else p))) := by
  have c := c_rscan s p sg hp hl
  have hb := scR_bd sg s p hp
  rw [h] at c hb
  simp only at c hb
  have cp' : ACalls seat 28 [.str ((s.drop (p : Int).toNat).take ((q : Int).toNat - (p : Int).toNat))] [] (fun x _ => x = .ret (.tup [.int .i64 v, .int .i64 e])) := cp
  refine ACalls.body seat_ok Tryd.func18 rfl rfl ?_
  clear h cp
  by_cases he : e = 0
  · subst he
    rw [if_pos rfl]
    conv => whnf
    repeat' (first | exact rfl | (refine CallH.lift seat_g c (by simp [Closed, ClosedL]) (by simp [Closed, ClosedL]) ?_; conv => whnf) | (refine CallH.lift seat_g cp' (by simp [Closed, ClosedL]) (by simp [Closed, ClosedL]) ?_; conv => whnf) | ((first | refine zq1 (by omega) ?_ | refine zq2 (by omega) ?_ | refine NumH.rem (by omega) ?_ | refine zq4 (by omega) ?_ | refine zq5 (by omega) ?_ | refine zq6 ?_ | refine Req.mk (by omega) ?_ | refine Req.mk (by dsimp only; omega) ?_ | refine Req.mk ⟨rfl, rfl, rfl, by simp [ci_length, *], rfl, by simp [okCell], by dsimp only; omega, by omega, by decide⟩ ?_ | refine Req.mk (show pendP _ _ by repeat' constructor) ?_ | (with_reducible refine brT ?_ ?_; next => assumption) | (with_reducible refine brF ?_ ?_; next => assumption) | (with_reducible refine brDT ?_ ?_; next => omega) | (with_reducible refine brDF ?_ ?_; next => omega) | (with_reducible refine brET ?_ ?_; next => omega) | (with_reducible refine brEF ?_ ?_; next => omega) | (with_reducible refine brNET ?_ ?_; next => omega) | (with_reducible refine brNEF ?_ ?_; next => omega) | with_reducible refine brNot ?_); conv => whnf))
  · rw [if_neg he]
    obtain rfl : v = 0 := by omega
    conv => whnf
    repeat' (first | exact rfl | (refine CallH.lift seat_g c (by simp [Closed, ClosedL]) (by simp [Closed, ClosedL]) ?_; conv => whnf) | (refine CallH.lift seat_g cp' (by simp [Closed, ClosedL]) (by simp [Closed, ClosedL]) ?_; conv => whnf) | ((first | refine zq1 (by omega) ?_ | refine zq2 (by omega) ?_ | refine NumH.rem (by omega) ?_ | refine zq4 (by omega) ?_ | refine zq5 (by omega) ?_ | refine zq6 ?_ | refine Req.mk (by omega) ?_ | refine Req.mk (by dsimp only; omega) ?_ | refine Req.mk ⟨rfl, rfl, rfl, by simp [ci_length, *], rfl, by simp [okCell], by dsimp only; omega, by omega, by decide⟩ ?_ | refine Req.mk (show pendP _ _ by repeat' constructor) ?_ | (with_reducible refine brT ?_ ?_; next => assumption) | (with_reducible refine brF ?_ ?_; next => assumption) | (with_reducible refine brDT ?_ ?_; next => omega) | (with_reducible refine brDF ?_ ?_; next => omega) | (with_reducible refine brET ?_ ?_; next => omega) | (with_reducible refine brEF ?_ ?_; next => omega) | (with_reducible refine brNET ?_ ?_; next => omega) | (with_reducible refine brNEF ?_ ?_; next => omega) | with_reducible refine brNot ?_); conv => whnf))
/-- a number at any place, by both -/
theorem num_both (s : List UInt8) (p : Nat) (sg : Bool) (hp : p ≤ s.length) (hl : s.length ≤ 400) : ∃ (v e : Int) (q : Nat), (p ≤ q ∧ q ≤ s.length) ∧ (e = 0 → p < q) ∧ (e = 2 → q = p) ∧ (e = 0 ∨ e = 2 ∨ e = 3) ∧
    ACalls seat 11 [.ptr 0 0, .bool sg] [.var (rdr s p) 51] (fun x h => x = .ret (.tup [.int .i64 v, .int .i64 e]) ∧ h = [.var (rdr s q) 51]) ∧
    ACalls seat 18 [.str s, .int .i64 p, .bool sg] [] (fun x _ => x = .ret (gotV v e q)) := by
  have hb := scR_bd sg s p hp
  obtain ⟨⟨q, ok⟩, hq⟩ : ∃ r, scR sg s p = r := ⟨_, rfl⟩
  cases ok with
  | false =>
    have h2 : (scR sg s p).2 = false := by rw [hq]
    have c1 := c_numberE s p sg hp (by omega) h2
    have c2 := c_rnumberE s p sg hp (by omega) h2
    exact ⟨0, 3, _, hb, by omega, by omega, by omega, c1, c2⟩
  | true =>
    have hpos : p < q := by
      rw [scR_S] at hq
      have h1 := addA_full hq
      have h3 := scS_pos h1.2
      omega
    rw [hq] at hb
    simp only at hb
    obtain ⟨V, hV, d1, d2⟩ := parse_both ((s.drop p).take (q - p)) (by rw [List.length_take, List.length_drop]; omega)
    obtain ⟨v, e, rfl, he⟩ : ∃ v e : Int, V = .tup [.int .i64 v, .int .i64 e] ∧ (e = 0 ∨ (v = 0 ∧ (e = 2 ∨ e = 3))) := by
      rcases hV with rfl | ⟨S, A, B, ex, -, -, rfl⟩
      · exact ⟨_, _, rfl, .inr ⟨rfl, .inr rfl⟩⟩
      · obtain ⟨a, e, h, h2⟩ := outV_ex (refV (S == [45]) (txtN A B) (txtP A B ex))
        exact ⟨a, e, h, by omega⟩
    have c1 := c_numberV s p q sg v e hp (by omega) hq d1
    have c2 := c_rnumberV s p q sg v e hp (by omega) hq (by omega) d2
    refine ⟨v, e, _, ?_, ?_, ?_, by omega, c1, c2⟩
    · split <;> omega
    · intro h; rw [if_pos h]; exact hpos
    · intro h; rw [if_neg (by omega)]
/-- a printed number at a place -/
theorem num_pr (s : List UInt8) (p : Nat) (n : Int) (r : List UInt8) (hs : s.drop p = prD n ++ r) (hr : kd r = -1) (hp : p ≤ s.length) (hl : s.length ≤ 900000) (hn : -4294967296 < n ∧ n < 4294967296) :
    ACalls seat 11 [.ptr 0 0, .bool true] [.var (rdr s p) 51] (fun x h => x = .ret (.tup [.int .i64 n, .int .i64 0]) ∧ h = [.var (rdr s (p + (prD n).length)) 51]) := by
  have hsc : scR true s p = (p + (prD n).length, true) := by rw [scR_S, hs, scan_pr n r hr]; rfl
  have hlen : (prD n).length ≤ 400 := by
    have h1 := prB_len n.natAbs
    have h2 := decD_len 9 (n.natAbs / 65536) (by omega)
    unfold prD prS
    have h3 : (dotL (prB n.natAbs)).length ≤ 17 := by
      cases hB : prB n.natAbs with
      | none => simp [dotL]
      | some B => rw [hB] at h1; simp only [Option.getD_some] at h1; simp [dotL]; omega
    simp only [List.length_append]; split <;> simp <;> omega
  have hp1 : ACalls seat 25 [.str (prD n)] [] (fun x _ => x = .ret (.tup [.int .i64 n, .int .i64 0])) := by
    have h1 := c_dparse_txt (prD_ok n) (by rw [← prD_txt]; exact hlen)
    unfold txtV at h1
    rw [refV_pr, ← prD_txt] at h1
    rw [show outV n = .tup [.int .i64 n, .int .i64 0] from if_neg (by omega)] at h1
    exact h1
  have ht : (s.drop p).take (p + (prD n).length - p) = prD n := by rw [hs, Nat.add_sub_cancel_left, List.take_left]
  have := c_numberV s p (p + (prD n).length) true n 0 hp hl hsc (by rw [ht]; exact hp1)
  rw [if_pos rfl] at this
  exact this
end Go.Proofs.YtelgbnjagbleoaaDoor
