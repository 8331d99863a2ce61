/- Definitions and lemmas for the law, part 9. No condition beyond those in each statement. -/
import Derived.Test.YtjpaapkdbohgeaaDoorL8
set_option linter.unusedSimpArgs false
set_option linter.unusedVariables false
set_option linter.deprecated false
namespace Go.Proofs.YtjpaapkdbohgeaaDoor
open Go.Abs
theorem scR_bd (sg : Bool) (s : List UInt8) (p : Nat) (hp : p ≤ s.length) : p ≤ (scR sg s p).1 ∧ (scR sg s p).1 ≤ s.length := by
  rw [scan_eq]
  have h := (dfa_le sg (s.drop p) 0 (by omega)).1
  rw [List.length_drop] at h
  unfold addA ans
  simp only
  omega
theorem c_dscanR (s : List UInt8) (p : Nat) (sg : Bool) (hp : p ≤ s.length) (hl : s.length ≤ 900000) : ACalls seat 77 [.str s, .int .i64 p, .bool sg] [] (fun x _ => x = .ret (.tup [.int .i64 ((scR sg s p).1 : Nat), .bool (scR sg s p).2])) := by
  have c := c_dscan s p sg (by omega)
  rw [if_neg (by omega), Int.toNat_natCast] at c
  rw [scan_eq]
  exact c
theorem c_numberE (s : List UInt8) (p : Nat) (sg : Bool) (hp : p ≤ s.length) (hl : s.length ≤ 900000) (h : (scR sg s p).2 = false) : ACalls seat 65 [.ptr 0 0, .bool sg] [.var (rdr s p) 96] (fun x h => x = .ret (.tup [.int .i64 0, .int .i64 3]) ∧ h = [.var (rdr s (scR sg s p).1) 96]) := by
  have c := c_dscanR s p sg hp hl
  rw [h] at c
  generalize (scR sg s p).1 = q at *
  refine ACalls.body seat_ok Tryd.func65 rfl rfl ?_
  unfold rdr at *
  conv => whnf
  refine DrawH.plan seat_ok (.take 0 (.take 1 (.take 2 (.take 3 (.take 4 (.take 5 (.take 6 (.take 7 (.take 8 (.perform 9 none (.take 10 (.take 11 (.take 12 (.take 13 (.take 14 Plan.done))))))))))))))) 0 (by kernel_rfl) ?_
  conv => whnf
  repeat' (first | exact ⟨rfl, rfl⟩ | (refine CallH.lift seat_g c (by simp [Closed, ClosedL]) (by simp [Closed, ClosedL]) ?_; conv => whnf) | ((first | refine zq1 (by omega) ?_ | refine zq2 (by omega) ?_ | refine NumH.rem (by omega) ?_ | refine zq4 (by omega) ?_ | refine zq5 (by omega) ?_ | refine zq6 ?_ | refine Req.mk (by omega) ?_ | refine Req.mk (by dsimp only; omega) ?_ | refine Req.mk (show pendP _ _ by repeat' constructor) ?_ | (with_reducible first | refine brT (by assumption) ?_ | refine brF (by assumption) ?_ | refine brDT (by omega) ?_ | refine brDF (by omega) ?_ | refine brET (by omega) ?_ | refine brEF (by omega) ?_ | refine brNET (by omega) ?_ | refine brNEF (by omega) ?_ | refine brNot ?_)); conv => whnf) | (refine And.intro ?_ ?_ <;> (conv => whnf)))
theorem c_numberV (s : List UInt8) (p q : Nat) (sg : Bool) (v e : Int) (hp : p ≤ s.length) (hl : s.length ≤ 900000) (h : scR sg s p = (q, true)) (cp : ACalls seat 78 [.str ((s.drop p).take (q - p))] [] (fun x _ => x = .ret (.tup [.int .i64 v, .int .i64 e]))) :
    ACalls seat 65 [.ptr 0 0, .bool sg] [.var (rdr s p) 96] (fun x h => x = .ret (.tup [.int .i64 v, .int .i64 e]) ∧ h = [.var (rdr s (if e = 0 then q else p)) 96]) := by
  have c := c_dscanR s p sg hp hl
  have hb := scR_bd sg s p hp
  rw [h] at c hb
  simp only at c hb
  have cp' : ACalls seat 78 [.str ((s.drop (p : Int).toNat).take ((q : Int).toNat - (p : Int).toNat))] [] (fun x _ => x = .ret (.tup [.int .i64 v, .int .i64 e])) := cp
  refine ACalls.body seat_ok Tryd.func65 rfl rfl ?_
  clear h cp
  unfold rdr at *
  by_cases he : e = 0
  · rw [if_pos he]
    conv => whnf
    refine DrawH.plan seat_ok (.take 0 (.take 1 (.take 2 (.take 3 (.take 4 (.take 5 (.take 6 (.take 7 (.take 8 (.perform 9 none (.take 10 (.take 11 (.take 12 (.take 13 (.take 14 Plan.done))))))))))))))) 0 (by kernel_rfl) ?_
    conv => whnf
    repeat' (first | (refine CallH.lift seat_g c (by simp [Closed, ClosedL]) (by simp [Closed, ClosedL]) ?_; conv => whnf) | ((first | refine zq1 (by omega) ?_ | refine zq2 (by omega) ?_ | refine NumH.rem (by omega) ?_ | refine zq4 (by omega) ?_ | refine zq5 (by omega) ?_ | refine zq6 ?_ | refine Req.mk (by omega) ?_ | refine Req.mk (by dsimp only; omega) ?_ | refine Req.mk (show pendP _ _ by repeat' constructor) ?_ | (with_reducible first | refine brT (by assumption) ?_ | refine brF (by assumption) ?_ | refine brDT (by omega) ?_ | refine brDF (by omega) ?_ | refine brET (by omega) ?_ | refine brEF (by omega) ?_ | refine brNET (by omega) ?_ | refine brNEF (by omega) ?_ | refine brNot ?_)); conv => whnf))
    refine DrawH.plan seat_ok (.take 0 (.take 1 (.take 2 (.take 3 (.take 4 (.take 5 (.take 6 (.take 7 (.take 8 (.take 9 (.perform 10 none (.take 11 (.take 12 (.take 13 (.take 14 (.take 15 Plan.done)))))))))))))))) 0 (by kernel_rfl) ?_
    conv => whnf
    repeat' (first | exact ⟨rfl, rfl⟩ | (refine CallH.lift seat_g cp' (by simp [Closed, ClosedL]) (by simp [Closed, ClosedL]) ?_; conv => whnf) | ((first | refine zq1 (by omega) ?_ | refine zq2 (by omega) ?_ | refine NumH.rem (by omega) ?_ | refine zq4 (by omega) ?_ | refine zq5 (by omega) ?_ | refine zq6 ?_ | refine Req.mk (by omega) ?_ | refine Req.mk (by dsimp only; omega) ?_ | refine Req.mk (show pendP _ _ by repeat' constructor) ?_ | (with_reducible first | refine brT (by assumption) ?_ | refine brF (by assumption) ?_ | refine brDT (by omega) ?_ | refine brDF (by omega) ?_ | refine brET (by omega) ?_ | refine brEF (by omega) ?_ | refine brNET (by omega) ?_ | refine brNEF (by omega) ?_ | refine brNot ?_)); conv => whnf))
  · rw [if_neg he]
    conv => whnf
    refine DrawH.plan seat_ok (.take 0 (.take 1 (.take 2 (.take 3 (.take 4 (.take 5 (.take 6 (.take 7 (.take 8 (.perform 9 none (.take 10 (.take 11 (.take 12 (.take 13 (.take 14 Plan.done))))))))))))))) 0 (by kernel_rfl) ?_
    conv => whnf
    repeat' (first | (refine CallH.lift seat_g c (by simp [Closed, ClosedL]) (by simp [Closed, ClosedL]) ?_; conv => whnf) | ((first | refine zq1 (by omega) ?_ | refine zq2 (by omega) ?_ | refine NumH.rem (by omega) ?_ | refine zq4 (by omega) ?_ | refine zq5 (by omega) ?_ | refine zq6 ?_ | refine Req.mk (by omega) ?_ | refine Req.mk (by dsimp only; omega) ?_ | refine Req.mk (show pendP _ _ by repeat' constructor) ?_ | (with_reducible first | refine brT (by assumption) ?_ | refine brF (by assumption) ?_ | refine brDT (by omega) ?_ | refine brDF (by omega) ?_ | refine brET (by omega) ?_ | refine brEF (by omega) ?_ | refine brNET (by omega) ?_ | refine brNEF (by omega) ?_ | refine brNot ?_)); conv => whnf))
    refine DrawH.plan seat_ok (.take 0 (.take 1 (.take 2 (.take 3 (.take 4 (.take 5 (.take 6 (.take 7 (.take 8 (.take 9 (.perform 10 none (.take 11 (.take 12 (.take 13 (.take 14 (.take 15 Plan.done)))))))))))))))) 0 (by kernel_rfl) ?_
    conv => whnf
    repeat' (first | exact ⟨rfl, rfl⟩ | (refine CallH.lift seat_g cp' (by simp [Closed, ClosedL]) (by simp [Closed, ClosedL]) ?_; conv => whnf) | ((first | refine zq1 (by omega) ?_ | refine zq2 (by omega) ?_ | refine NumH.rem (by omega) ?_ | refine zq4 (by omega) ?_ | refine zq5 (by omega) ?_ | refine zq6 ?_ | refine Req.mk (by omega) ?_ | refine Req.mk (by dsimp only; omega) ?_ | refine Req.mk (show pendP _ _ by repeat' constructor) ?_ | (with_reducible first | refine brT (by assumption) ?_ | refine brF (by assumption) ?_ | refine brDT (by omega) ?_ | refine brDF (by omega) ?_ | refine brET (by omega) ?_ | refine brEF (by omega) ?_ | refine brNET (by omega) ?_ | refine brNEF (by omega) ?_ | refine brNot ?_)); conv => whnf))
theorem c_rnumberE (s : List UInt8) (p : Nat) (sg : Bool) (hp : p ≤ s.length) (hl : s.length ≤ 900000) (h : (scR sg s p).2 = false) : ACalls seat 47 [.str s, .int .i64 p, .bool sg] [] (fun x _ => x = .ret (gotV 0 3 (scR sg s p).1)) := by
  have c := c_rscan s p sg hp hl
  rw [h] at c
  generalize (scR sg s p).1 = q at *
  refine ACalls.body seat_ok Tryd.func47 rfl rfl ?_
  conv => whnf
  repeat' (first | exact rfl | (refine CallH.lift seat_g c (by simp [Closed, ClosedL]) (by simp [Closed, ClosedL]) ?_; conv => whnf) | ((first | refine zq1 (by omega) ?_ | refine zq2 (by omega) ?_ | refine NumH.rem (by omega) ?_ | refine zq4 (by omega) ?_ | refine zq5 (by omega) ?_ | refine zq6 ?_ | refine Req.mk (by omega) ?_ | refine Req.mk (by dsimp only; omega) ?_ | refine Req.mk (show pendP _ _ by repeat' constructor) ?_ | (with_reducible first | refine brT (by assumption) ?_ | refine brF (by assumption) ?_ | refine brDT (by omega) ?_ | refine brDF (by omega) ?_ | refine brET (by omega) ?_ | refine brEF (by omega) ?_ | refine brNET (by omega) ?_ | refine brNEF (by omega) ?_ | refine brNot ?_)); conv => whnf))
theorem c_rnumberV (s : List UInt8) (p q : Nat) (sg : Bool) (v e : Int) (hp : p ≤ s.length) (hl : s.length ≤ 900000) (h : scR sg s p = (q, true)) (hv : e = 0 ∨ v = 0) (cp : ACalls seat 59 [.str ((s.drop p).take (q - p))] [] (fun x _ => x = .ret (.tup [.int .i64 v, .int .i64 e]))) :
    ACalls seat 47 [.str s, .int .i64 p, .bool sg] [] (fun x _ => x = .ret (gotV v e (if e = 0 then q else p))) := by
  have c := c_rscan s p sg hp hl
  have hb := scR_bd sg s p hp
  rw [h] at c hb
  simp only at c hb
  have cp' : ACalls seat 59 [.str ((s.drop (p : Int).toNat).take ((q : Int).toNat - (p : Int).toNat))] [] (fun x _ => x = .ret (.tup [.int .i64 v, .int .i64 e])) := cp
  refine ACalls.body seat_ok Tryd.func47 rfl rfl ?_
  clear h cp
  by_cases he : e = 0
  · subst he
    rw [if_pos rfl]
    conv => whnf
    repeat' (first | exact rfl | (refine CallH.lift seat_g c (by simp [Closed, ClosedL]) (by simp [Closed, ClosedL]) ?_; conv => whnf) | (refine CallH.lift seat_g cp' (by simp [Closed, ClosedL]) (by simp [Closed, ClosedL]) ?_; conv => whnf) | ((first | refine zq1 (by omega) ?_ | refine zq2 (by omega) ?_ | refine NumH.rem (by omega) ?_ | refine zq4 (by omega) ?_ | refine zq5 (by omega) ?_ | refine zq6 ?_ | refine Req.mk (by omega) ?_ | refine Req.mk (by dsimp only; omega) ?_ | refine Req.mk (show pendP _ _ by repeat' constructor) ?_ | (with_reducible first | refine brT (by assumption) ?_ | refine brF (by assumption) ?_ | refine brDT (by omega) ?_ | refine brDF (by omega) ?_ | refine brET (by omega) ?_ | refine brEF (by omega) ?_ | refine brNET (by omega) ?_ | refine brNEF (by omega) ?_ | refine brNot ?_)); conv => whnf))
  · rw [if_neg he]
    obtain rfl : v = 0 := by omega
    conv => whnf
    repeat' (first | exact rfl | (refine CallH.lift seat_g c (by simp [Closed, ClosedL]) (by simp [Closed, ClosedL]) ?_; conv => whnf) | (refine CallH.lift seat_g cp' (by simp [Closed, ClosedL]) (by simp [Closed, ClosedL]) ?_; conv => whnf) | ((first | refine zq1 (by omega) ?_ | refine zq2 (by omega) ?_ | refine NumH.rem (by omega) ?_ | refine zq4 (by omega) ?_ | refine zq5 (by omega) ?_ | refine zq6 ?_ | refine Req.mk (by omega) ?_ | refine Req.mk (by dsimp only; omega) ?_ | refine Req.mk (show pendP _ _ by repeat' constructor) ?_ | (with_reducible first | refine brT (by assumption) ?_ | refine brF (by assumption) ?_ | refine brDT (by omega) ?_ | refine brDF (by omega) ?_ | refine brET (by omega) ?_ | refine brEF (by omega) ?_ | refine brNET (by omega) ?_ | refine brNEF (by omega) ?_ | refine brNot ?_)); conv => whnf))
end Go.Proofs.YtjpaapkdbohgeaaDoor
namespace Go.Proofs.YtjpaapkdbohgeaaDoor
open Go.Abs
set_option maxRecDepth 20000 in
set_option maxHeartbeats 1000000 in
theorem c_gap (s : List UInt8) (p : Nat) (hp : p ≤ s.length) (hl : s.length ≤ 900000) : ACalls seat 55 [.ptr 0 0] [.var (rdr s p) 96] (fun x h => x = .ret (.bool (decide (0 < gapN (s.drop p)))) ∧ h = [.var (rdr s (p + gapN (s.drop p))) 96]) := by
  refine ACalls.take seat_g 1 (Nat.le_refl _) (by simp [Ids]) (by simp [rdr, IdsH, IdsC, IdsL, Ids]) ?_
  have c1 := c_blanks s p hp hl
  have hin := blk_in s p hp
  unfold gapN
  rw [List.drop_drop]
  obtain ⟨k, hk⟩ : ∃ k, k = p + blk (s.drop p) := ⟨_, rfl⟩
  rw [← hk] at c1 hin ⊢
  have hkp : p ≤ k := by omega
  refine ACalls.bodyD2 seat_ok Tryd.func55 rfl rfl rfl rfl rfl rfl rfl rfl rfl rfl Tryd.func63 rfl rfl rfl rfl ?_
  by_cases g : k < s.length
  · obtain ⟨b, hb⟩ : ∃ b, s[k]? = some b := ⟨_, List.getElem?_eq_getElem g⟩
    have cp := c_peekS s k b hb hl
    rw [isC_some hb]
    by_cases h : (b.toNat : Int) = 44
    · rw [if_pos (by simpa using h), List.drop_drop, show p + (blk (s.drop p) + 1) = k + 1 by omega]
      have c2 := c_blanks s (k + 1) (by omega) hl
      obtain ⟨q, hq⟩ : ∃ q, q = k + 1 + blk (s.drop (k + 1)) := ⟨_, rfl⟩
      rw [← hq] at c2
      have e1 : p + (blk (s.drop p) + 1 + blk (s.drop (k + 1))) = q := by omega
      have e2 : decide (0 < blk (s.drop p) + 1 + blk (s.drop (k + 1))) = decide ((q : Int) > p) := decide_eq_decide.2 (by omega)
      have g1 : (q : Int) > p := by omega
      rw [e1, e2]
      clear hk hq e1 e2
      have hk1 : ((k : Int) + 1) = ((k + 1 : Nat) : Int) := by omega
      unfold rdr at *
      rw [← hk1] at c2
      conv => whnf
      refine ⟨rfl, ?_⟩
      conv => whnf
      refine ⟨rfl, Nat.le_of_ble_eq_true rfl, ?_⟩
      conv => whnf
      repeat' (first | (refine CallH.mem1 seat_g 0 c1 rfl (by simp [Closed, ClosedL]) (by simp [Closed, ClosedL]) (by simp [Closed, ClosedL]) rfl ?_; conv => whnf) | (refine CallH.mem1 seat_g 0 cp rfl (by simp [Closed, ClosedL]) (by simp [Closed, ClosedL]) (by simp [Closed, ClosedL]) rfl ?_; conv => whnf) | (refine CallH.mem1 seat_g 0 c2 rfl (by simp [Closed, ClosedL]) (by simp [Closed, ClosedL]) (by simp [Closed, ClosedL]) rfl ?_; conv => whnf) | ((first | refine zq1 (by omega) ?_ | refine zq2 (by omega) ?_ | refine NumH.rem (by omega) ?_ | refine zq4 (by omega) ?_ | refine zq5 (by omega) ?_ | refine zq6 ?_ | refine Req.mk (by omega) ?_ | refine Req.mk (by dsimp only; omega) ?_ | refine Req.mk (show pendP _ _ by repeat' constructor) ?_ | (with_reducible first | refine brT (by assumption) ?_ | refine brF (by assumption) ?_ | refine brDT (by omega) ?_ | refine brDF (by omega) ?_ | refine brET (by omega) ?_ | refine brEF (by omega) ?_ | refine brNET (by omega) ?_ | refine brNEF (by omega) ?_ | refine brNot ?_)); conv => whnf))
      refine DrawH.plan seat_ok (.take 0 (.take 1 (.take 2 (.take 3 (.take 4 (.take 5 (.perform 6 none Plan.done))))))) 0 (by kernel_rfl) ?_
      conv => whnf
      repeat' ((first | refine zq1 (by omega) ?_ | refine zq2 (by omega) ?_ | refine NumH.rem (by omega) ?_ | refine zq4 (by omega) ?_ | refine zq5 (by omega) ?_ | refine zq6 ?_ | refine Req.mk (by omega) ?_ | refine Req.mk (by dsimp only; omega) ?_ | refine Req.mk (show pendP _ _ by repeat' constructor) ?_ | (with_reducible first | refine brT (by assumption) ?_ | refine brF (by assumption) ?_ | refine brDT (by omega) ?_ | refine brDF (by omega) ?_ | refine brET (by omega) ?_ | refine brEF (by omega) ?_ | refine brNET (by omega) ?_ | refine brNEF (by omega) ?_ | refine brNot ?_)); conv => whnf)
      refine ⟨DCalls.plain seat_ok Tryd.func63 rfl rfl rfl ?_⟩
      conv => whnf
      repeat' ((first | refine zq1 (by omega) ?_ | refine zq2 (by omega) ?_ | refine NumH.rem (by omega) ?_ | refine zq4 (by omega) ?_ | refine zq5 (by omega) ?_ | refine zq6 ?_ | refine Req.mk (by omega) ?_ | refine Req.mk (by dsimp only; omega) ?_ | refine Req.mk (show pendP _ _ by repeat' constructor) ?_ | (with_reducible first | refine brT (by assumption) ?_ | refine brF (by assumption) ?_ | refine brDT (by omega) ?_ | refine brDF (by omega) ?_ | refine brET (by omega) ?_ | refine brEF (by omega) ?_ | refine brNET (by omega) ?_ | refine brNEF (by omega) ?_ | refine brNot ?_)); conv => whnf)
      refine ⟨.inl rfl, ?_⟩
      conv => whnf
      exact ⟨rfl, rfl⟩
    · rw [if_neg (by simpa using h), ← hk]
      have e2 : decide (0 < blk (s.drop p)) = decide ((k : Int) > p) := decide_eq_decide.2 (by omega)
      rw [e2]
      unfold rdr at *
      by_cases g1 : (k : Int) > p
      · clear hk e2
        conv => whnf
        refine ⟨rfl, ?_⟩
        conv => whnf
        refine ⟨rfl, Nat.le_of_ble_eq_true rfl, ?_⟩
        conv => whnf
        repeat' (first | (refine CallH.mem1 seat_g 0 c1 rfl (by simp [Closed, ClosedL]) (by simp [Closed, ClosedL]) (by simp [Closed, ClosedL]) rfl ?_; conv => whnf) | (refine CallH.mem1 seat_g 0 cp rfl (by simp [Closed, ClosedL]) (by simp [Closed, ClosedL]) (by simp [Closed, ClosedL]) rfl ?_; conv => whnf) | ((first | refine zq1 (by omega) ?_ | refine zq2 (by omega) ?_ | refine NumH.rem (by omega) ?_ | refine zq4 (by omega) ?_ | refine zq5 (by omega) ?_ | refine zq6 ?_ | refine Req.mk (by omega) ?_ | refine Req.mk (by dsimp only; omega) ?_ | refine Req.mk (show pendP _ _ by repeat' constructor) ?_ | (with_reducible first | refine brT (by assumption) ?_ | refine brF (by assumption) ?_ | refine brDT (by omega) ?_ | refine brDF (by omega) ?_ | refine brET (by omega) ?_ | refine brEF (by omega) ?_ | refine brNET (by omega) ?_ | refine brNEF (by omega) ?_ | refine brNot ?_)); conv => whnf))
        refine DrawH.plan seat_ok (.take 0 (.take 1 (.take 2 (.take 3 (.take 4 (.take 5 (.perform 6 none Plan.done))))))) 0 (by kernel_rfl) ?_
        conv => whnf
        repeat' ((first | refine zq1 (by omega) ?_ | refine zq2 (by omega) ?_ | refine NumH.rem (by omega) ?_ | refine zq4 (by omega) ?_ | refine zq5 (by omega) ?_ | refine zq6 ?_ | refine Req.mk (by omega) ?_ | refine Req.mk (by dsimp only; omega) ?_ | refine Req.mk (show pendP _ _ by repeat' constructor) ?_ | (with_reducible first | refine brT (by assumption) ?_ | refine brF (by assumption) ?_ | refine brDT (by omega) ?_ | refine brDF (by omega) ?_ | refine brET (by omega) ?_ | refine brEF (by omega) ?_ | refine brNET (by omega) ?_ | refine brNEF (by omega) ?_ | refine brNot ?_)); conv => whnf)
        refine ⟨DCalls.plain seat_ok Tryd.func63 rfl rfl rfl ?_⟩
        conv => whnf
        repeat' ((first | refine zq1 (by omega) ?_ | refine zq2 (by omega) ?_ | refine NumH.rem (by omega) ?_ | refine zq4 (by omega) ?_ | refine zq5 (by omega) ?_ | refine zq6 ?_ | refine Req.mk (by omega) ?_ | refine Req.mk (by dsimp only; omega) ?_ | refine Req.mk (show pendP _ _ by repeat' constructor) ?_ | (with_reducible first | refine brT (by assumption) ?_ | refine brF (by assumption) ?_ | refine brDT (by omega) ?_ | refine brDF (by omega) ?_ | refine brET (by omega) ?_ | refine brEF (by omega) ?_ | refine brNET (by omega) ?_ | refine brNEF (by omega) ?_ | refine brNot ?_)); conv => whnf)
        refine ⟨.inl rfl, ?_⟩
        conv => whnf
        exact ⟨rfl, rfl⟩
      · obtain rfl : k = p := by omega
        clear hk e2
        conv => whnf
        refine ⟨rfl, ?_⟩
        conv => whnf
        refine ⟨rfl, Nat.le_of_ble_eq_true rfl, ?_⟩
        conv => whnf
        repeat' (first | (refine CallH.mem1 seat_g 0 c1 rfl (by simp [Closed, ClosedL]) (by simp [Closed, ClosedL]) (by simp [Closed, ClosedL]) rfl ?_; conv => whnf) | (refine CallH.mem1 seat_g 0 cp rfl (by simp [Closed, ClosedL]) (by simp [Closed, ClosedL]) (by simp [Closed, ClosedL]) rfl ?_; conv => whnf) | ((first | refine zq1 (by omega) ?_ | refine zq2 (by omega) ?_ | refine NumH.rem (by omega) ?_ | refine zq4 (by omega) ?_ | refine zq5 (by omega) ?_ | refine zq6 ?_ | refine Req.mk (by omega) ?_ | refine Req.mk (by dsimp only; omega) ?_ | refine Req.mk (show pendP _ _ by repeat' constructor) ?_ | (with_reducible first | refine brT (by assumption) ?_ | refine brF (by assumption) ?_ | refine brDT (by omega) ?_ | refine brDF (by omega) ?_ | refine brET (by omega) ?_ | refine brEF (by omega) ?_ | refine brNET (by omega) ?_ | refine brNEF (by omega) ?_ | refine brNot ?_)); conv => whnf))
        refine DrawH.plan seat_ok (.take 0 (.take 1 (.take 2 (.take 3 (.take 4 (.take 5 (.perform 6 none Plan.done))))))) 0 (by kernel_rfl) ?_
        conv => whnf
        repeat' ((first | refine zq1 (by omega) ?_ | refine zq2 (by omega) ?_ | refine NumH.rem (by omega) ?_ | refine zq4 (by omega) ?_ | refine zq5 (by omega) ?_ | refine zq6 ?_ | refine Req.mk (by omega) ?_ | refine Req.mk (by dsimp only; omega) ?_ | refine Req.mk (show pendP _ _ by repeat' constructor) ?_ | (with_reducible first | refine brT (by assumption) ?_ | refine brF (by assumption) ?_ | refine brDT (by omega) ?_ | refine brDF (by omega) ?_ | refine brET (by omega) ?_ | refine brEF (by omega) ?_ | refine brNET (by omega) ?_ | refine brNEF (by omega) ?_ | refine brNot ?_)); conv => whnf)
        refine ⟨DCalls.plain seat_ok Tryd.func63 rfl rfl rfl ?_⟩
        conv => whnf
        repeat' ((first | refine zq1 (by omega) ?_ | refine zq2 (by omega) ?_ | refine NumH.rem (by omega) ?_ | refine zq4 (by omega) ?_ | refine zq5 (by omega) ?_ | refine zq6 ?_ | refine Req.mk (by omega) ?_ | refine Req.mk (by dsimp only; omega) ?_ | refine Req.mk (show pendP _ _ by repeat' constructor) ?_ | (with_reducible first | refine brT (by assumption) ?_ | refine brF (by assumption) ?_ | refine brDT (by omega) ?_ | refine brDF (by omega) ?_ | refine brET (by omega) ?_ | refine brEF (by omega) ?_ | refine brNET (by omega) ?_ | refine brNEF (by omega) ?_ | refine brNot ?_)); conv => whnf)
        refine ⟨.inl rfl, ?_⟩
        conv => whnf
        exact ⟨rfl, rfl⟩
  · have hke : k = s.length := by omega
    have cp := c_peekN s hl
    rw [← hke] at cp
    rw [List.drop_eq_nil_of_le (by omega), if_neg (by decide), ← hk]
    have e2 : decide (0 < blk (s.drop p)) = decide ((k : Int) > p) := decide_eq_decide.2 (by omega)
    rw [e2]
    unfold rdr at *
    by_cases g1 : (k : Int) > p
    · clear hk e2
      conv => whnf
      refine ⟨rfl, ?_⟩
      conv => whnf
      refine ⟨rfl, Nat.le_of_ble_eq_true rfl, ?_⟩
      conv => whnf
      repeat' (first | (refine CallH.mem1 seat_g 0 c1 rfl (by simp [Closed, ClosedL]) (by simp [Closed, ClosedL]) (by simp [Closed, ClosedL]) rfl ?_; conv => whnf) | (refine CallH.mem1 seat_g 0 cp rfl (by simp [Closed, ClosedL]) (by simp [Closed, ClosedL]) (by simp [Closed, ClosedL]) rfl ?_; conv => whnf) | ((first | refine zq1 (by omega) ?_ | refine zq2 (by omega) ?_ | refine NumH.rem (by omega) ?_ | refine zq4 (by omega) ?_ | refine zq5 (by omega) ?_ | refine zq6 ?_ | refine Req.mk (by omega) ?_ | refine Req.mk (by dsimp only; omega) ?_ | refine Req.mk (show pendP _ _ by repeat' constructor) ?_ | (with_reducible first | refine brT (by assumption) ?_ | refine brF (by assumption) ?_ | refine brDT (by omega) ?_ | refine brDF (by omega) ?_ | refine brET (by omega) ?_ | refine brEF (by omega) ?_ | refine brNET (by omega) ?_ | refine brNEF (by omega) ?_ | refine brNot ?_)); conv => whnf))
      refine DrawH.plan seat_ok (.take 0 (.take 1 (.take 2 (.take 3 (.take 4 (.take 5 (.perform 6 none Plan.done))))))) 0 (by kernel_rfl) ?_
      conv => whnf
      repeat' ((first | refine zq1 (by omega) ?_ | refine zq2 (by omega) ?_ | refine NumH.rem (by omega) ?_ | refine zq4 (by omega) ?_ | refine zq5 (by omega) ?_ | refine zq6 ?_ | refine Req.mk (by omega) ?_ | refine Req.mk (by dsimp only; omega) ?_ | refine Req.mk (show pendP _ _ by repeat' constructor) ?_ | (with_reducible first | refine brT (by assumption) ?_ | refine brF (by assumption) ?_ | refine brDT (by omega) ?_ | refine brDF (by omega) ?_ | refine brET (by omega) ?_ | refine brEF (by omega) ?_ | refine brNET (by omega) ?_ | refine brNEF (by omega) ?_ | refine brNot ?_)); conv => whnf)
      refine ⟨DCalls.plain seat_ok Tryd.func63 rfl rfl rfl ?_⟩
      conv => whnf
      repeat' ((first | refine zq1 (by omega) ?_ | refine zq2 (by omega) ?_ | refine NumH.rem (by omega) ?_ | refine zq4 (by omega) ?_ | refine zq5 (by omega) ?_ | refine zq6 ?_ | refine Req.mk (by omega) ?_ | refine Req.mk (by dsimp only; omega) ?_ | refine Req.mk (show pendP _ _ by repeat' constructor) ?_ | (with_reducible first | refine brT (by assumption) ?_ | refine brF (by assumption) ?_ | refine brDT (by omega) ?_ | refine brDF (by omega) ?_ | refine brET (by omega) ?_ | refine brEF (by omega) ?_ | refine brNET (by omega) ?_ | refine brNEF (by omega) ?_ | refine brNot ?_)); conv => whnf)
      refine ⟨.inl rfl, ?_⟩
      conv => whnf
      exact ⟨rfl, rfl⟩
    · have hkk : k = p := by omega
      clear hk e2
      subst hkk
      conv => whnf
      refine ⟨rfl, ?_⟩
      conv => whnf
      refine ⟨rfl, Nat.le_of_ble_eq_true rfl, ?_⟩
      conv => whnf
      repeat' (first | (refine CallH.mem1 seat_g 0 c1 rfl (by simp [Closed, ClosedL]) (by simp [Closed, ClosedL]) (by simp [Closed, ClosedL]) rfl ?_; conv => whnf) | (refine CallH.mem1 seat_g 0 cp rfl (by simp [Closed, ClosedL]) (by simp [Closed, ClosedL]) (by simp [Closed, ClosedL]) rfl ?_; conv => whnf) | ((first | refine zq1 (by omega) ?_ | refine zq2 (by omega) ?_ | refine NumH.rem (by omega) ?_ | refine zq4 (by omega) ?_ | refine zq5 (by omega) ?_ | refine zq6 ?_ | refine Req.mk (by omega) ?_ | refine Req.mk (by dsimp only; omega) ?_ | refine Req.mk (show pendP _ _ by repeat' constructor) ?_ | (with_reducible first | refine brT (by assumption) ?_ | refine brF (by assumption) ?_ | refine brDT (by omega) ?_ | refine brDF (by omega) ?_ | refine brET (by omega) ?_ | refine brEF (by omega) ?_ | refine brNET (by omega) ?_ | refine brNEF (by omega) ?_ | refine brNot ?_)); conv => whnf))
      refine DrawH.plan seat_ok (.take 0 (.take 1 (.take 2 (.take 3 (.take 4 (.take 5 (.perform 6 none Plan.done))))))) 0 (by kernel_rfl) ?_
      conv => whnf
      repeat' ((first | refine zq1 (by omega) ?_ | refine zq2 (by omega) ?_ | refine NumH.rem (by omega) ?_ | refine zq4 (by omega) ?_ | refine zq5 (by omega) ?_ | refine zq6 ?_ | refine Req.mk (by omega) ?_ | refine Req.mk (by dsimp only; omega) ?_ | refine Req.mk (show pendP _ _ by repeat' constructor) ?_ | (with_reducible first | refine brT (by assumption) ?_ | refine brF (by assumption) ?_ | refine brDT (by omega) ?_ | refine brDF (by omega) ?_ | refine brET (by omega) ?_ | refine brEF (by omega) ?_ | refine brNET (by omega) ?_ | refine brNEF (by omega) ?_ | refine brNot ?_)); conv => whnf)
      refine ⟨DCalls.plain seat_ok Tryd.func63 rfl rfl rfl ?_⟩
      conv => whnf
      repeat' ((first | refine zq1 (by omega) ?_ | refine zq2 (by omega) ?_ | refine NumH.rem (by omega) ?_ | refine zq4 (by omega) ?_ | refine zq5 (by omega) ?_ | refine zq6 ?_ | refine Req.mk (by omega) ?_ | refine Req.mk (by dsimp only; omega) ?_ | refine Req.mk (show pendP _ _ by repeat' constructor) ?_ | (with_reducible first | refine brT (by assumption) ?_ | refine brF (by assumption) ?_ | refine brDT (by omega) ?_ | refine brDF (by omega) ?_ | refine brET (by omega) ?_ | refine brEF (by omega) ?_ | refine brNET (by omega) ?_ | refine brNEF (by omega) ?_ | refine brNot ?_)); conv => whnf)
      refine ⟨.inl rfl, ?_⟩
      conv => whnf
      exact ⟨rfl, rfl⟩
end Go.Proofs.YtjpaapkdbohgeaaDoor
namespace Go.Proofs.YtjpaapkdbohgeaaDoor
open Go.Abs
def capN (n : Int) : Int := if 97 ≤ n ∧ n ≤ 122 then n - 32 else n
def signL : List (Int × List UInt8) := [(77, [110, 110]), (76, [110, 110]), (72, [110]), (86, [110]), (67, [110, 110, 110, 110, 110, 110]), (83, [110, 110, 110, 110]), (81, [110, 110, 110, 110]), (84, [110, 110]), (65, [117, 117, 110, 103, 102, 110, 110]), (90, [])]
def signI (c : Int) : List (Int × List UInt8) → Option (Int × List UInt8)
  | [] => none
  | x :: l => if x.1 = capN c then some x else signI c l
def ofN (c : Int) : Option (Int × List UInt8) := signI c signL
theorem ofN_mem {c : Int} {x : Int × List UInt8} (h : ofN c = some x) : x ∈ signL ∧ x.1 = capN c := by
  have key : ∀ l : List (Int × List UInt8), signI c l = some x → x ∈ l ∧ x.1 = capN c := by
    intro l
    induction l with
    | nil => intro h; cases h
    | cons y l ih =>
      intro h
      unfold signI at h
      split at h
      · rename_i hy; cases h; exact ⟨.head _, hy⟩
      · exact ⟨.tail _ (ih h).1, (ih h).2⟩
  exact key _ h
theorem one_dig {d : UInt8} (h : kindN d.toNat = 0) : txtV [] [d] none none = .tup [.int .i64 (((d.toNat : Int) - 48) * 65536), .int .i64 0] := by
  have hc := kindN_cases d.toNat
  obtain ⟨e1, e2⟩ := txtN_val (A := [d]) (B := none) (fun b hb => by rw [List.mem_singleton.1 hb]; exact h) (by simp [digL])
  unfold txtV txtP
  rw [e1, e2]
  have hv : valN ([d] ++ (none : Option (List UInt8)).getD []) = ((d.toNat : Int) - 48).toNat := by simp [valN]
  rw [hv]
  obtain ⟨n, hn⟩ : ∃ n : Nat, (d.toNat : Int) - 48 = n := ⟨((d.toNat : Int) - 48).toNat, by omega⟩
  rw [hn, Int.toNat_natCast]
  have hr : refV (([] : List UInt8) == [45]) n ((if exDown none = true then 0 - exPow 1000 none else exPow 1000 none) - ((none : Option (List UInt8)).getD []).length) = n * 65536 := by
    show refV false n (0 - (0 : Nat)) = _
    have hD : dnM (0 - ((0 : Nat) : Int)) = 1 := rfl
    have hU : upM n (0 - ((0 : Nat) : Int)) = n * 65536 := by unfold upM; simp
    unfold refV
    rw [hD, hU, nearM_spec _ _ _ (by decide)]
    simp only [Bool.false_and, sg, Bool.false_eq_true, if_false]
    omega
  rw [hr]
  exact if_neg (by omega)
theorem parse_num (b : List UInt8) (hl : b.length ≤ 400) : ∃ v e : Int, (e = 0 ∨ (v = 0 ∧ (e = 2 ∨ e = 3))) ∧ (scR true b 0 = (b.length, true) → e ≠ 3) ∧ (∀ d, b = [d] → kindN d.toNat = 0 → v = ((d.toNat : Int) - 48) * 65536 ∧ e = 0) ∧
    ACalls seat 78 [.str b] [] (fun x _ => x = .ret (.tup [.int .i64 v, .int .i64 e])) ∧
    ACalls seat 59 [.str b] [] (fun x _ => x = .ret (.tup [.int .i64 v, .int .i64 e])) := by
  by_cases hd : ∃ d, b = [d] ∧ kindN d.toNat = 0
  · obtain ⟨d, rfl, h2⟩ := hd
    have hT : TxtOK [] [d] none none := ⟨.inl rfl, fun b hb => by rw [List.mem_singleton.1 hb]; exact h2, by simp [digL], by simp, trivial⟩
    have d1 := c_dparse_txt hT (by simp [txt, dotL, expB])
    have d2 := c_rparse_txt hT (by simp [txt, dotL, expB])
    rw [one_dig h2, show txt [] [d] none none = [d] from rfl] at d1 d2
    exact ⟨_, 0, .inl rfl, fun _ => by decide, fun d' h4 _ => by cases h4; exact ⟨rfl, rfl⟩, d1, d2⟩
  · have hno : ∀ (v e : Int) (d : UInt8), b = [d] → kindN d.toNat = 0 → v = ((d.toNat : Int) - 48) * 65536 ∧ e = 0 := fun v e d h4 h5 => absurd ⟨d, h4, h5⟩ hd
    by_cases h : scR true b 0 = (b.length, true)
    · obtain ⟨S, A, B, ex, rfl, ht⟩ := scan_dec h
      obtain ⟨a, e, h1, h2⟩ := outV_ex (refV (S == [45]) (txtN A B) (txtP A B ex))
      have d1 := c_dparse_txt ht hl
      have d2 := c_rparse_txt ht hl
      rw [show txtV S A B ex = _ from h1] at d1 d2
      exact ⟨a, e, by omega, fun _ => by omega, hno a e, d1, d2⟩
    · have h' : ¬ ((scR true b 0).2 = true ∧ (scR true b 0).1 = b.length) := fun g => h (Prod.ext g.2 g.1)
      refine ⟨0, 3, .inr ⟨rfl, .inr rfl⟩, fun g => absurd g h, hno 0 3, c_dparseE b (by omega) (fun g => h' ?_), c_rparseE b hl h'⟩
      rw [scan_eq, addA_zero, List.drop_zero]
      exact g
noncomputable def valT (b : List UInt8) : Int × Int := if h : b.length ≤ 400 then ⟨Classical.choose (parse_num b h), Classical.choose (Classical.choose_spec (parse_num b h))⟩ else (0, 3)
theorem valT_all (b : List UInt8) (hl : b.length ≤ 400) : ((valT b).2 = 0 ∨ ((valT b).1 = 0 ∧ ((valT b).2 = 2 ∨ (valT b).2 = 3))) ∧ (scR true b 0 = (b.length, true) → (valT b).2 ≠ 3) ∧ (∀ d, b = [d] → kindN d.toNat = 0 → (valT b).1 = ((d.toNat : Int) - 48) * 65536 ∧ (valT b).2 = 0) ∧
    ACalls seat 78 [.str b] [] (fun x _ => x = .ret (.tup [.int .i64 (valT b).1, .int .i64 (valT b).2])) ∧
    ACalls seat 59 [.str b] [] (fun x _ => x = .ret (.tup [.int .i64 (valT b).1, .int .i64 (valT b).2])) := by
  unfold valT
  rw [dif_pos hl]
  exact Classical.choose_spec (Classical.choose_spec (parse_num b hl))
noncomputable def numR (s : List UInt8) (p : Nat) (sg : Bool) : Int × Int × Nat :=
  if (scR sg s p).2 = true then ((valT ((s.drop p).take ((scR sg s p).1 - p))).1, (valT ((s.drop p).take ((scR sg s p).1 - p))).2, if (valT ((s.drop p).take ((scR sg s p).1 - p))).2 = 0 then (scR sg s p).1 else p) else (0, 3, (scR sg s p).1)
theorem numR_ok {s : List UInt8} {p q : Nat} {sg : Bool} (h : scR sg s p = (q, true)) : numR s p sg = ((valT ((s.drop p).take (q - p))).1, (valT ((s.drop p).take (q - p))).2, if (valT ((s.drop p).take (q - p))).2 = 0 then q else p) := by
  unfold numR; rw [h]; rfl
theorem numR_none {s : List UInt8} {p q : Nat} {sg : Bool} (h : scR sg s p = (q, false)) : numR s p sg = (0, 3, q) := by
  unfold numR; rw [h]; rfl
theorem numR_spec (s : List UInt8) (p : Nat) (sg : Bool) (hp : p ≤ s.length) (hl : s.length ≤ 400) :
    (p ≤ (numR s p sg).2.2 ∧ (numR s p sg).2.2 ≤ s.length) ∧ ((numR s p sg).2.1 = 0 → p < (numR s p sg).2.2) ∧ ((numR s p sg).2.1 = 2 → (numR s p sg).2.2 = p) ∧ ((numR s p sg).2.1 = 0 ∨ (numR s p sg).2.1 = 2 ∨ (numR s p sg).2.1 = 3) ∧
    ACalls seat 65 [.ptr 0 0, .bool sg] [.var (rdr s p) 96] (fun x h => x = .ret (.tup [.int .i64 (numR s p sg).1, .int .i64 (numR s p sg).2.1]) ∧ h = [.var (rdr s (numR s p sg).2.2) 96]) ∧
    ACalls seat 47 [.str s, .int .i64 p, .bool sg] [] (fun x _ => x = .ret (gotV (numR s p sg).1 (numR s p sg).2.1 (numR s p sg).2.2)) := by
  have hb := scR_bd sg s p hp
  obtain ⟨⟨q, ok⟩, hq⟩ : ∃ r, scR sg s p = r := ⟨_, rfl⟩
  cases ok with
  | false =>
    have h2 : (scR sg s p).2 = false := by rw [hq]
    have c1 := c_numberE s p sg hp (by omega) h2
    have c2 := c_rnumberE s p sg hp (by omega) h2
    rw [numR_none hq]
    rw [hq] at hb c1 c2
    exact ⟨hb, by simp, by simp, by simp, c1, c2⟩
  | true =>
    have hpos : p < q := by
      rw [scR_S] at hq
      have h1 := addA_full hq
      have h3 := scS_pos h1.2
      omega
    rw [numR_ok hq]
    rw [hq] at hb
    simp only at hb
    obtain ⟨he, -, -, d1, d2⟩ := valT_all ((s.drop p).take (q - p)) (by rw [List.length_take, List.length_drop]; omega)
    generalize (valT ((s.drop p).take (q - p))).1 = v at *
    generalize (valT ((s.drop p).take (q - p))).2 = e at *
    have c1 := c_numberV s p q sg v e hp (by omega) hq d1
    have c2 := c_rnumberV s p q sg v e hp (by omega) hq (by omega) d2
    refine ⟨?_, ?_, ?_, by dsimp only; omega, c1, c2⟩
    · dsimp only; split <;> omega
    · dsimp only; intro h; rw [if_pos h]; exact hpos
    · dsimp only; intro h; rw [if_neg (by omega)]
theorem numR_dig {s : List UInt8} {p : Nat} {d : UInt8} (hd : s[p]? = some d) (hk : kindN d.toNat = 0) (hs : scR true s p = (p + 1, true)) : numR s p true = (((d.toNat : Int) - 48) * 65536, 0, p + 1) := by
  have htx : (s.drop p).take (p + 1 - p) = [d] := by rw [drop_cons' hd, Nat.add_sub_cancel_left]; rfl
  rw [numR_ok hs, htx]
  obtain ⟨h1, h2⟩ := (valT_all [d] (by simp)).2.2.1 d rfl hk
  rw [h1, h2]; rfl
noncomputable def argR (s : List UInt8) (k : UInt8) (p : Nat) : Int × Int × Nat := if k = 103 ∨ k = 102 then flR s p else numR s p (k == 110)
noncomputable def grpR (s : List UInt8) : List UInt8 → Nat → Nat → List Int → List Int × Int × Nat
  | [], _, p, acc => (acc, 0, p)
  | k :: ks, i, p, acc =>
    let p1 := if 0 < i then p + gapN (s.drop p) else p
    if k = 103 ∧ p1 = p then ([], 3, p) else if (argR s k p1).2.1 ≠ 0 then ([], (argR s k p1).2.1, (argR s k p1).2.2) else grpR s ks (i + 1) (argR s k p1).2.2 (acc ++ [(argR s k p1).1])
def begB (n : Int) (sg : Bool) : Bool := (decide (48 ≤ n) && decide (n ≤ 57)) || n == 46 || (sg && (n == 43 || n == 45))
def begR (s : List UInt8) (p : Nat) (sg : Bool) : Bool := match s[p]? with
  | some b => begB b.toNat sg
  | none => false
theorem begR_some {s : List UInt8} {p : Nat} {b : UInt8} (h : s[p]? = some b) (sg : Bool) : begR s p sg = begB b.toNat sg := by unfold begR; rw [h]
theorem begR_none {s : List UInt8} {p : Nat} (h : s.length ≤ p) (sg : Bool) : begR s p sg = false := by unfold begR; rw [List.getElem?_eq_none h]
def moreR (s : List UInt8) (sg : Bool) (p : Nat) : Bool × Nat :=
  if isC (s.drop (p + blk (s.drop p))) = true then (true, p + blk (s.drop p) + 1 + blk (s.drop (p + blk (s.drop p) + 1))) else (begR s (p + blk (s.drop p)) sg, p + blk (s.drop p))
def nextC (c : UInt8) : UInt8 := if c = 77 then 76 else if c = 109 then 108 else c
noncomputable def runR (s : List UInt8) (args : List UInt8) : Nat → UInt8 → Nat → List (UInt8 × List Int) × Int × Nat
  | 0, _, p => ([], 0, p)
  | n + 1, c, p =>
    let g := grpR s args 0 p []
    if g.2.1 ≠ 0 then ([], g.2.1, g.2.2)
    else
      let m := moreR s (args.head? == some 110) g.2.2
      if m.1 = true then ((c, g.1) :: (runR s args n (nextC c) m.2).1, (runR s args n (nextC c) m.2).2.1, (runR s args n (nextC c) m.2).2.2) else ([(c, g.1)], 0, m.2)
noncomputable def walkR (s : List UInt8) : Nat → Bool → Nat → List (UInt8 × List Int) × Int × Nat
  | 0, _, p => ([], 0, p)
  | n + 1, first, p => match s[p]? with
    | none => ([], 0, p)
    | some c => match ofN c.toNat with
      | none => ([], 3, p)
      | some x =>
        if first = true ∧ x.1 ≠ 77 then ([], 3, p)
        else
          let p1 := p + 1 + blk (s.drop (p + 1))
          if x.2 = [] then ((c, []) :: (walkR s n false p1).1, (walkR s n false p1).2)
          else
            let r := runR s x.2 (s.length + 1) c p1
            if r.2.1 ≠ 0 then (r.1, r.2.1, r.2.2) else (r.1 ++ (walkR s n false r.2.2).1, (walkR s n false r.2.2).2)
noncomputable def pathR (s : List UInt8) : List (UInt8 × List Int) × Int × Nat := walkR s (s.length + 1) true (blk s)
end Go.Proofs.YtjpaapkdbohgeaaDoor
namespace Go.Proofs.YtjpaapkdbohgeaaDoor
open Go.Abs
theorem signI_some {c : Int} {x : Int × List UInt8} : ∀ {l : List (Int × List UInt8)}, signI c l = some x → ∃ i, l[i]? = some x ∧ x.1 = capN c ∧ ∀ (j : Nat) (y : Int × List UInt8), j < i → l[j]? = some y → y.1 ≠ capN c
  | y :: l, h => by
    unfold signI at h
    split at h
    · rename_i hy; cases h; exact ⟨0, rfl, hy, fun j y hj => absurd hj (by omega)⟩
    · rename_i hy
      obtain ⟨i, h1, h2, h3⟩ := signI_some h
      refine ⟨i + 1, h1, h2, fun j z hj hz => ?_⟩
      cases j with
      | zero => cases hz; exact hy
      | succ j => exact h3 j z (by omega) hz
theorem signI_none {c : Int} : ∀ {l : List (Int × List UInt8)}, signI c l = none → ∀ (j : Nat) (y : Int × List UInt8), l[j]? = some y → y.1 ≠ capN c
  | [], _, j, y, h => by cases h
  | x :: l, h, j, y, hj => by
    unfold signI at h
    split at h
    · cases h
    · rename_i hy
      cases j with
      | zero => cases hj; exact hy
      | succ j => exact signI_none h j y hj
def signC : List AV := [.int .u8 77, .str [110, 110], .int .u8 76, .str [110, 110], .int .u8 72, .str [110], .int .u8 86, .str [110], .int .u8 67, .str [110, 110, 110, 110, 110, 110], .int .u8 83, .str [110, 110, 110, 110], .int .u8 81, .str [110, 110, 110, 110], .int .u8 84, .str [110, 110], .int .u8 65, .str [117, 117, 110, 103, 102, 110, 110], .int .u8 90, .str []]
theorem sign_ld : ∀ {i : Nat} {x : Int × List UInt8}, signL[i]? = some x → sub signC (i * 2) 2 = some [.int .u8 x.1, .str x.2]
  | 0, _, h => by cases h; rfl
  | 1, _, h => by cases h; rfl
  | 2, _, h => by cases h; rfl
  | 3, _, h => by cases h; rfl
  | 4, _, h => by cases h; rfl
  | 5, _, h => by cases h; rfl
  | 6, _, h => by cases h; rfl
  | 7, _, h => by cases h; rfl
  | 8, _, h => by cases h; rfl
  | 9, _, h => by cases h; rfl
  | i + 10, _, h => by cases h
theorem sign_ld2 : ∀ {i : Nat} {x : Int × List UInt8}, signL[i]? = some x → partK true (dropL signC (i * 2)) 0 2 = some (.agg [.int .u8 x.1, .str x.2])
  | 0, _, h => by cases h; rfl
  | 1, _, h => by cases h; rfl
  | 2, _, h => by cases h; rfl
  | 3, _, h => by cases h; rfl
  | 4, _, h => by cases h; rfl
  | 5, _, h => by cases h; rfl
  | 6, _, h => by cases h; rfl
  | 7, _, h => by cases h; rfl
  | 8, _, h => by cases h; rfl
  | 9, _, h => by cases h; rfl
  | i + 10, _, h => by cases h
theorem signL_lt {i : Nat} {x : Int × List UInt8} (h : signL[i]? = some x) : i < 10 := (List.getElem?_eq_some_iff.1 h).1
theorem c_capital (c : Int) (hc : 0 ≤ c ∧ c < 256) : ACalls seat 32 [.int .u8 c] [] (fun x _ => x = .ret (.int .u8 (capN c))) := by
  refine ACalls.body seat_ok Tryd.func32 rfl rfl ?_
  unfold capN
  by_cases h1 : 97 ≤ c
  · by_cases h2 : c ≤ 122
    · rw [if_pos ⟨h1, h2⟩, show c - 32 = c - 97 + 65 by omega]
      conv => whnf
      repeat' (first | exact rfl | (refine WrapH.is _ (wrap_u8 (by omega) (by omega)) ?_; conv => whnf) | ((first | refine zq1 (by omega) ?_ | refine zq2 (by omega) ?_ | refine NumH.rem (by omega) ?_ | refine zq4 (by omega) ?_ | refine zq5 (by omega) ?_ | refine zq6 ?_ | refine Req.mk (by omega) ?_ | refine Req.mk (by dsimp only; omega) ?_ | refine Req.mk (show pendP _ _ by repeat' constructor) ?_ | (with_reducible first | refine brT (by assumption) ?_ | refine brF (by assumption) ?_ | refine brDT (by omega) ?_ | refine brDF (by omega) ?_ | refine brET (by omega) ?_ | refine brEF (by omega) ?_ | refine brNET (by omega) ?_ | refine brNEF (by omega) ?_ | refine brNot ?_)); conv => whnf))
    · rw [if_neg (fun h => h2 h.2)]
      conv => whnf
      repeat' (first | exact rfl | ((first | refine zq1 (by omega) ?_ | refine zq2 (by omega) ?_ | refine NumH.rem (by omega) ?_ | refine zq4 (by omega) ?_ | refine zq5 (by omega) ?_ | refine zq6 ?_ | refine Req.mk (by omega) ?_ | refine Req.mk (by dsimp only; omega) ?_ | refine Req.mk (show pendP _ _ by repeat' constructor) ?_ | (with_reducible first | refine brT (by assumption) ?_ | refine brF (by assumption) ?_ | refine brDT (by omega) ?_ | refine brDF (by omega) ?_ | refine brET (by omega) ?_ | refine brEF (by omega) ?_ | refine brNET (by omega) ?_ | refine brNEF (by omega) ?_ | refine brNot ?_)); conv => whnf))
  · rw [if_neg (fun h => h1 h.1)]
    conv => whnf
    repeat' (first | exact rfl | ((first | refine zq1 (by omega) ?_ | refine zq2 (by omega) ?_ | refine NumH.rem (by omega) ?_ | refine zq4 (by omega) ?_ | refine zq5 (by omega) ?_ | refine zq6 ?_ | refine Req.mk (by omega) ?_ | refine Req.mk (by dsimp only; omega) ?_ | refine Req.mk (show pendP _ _ by repeat' constructor) ?_ | (with_reducible first | refine brT (by assumption) ?_ | refine brF (by assumption) ?_ | refine brDT (by omega) ?_ | refine brDF (by omega) ?_ | refine brET (by omega) ?_ | refine brEF (by omega) ?_ | refine brNET (by omega) ?_ | refine brNEF (by omega) ?_ | refine brNot ?_)); conv => whnf))
theorem c_of1 (a c : Int) (r : List UInt8) (hc : 0 ≤ c ∧ c < 256) : ACalls seat 51 [.agg [.int .u8 a, .str r], .ptr 0 0] [.var [.int .u8 c] 5] (fun x h => x = .ret (.bool (a == capN c)) ∧ h = [.var [.int .u8 c] 5]) := by
  refine ACalls.take seat_g 1 (Nat.le_refl _) (by simp [Ids]) (by simp [IdsH, IdsC, IdsL, Ids]) ?_
  have cc := c_capital c hc
  refine ACalls.body seat_ok Tryd.func51 rfl rfl ?_
  conv => whnf
  refine DrawH.plan seat_ok (.take 0 (.take 1 (.take 2 (.perform 3 none (.take 4 (.take 5 Plan.done)))))) 0 (by kernel_rfl) ?_
  conv => whnf
  repeat' (first | exact ⟨rfl, rfl⟩ | (refine CallH.lift seat_g cc (by simp [Closed, ClosedL]) (by simp [Closed]) ?_; conv => whnf) | ((first | refine zq1 (by omega) ?_ | refine zq2 (by omega) ?_ | refine NumH.rem (by omega) ?_ | refine zq4 (by omega) ?_ | refine zq5 (by omega) ?_ | refine zq6 ?_ | refine Req.mk (by omega) ?_ | refine Req.mk (by dsimp only; omega) ?_ | refine Req.mk (show pendP _ _ by repeat' constructor) ?_ | (with_reducible first | refine brT (by assumption) ?_ | refine brF (by assumption) ?_ | refine brDT (by omega) ?_ | refine brDF (by omega) ?_ | refine brET (by omega) ?_ | refine brEF (by omega) ?_ | refine brNET (by omega) ?_ | refine brNEF (by omega) ?_ | refine brNot ?_)); conv => whnf))
set_option maxRecDepth 20000 in
theorem c_idx (c : Int) (hc : 0 ≤ c ∧ c < 256) (R : Int) (hR : (∃ i x, signL[i]? = some x ∧ x.1 = capN c ∧ (∀ (j : Nat) (y : Int × List UInt8), j < i → signL[j]? = some y → y.1 ≠ capN c) ∧ R = (i : Nat)) ∨ ((∀ (j : Nat) (y : Int × List UInt8), signL[j]? = some y → y.1 ≠ capN c) ∧ R = -1)) :
    ACalls seat 50 [.vec signC 10 none, .fn 51 [] [.ptr 0 0]] [.var [.int .u8 c] 5] (fun x h => x = .ret (.int .i64 R) ∧ h = [.var [.int .u8 c] 5]) := by
  refine ACalls.body seat_ok Tryd.func50 rfl rfl ?_
  conv => whnf
  refine Sat.cut (fun x t h => ((x = .ret ∧ t = (uu::uu::uu::uu::.int .i64 R::uu::uu::uu::uu::uu::uu::uu::uu::uu::uu::uu::uu::uu::uu::[])) ∨ (x = .exit 0 ∧ R = -1 ∧ t = (uu::.fn 51 [] [.ptr 0 0]::uu::uu::uu::uu::uu::uu::uu::uu::uu::uu::uu::uu::uu::uu::uu::uu::uu::[]))) ∧ h = [.var [.int .u8 c] 5]) ?_ ?_
  · refine Sat.invP seat_ok seat_g (maskOf 19 [0, 1, 7, 8]) 1 (fun μ t h => ∃ (i : Nat) (z : Int), z = i ∧ i ≤ 10 ∧ (∀ (j : Nat) (y : Int × List UInt8), j < i → signL[j]? = some y → y.1 ≠ capN c) ∧ μ = 10 - i ∧ t = (.vec signC 10 none::.fn 51 [] [.ptr 0 0]::uu::uu::uu::uu::uu::.int .i64 10::.int .i64 z::uu::uu::uu::uu::uu::uu::uu::uu::uu::uu::[]) ∧ h = [.var [.int .u8 c] 5])
      ?_ ⟨_, _, WeakL.of_eq rfl, 0, 0, rfl, by omega, fun j y hj => absurd hj (by omega), rfl, rfl, rfl⟩ ?_
    · rintro _ _ _ ⟨i, z, -, -, -, -, rfl, rfl⟩
      exact ⟨rfl, by simp [IdsL, Ids, signC], by simp [IdsH, IdsC, IdsL, Ids]⟩
    rintro _ _ _ ⟨i, z, hz, hi, hb, rfl, rfl, rfl⟩
    by_cases g : i < 10
    · obtain ⟨⟨a, r⟩, hx⟩ : ∃ x, signL[i]? = some x := ⟨_, List.getElem?_eq_getElem g⟩
      have hld := sign_ld hx
      have hzi : z.toNat = i := by omega
      rw [← hzi] at hld
      have gz : z < 10 := by omega
      have c1 := c_of1 a c r hc
      by_cases he : a = capN c
      · have hRz : R = z := by
          rcases hR with ⟨i2, x2, h1, h2, h3, h4⟩ | ⟨h1, -⟩
          · have : i2 = i := by
              apply Classical.byContradiction; intro hne
              rcases Nat.lt_or_gt_of_ne hne with h5 | h5
              · exact hb i2 x2 h5 h1 h2
              · exact h3 i _ h5 hx he
            omega
          · exact absurd he (h1 i _ hx)
        rw [show (a == capN c) = true by simpa using he] at c1
        rw [hRz]
        clear hb hR
        conv => whnf
        repeat' (first | exact ⟨_, keepT_weak (maskOf 19 [4]) _, .inl ⟨rfl, rfl⟩, rfl⟩ | (refine ldI _ hld ?_; conv => whnf) | (refine CallH.mem1 seat_g 0 c1 rfl (by simp [Closed, ClosedL]) (by simp [Closed, ClosedL]) (by simp [Closed, ClosedL]) rfl ?_; conv => whnf) | ((first | refine zq1 (by omega) ?_ | refine zq2 (by omega) ?_ | refine NumH.rem (by omega) ?_ | refine zq4 (by omega) ?_ | refine zq5 (by omega) ?_ | refine zq6 ?_ | refine Req.mk (by omega) ?_ | refine Req.mk (by dsimp only; omega) ?_ | refine Req.mk (show pendP _ _ by repeat' constructor) ?_ | (with_reducible first | refine brT (by assumption) ?_ | refine brF (by assumption) ?_ | refine brDT (by omega) ?_ | refine brDF (by omega) ?_ | refine brET (by omega) ?_ | refine brEF (by omega) ?_ | refine brNET (by omega) ?_ | refine brNEF (by omega) ?_ | refine brNot ?_)); conv => whnf))
      · rw [show (a == capN c) = false by simpa using he] at c1
        have hb2 : ∀ (j : Nat) (y : Int × List UInt8), j < i + 1 → signL[j]? = some y → y.1 ≠ capN c := fun j y hj hy => by
          by_cases h : j = i
          · subst h; rw [hx] at hy; cases hy; exact he
          · exact hb j y (by omega) hy
        clear hb hR
        conv => whnf
        repeat' (first | exact ⟨_, _, show 10 - (i + 1) < 10 - i by omega, WeakL.of_eq rfl, i + 1, z + 1, by omega, by omega, hb2, rfl, rfl, rfl⟩ | (refine ldI _ hld ?_; conv => whnf) | (refine CallH.mem1 seat_g 0 c1 rfl (by simp [Closed, ClosedL]) (by simp [Closed, ClosedL]) (by simp [Closed, ClosedL]) rfl ?_; conv => whnf) | ((first | refine zq1 (by omega) ?_ | refine zq2 (by omega) ?_ | refine NumH.rem (by omega) ?_ | refine zq4 (by omega) ?_ | refine zq5 (by omega) ?_ | refine zq6 ?_ | refine Req.mk (by omega) ?_ | refine Req.mk (by dsimp only; omega) ?_ | refine Req.mk (show pendP _ _ by repeat' constructor) ?_ | (with_reducible first | refine brT (by assumption) ?_ | refine brF (by assumption) ?_ | refine brDT (by omega) ?_ | refine brDF (by omega) ?_ | refine brET (by omega) ?_ | refine brEF (by omega) ?_ | refine brNET (by omega) ?_ | refine brNEF (by omega) ?_ | refine brNot ?_)); conv => whnf))
    · have gz : ¬ (z < 10) := by omega
      have hR1 : R = -1 := by
        rcases hR with ⟨i2, x2, h1, h2, -, -⟩ | ⟨-, h⟩
        · exact absurd h2 (hb i2 x2 (by have := signL_lt h1; omega) h1)
        · exact h
      clear hb hR
      conv => whnf
      repeat' (first | exact ⟨_, keepT_weak (maskOf 19 [1]) _, .inr ⟨rfl, hR1, rfl⟩, rfl⟩ | ((first | refine zq1 (by omega) ?_ | refine zq2 (by omega) ?_ | refine NumH.rem (by omega) ?_ | refine zq4 (by omega) ?_ | refine zq5 (by omega) ?_ | refine zq6 ?_ | refine Req.mk (by omega) ?_ | refine Req.mk (by dsimp only; omega) ?_ | refine Req.mk (show pendP _ _ by repeat' constructor) ?_ | (with_reducible first | refine brT (by assumption) ?_ | refine brF (by assumption) ?_ | refine brDT (by omega) ?_ | refine brDF (by omega) ?_ | refine brET (by omega) ?_ | refine brEF (by omega) ?_ | refine brNET (by omega) ?_ | refine brNEF (by omega) ?_ | refine brNot ?_)); conv => whnf))
  · rintro _ _ _ ⟨⟨rfl, rfl⟩ | ⟨rfl, hR1, rfl⟩, rfl⟩
    · conv => whnf
      exact ⟨rfl, rfl⟩
    · subst hR1
      conv => whnf
      exact ⟨rfl, rfl⟩
def pofV (c : Int) : AV := match ofN c with
  | some x => .tup [.agg [.int .u8 x.1, .str x.2], .bool true]
  | none => .tup [.agg [.int .u8 0, .str []], .bool false]
theorem c_pof (c : Int) (hc : 0 ≤ c ∧ c < 256) : ACalls seat 31 [.int .u8 c] [] (fun x _ => x = .ret (pofV c)) := by
  refine ACalls.body seat_ok Tryd.func31 rfl rfl ?_
  unfold pofV ofN
  cases h : signI c signL with
  | none =>
    have ci := c_idx c hc (-1) (.inr ⟨signI_none h, rfl⟩)
    conv => whnf
    repeat' (first | exact rfl | (refine Req.mk (by decide) ?_; conv => whnf) | (refine CallH.mem1 seat_g 0 ci rfl (by simp [Closed, ClosedL]) (by simp [Closed, ClosedL]) (by simp [Closed, ClosedL]) rfl ?_; conv => whnf) | ((first | refine zq1 (by omega) ?_ | refine zq2 (by omega) ?_ | refine NumH.rem (by omega) ?_ | refine zq4 (by omega) ?_ | refine zq5 (by omega) ?_ | refine zq6 ?_ | refine Req.mk (by omega) ?_ | refine Req.mk (by dsimp only; omega) ?_ | refine Req.mk (show pendP _ _ by repeat' constructor) ?_ | (with_reducible first | refine brT (by assumption) ?_ | refine brF (by assumption) ?_ | refine brDT (by omega) ?_ | refine brDF (by omega) ?_ | refine brET (by omega) ?_ | refine brEF (by omega) ?_ | refine brNET (by omega) ?_ | refine brNEF (by omega) ?_ | refine brNot ?_)); conv => whnf))
  | some x =>
    obtain ⟨i, h1, h2, h3⟩ := signI_some h
    have ci := c_idx c hc i (.inl ⟨i, x, h1, h2, h3, rfl⟩)
    have hi := signL_lt h1
    have hld := sign_ld2 h1
    have hi0 : ¬ ((i : Int) < 0) := by omega
    conv => whnf
    repeat' (first | exact rfl | (refine Req.mk (by decide) ?_; conv => whnf) | (refine CallH.mem1 seat_g 0 ci rfl (by simp [Closed, ClosedL]) (by simp [Closed, ClosedL]) (by simp [Closed, ClosedL]) rfl ?_; conv => whnf) | (refine ldI _ hld ?_; conv => whnf) | ((first | refine zq1 (by omega) ?_ | refine zq2 (by omega) ?_ | refine NumH.rem (by omega) ?_ | refine zq4 (by omega) ?_ | refine zq5 (by omega) ?_ | refine zq6 ?_ | refine Req.mk (by omega) ?_ | refine Req.mk (by dsimp only; omega) ?_ | refine Req.mk (show pendP _ _ by repeat' constructor) ?_ | (with_reducible first | refine brT (by assumption) ?_ | refine brF (by assumption) ?_ | refine brDT (by omega) ?_ | refine brDF (by omega) ?_ | refine brET (by omega) ?_ | refine brEF (by omega) ?_ | refine brNET (by omega) ?_ | refine brNEF (by omega) ?_ | refine brNot ?_)); conv => whnf))
end Go.Proofs.YtjpaapkdbohgeaaDoor
namespace Go.Proofs.YtjpaapkdbohgeaaDoor
open Go.Abs
theorem c_begins (n k : Int) (sg : Bool) (hk : sg = decide (k ≠ 117)) : ACalls seat 57 [.int .u8 n, .int .u8 k] [] (fun x _ => x = .ret (.bool (begB n sg))) := by
  refine ACalls.body seat_ok Tryd.func57 rfl rfl ?_
  by_cases h1 : 48 ≤ n ∧ n ≤ 57
  · have e : begB n sg = true := by simp [begB, h1.1, h1.2]
    have h2 := h1.1
    have h3 := h1.2
    rw [e]
    conv => whnf
    repeat' (first | exact rfl | ((first | refine zq1 (by omega) ?_ | refine zq2 (by omega) ?_ | refine NumH.rem (by omega) ?_ | refine zq4 (by omega) ?_ | refine zq5 (by omega) ?_ | refine zq6 ?_ | refine Req.mk (by omega) ?_ | refine Req.mk (by dsimp only; omega) ?_ | refine Req.mk (show pendP _ _ by repeat' constructor) ?_ | (with_reducible first | refine brT (by assumption) ?_ | refine brF (by assumption) ?_ | refine brDT (by omega) ?_ | refine brDF (by omega) ?_ | refine brET (by omega) ?_ | refine brEF (by omega) ?_ | refine brNET (by omega) ?_ | refine brNEF (by omega) ?_ | refine brNot ?_)); conv => whnf))
  · have e0 : begB n sg = (n == 46 || (sg && (n == 43 || n == 45))) := by
      unfold begB
      by_cases h2 : 48 ≤ n
      · rw [decide_eq_true h2, decide_eq_false (fun h => h1 ⟨h2, h⟩)]; rfl
      · rw [decide_eq_false h2]; rfl
    have htail : ∀ b : Bool, b = begB n sg → AEnd.ret (.bool b) = AEnd.ret (.bool (begB n sg)) := fun b h => by rw [h]
    by_cases h4 : n = 46
    · have e : begB n sg = true := by rw [e0, h4]; rfl
      have h5 : ¬ (n ≥ 48) := by omega
      rw [e]
      conv => whnf
      repeat' (first | exact rfl | ((first | refine zq1 (by omega) ?_ | refine zq2 (by omega) ?_ | refine NumH.rem (by omega) ?_ | refine zq4 (by omega) ?_ | refine zq5 (by omega) ?_ | refine zq6 ?_ | refine Req.mk (by omega) ?_ | refine Req.mk (by dsimp only; omega) ?_ | refine Req.mk (show pendP _ _ by repeat' constructor) ?_ | (with_reducible first | refine brT (by assumption) ?_ | refine brF (by assumption) ?_ | refine brDT (by omega) ?_ | refine brDF (by omega) ?_ | refine brET (by omega) ?_ | refine brEF (by omega) ?_ | refine brNET (by omega) ?_ | refine brNEF (by omega) ?_ | refine brNot ?_)); conv => whnf))
    · have e1 : begB n sg = (sg && (n == 43 || n == 45)) := by rw [e0, show (n == 46) = false by simpa using h4]; rfl
      by_cases h6 : k = 117
      · have e : begB n sg = false := by rw [e1, hk, decide_eq_false (fun h => h h6)]; rfl
        rw [e]
        by_cases h7 : n ≥ 48
        · have h8 : ¬ (n ≤ 57) := fun h => h1 ⟨h7, h⟩
          conv => whnf
          repeat' (first | exact rfl | ((first | refine zq1 (by omega) ?_ | refine zq2 (by omega) ?_ | refine NumH.rem (by omega) ?_ | refine zq4 (by omega) ?_ | refine zq5 (by omega) ?_ | refine zq6 ?_ | refine Req.mk (by omega) ?_ | refine Req.mk (by dsimp only; omega) ?_ | refine Req.mk (show pendP _ _ by repeat' constructor) ?_ | (with_reducible first | refine brT (by assumption) ?_ | refine brF (by assumption) ?_ | refine brDT (by omega) ?_ | refine brDF (by omega) ?_ | refine brET (by omega) ?_ | refine brEF (by omega) ?_ | refine brNET (by omega) ?_ | refine brNEF (by omega) ?_ | refine brNot ?_)); conv => whnf))
        · conv => whnf
          repeat' (first | exact rfl | ((first | refine zq1 (by omega) ?_ | refine zq2 (by omega) ?_ | refine NumH.rem (by omega) ?_ | refine zq4 (by omega) ?_ | refine zq5 (by omega) ?_ | refine zq6 ?_ | refine Req.mk (by omega) ?_ | refine Req.mk (by dsimp only; omega) ?_ | refine Req.mk (show pendP _ _ by repeat' constructor) ?_ | (with_reducible first | refine brT (by assumption) ?_ | refine brF (by assumption) ?_ | refine brDT (by omega) ?_ | refine brDF (by omega) ?_ | refine brET (by omega) ?_ | refine brEF (by omega) ?_ | refine brNET (by omega) ?_ | refine brNEF (by omega) ?_ | refine brNot ?_)); conv => whnf))
      · have e2 : begB n sg = (n == 43 || n == 45) := by rw [e1, hk, decide_eq_true h6]; rfl
        by_cases h9 : n = 43
        · have e : begB n sg = true := by rw [e2, h9]; rfl
          have h7 : ¬ (n ≥ 48) := by omega
          rw [e]
          conv => whnf
          repeat' (first | exact rfl | ((first | refine zq1 (by omega) ?_ | refine zq2 (by omega) ?_ | refine NumH.rem (by omega) ?_ | refine zq4 (by omega) ?_ | refine zq5 (by omega) ?_ | refine zq6 ?_ | refine Req.mk (by omega) ?_ | refine Req.mk (by dsimp only; omega) ?_ | refine Req.mk (show pendP _ _ by repeat' constructor) ?_ | (with_reducible first | refine brT (by assumption) ?_ | refine brF (by assumption) ?_ | refine brDT (by omega) ?_ | refine brDF (by omega) ?_ | refine brET (by omega) ?_ | refine brEF (by omega) ?_ | refine brNET (by omega) ?_ | refine brNEF (by omega) ?_ | refine brNot ?_)); conv => whnf))
        · have e : begB n sg = (n == 45) := by rw [e2, show (n == 43) = false by simpa using h9]; rfl
          rw [e]
          by_cases h7 : n ≥ 48
          · have h8 : ¬ (n ≤ 57) := fun h => h1 ⟨h7, h⟩
            conv => whnf
            repeat' (first | exact rfl | ((first | refine zq1 (by omega) ?_ | refine zq2 (by omega) ?_ | refine NumH.rem (by omega) ?_ | refine zq4 (by omega) ?_ | refine zq5 (by omega) ?_ | refine zq6 ?_ | refine Req.mk (by omega) ?_ | refine Req.mk (by dsimp only; omega) ?_ | refine Req.mk (show pendP _ _ by repeat' constructor) ?_ | (with_reducible first | refine brT (by assumption) ?_ | refine brF (by assumption) ?_ | refine brDT (by omega) ?_ | refine brDF (by omega) ?_ | refine brET (by omega) ?_ | refine brEF (by omega) ?_ | refine brNET (by omega) ?_ | refine brNEF (by omega) ?_ | refine brNot ?_)); conv => whnf))
          · conv => whnf
            repeat' (first | exact rfl | ((first | refine zq1 (by omega) ?_ | refine zq2 (by omega) ?_ | refine NumH.rem (by omega) ?_ | refine zq4 (by omega) ?_ | refine zq5 (by omega) ?_ | refine zq6 ?_ | refine Req.mk (by omega) ?_ | refine Req.mk (by dsimp only; omega) ?_ | refine Req.mk (show pendP _ _ by repeat' constructor) ?_ | (with_reducible first | refine brT (by assumption) ?_ | refine brF (by assumption) ?_ | refine brDT (by omega) ?_ | refine brDF (by omega) ?_ | refine brET (by omega) ?_ | refine brEF (by omega) ?_ | refine brNET (by omega) ?_ | refine brNEF (by omega) ?_ | refine brNot ?_)); conv => whnf))
theorem c_arg (s : List UInt8) (k : UInt8) (p : Nat) (hp : p ≤ s.length) (hl : s.length ≤ 400) (hk : k = 110 ∨ k = 117 ∨ k = 103 ∨ k = 102) : ACalls seat 56 [.ptr 0 0, .int .u8 k.toNat] [.var (rdr s p) 96] (fun x h => x = .ret (.tup [.int .i64 (argR s k p).1, .int .i64 (argR s k p).2.1]) ∧ h = [.var (rdr s (argR s k p).2.2) 96]) := by
  have cf := c_flag s p hp (by omega)
  have n1 := (numR_spec s p true hp hl).2.2.2.2.1
  have n0 := (numR_spec s p false hp hl).2.2.2.2.1
  refine ACalls.body seat_ok Tryd.func56 rfl rfl ?_
  rcases hk with rfl | rfl | rfl | rfl
  · rw [show argR s 110 p = numR s p true from if_neg (by decide)]
    unfold rdr at *
    conv => whnf
    repeat' (first | exact ⟨rfl, rfl⟩ | (refine CallH.mem1 seat_g 0 n1 rfl (by simp [Closed, ClosedL]) (by simp [Closed, ClosedL]) (by simp [Closed, ClosedL]) rfl ?_; conv => whnf) | ((first | refine zq1 (by omega) ?_ | refine zq2 (by omega) ?_ | refine NumH.rem (by omega) ?_ | refine zq4 (by omega) ?_ | refine zq5 (by omega) ?_ | refine zq6 ?_ | refine Req.mk (by omega) ?_ | refine Req.mk (by dsimp only; omega) ?_ | refine Req.mk (show pendP _ _ by repeat' constructor) ?_ | (with_reducible first | refine brT (by assumption) ?_ | refine brF (by assumption) ?_ | refine brDT (by omega) ?_ | refine brDF (by omega) ?_ | refine brET (by omega) ?_ | refine brEF (by omega) ?_ | refine brNET (by omega) ?_ | refine brNEF (by omega) ?_ | refine brNot ?_)); conv => whnf))
  · rw [show argR s 117 p = numR s p false from if_neg (by decide)]
    unfold rdr at *
    conv => whnf
    repeat' (first | exact ⟨rfl, rfl⟩ | (refine CallH.mem1 seat_g 0 n0 rfl (by simp [Closed, ClosedL]) (by simp [Closed, ClosedL]) (by simp [Closed, ClosedL]) rfl ?_; conv => whnf) | ((first | refine zq1 (by omega) ?_ | refine zq2 (by omega) ?_ | refine NumH.rem (by omega) ?_ | refine zq4 (by omega) ?_ | refine zq5 (by omega) ?_ | refine zq6 ?_ | refine Req.mk (by omega) ?_ | refine Req.mk (by dsimp only; omega) ?_ | refine Req.mk (show pendP _ _ by repeat' constructor) ?_ | (with_reducible first | refine brT (by assumption) ?_ | refine brF (by assumption) ?_ | refine brDT (by omega) ?_ | refine brDF (by omega) ?_ | refine brET (by omega) ?_ | refine brEF (by omega) ?_ | refine brNET (by omega) ?_ | refine brNEF (by omega) ?_ | refine brNot ?_)); conv => whnf))
  · rw [show argR s 103 p = flR s p from if_pos (by decide)]
    unfold rdr at *
    conv => whnf
    repeat' (first | exact ⟨rfl, rfl⟩ | (refine CallH.mem1 seat_g 0 cf rfl (by simp [Closed, ClosedL]) (by simp [Closed, ClosedL]) (by simp [Closed, ClosedL]) rfl ?_; conv => whnf) | ((first | refine zq1 (by omega) ?_ | refine zq2 (by omega) ?_ | refine NumH.rem (by omega) ?_ | refine zq4 (by omega) ?_ | refine zq5 (by omega) ?_ | refine zq6 ?_ | refine Req.mk (by omega) ?_ | refine Req.mk (by dsimp only; omega) ?_ | refine Req.mk (show pendP _ _ by repeat' constructor) ?_ | (with_reducible first | refine brT (by assumption) ?_ | refine brF (by assumption) ?_ | refine brDT (by omega) ?_ | refine brDF (by omega) ?_ | refine brET (by omega) ?_ | refine brEF (by omega) ?_ | refine brNET (by omega) ?_ | refine brNEF (by omega) ?_ | refine brNot ?_)); conv => whnf))
  · rw [show argR s 102 p = flR s p from if_pos (by decide)]
    unfold rdr at *
    conv => whnf
    repeat' (first | exact ⟨rfl, rfl⟩ | (refine CallH.mem1 seat_g 0 cf rfl (by simp [Closed, ClosedL]) (by simp [Closed, ClosedL]) (by simp [Closed, ClosedL]) rfl ?_; conv => whnf) | ((first | refine zq1 (by omega) ?_ | refine zq2 (by omega) ?_ | refine NumH.rem (by omega) ?_ | refine zq4 (by omega) ?_ | refine zq5 (by omega) ?_ | refine zq6 ?_ | refine Req.mk (by omega) ?_ | refine Req.mk (by dsimp only; omega) ?_ | refine Req.mk (show pendP _ _ by repeat' constructor) ?_ | (with_reducible first | refine brT (by assumption) ?_ | refine brF (by assumption) ?_ | refine brDT (by omega) ?_ | refine brDF (by omega) ?_ | refine brET (by omega) ?_ | refine brEF (by omega) ?_ | refine brNET (by omega) ?_ | refine brNEF (by omega) ?_ | refine brNot ?_)); conv => whnf))
theorem argR_bd (s : List UInt8) (k : UInt8) (p : Nat) (hp : p ≤ s.length) (hl : s.length ≤ 400) : (p ≤ (argR s k p).2.2 ∧ (argR s k p).2.2 ≤ s.length) ∧ ((argR s k p).2.1 = 0 → p < (argR s k p).2.2) := by
  unfold argR
  split
  · by_cases g : p < s.length
    · rw [flR_some (List.getElem?_eq_getElem g)]
      split
      · exact ⟨⟨by simp only; omega, by simp only; omega⟩, fun _ => by simp only; omega⟩
      · exact ⟨⟨Nat.le_refl _, hp⟩, fun h => by simp only at h; omega⟩
    · rw [flR_none (by omega)]
      exact ⟨⟨Nat.le_refl _, hp⟩, fun h => by simp only at h; omega⟩
  · have h := numR_spec s p (k == 110) hp hl
    exact ⟨h.1, h.2.1⟩
set_option maxRecDepth 20000 in
theorem c_more (s : List UInt8) (k : UInt8) (r : List UInt8) (p : Nat) (hp : p ≤ s.length) (hl : s.length ≤ 900000) (hr : r.length ≤ 100) (hk : k = 110 ∨ k = 117) : ACalls seat 45 [.ptr 0 0, .str (k :: r)] [.var (rdr s p) 96] (fun x h => x = .ret (.bool (moreR s (k == 110) p).1) ∧ h = [.var (rdr s (moreR s (k == 110) p).2) 96]) := by
  have c1 := c_blanks s p hp hl
  have hin := blk_in s p hp
  unfold moreR
  obtain ⟨q, hq⟩ : ∃ q, q = p + blk (s.drop p) := ⟨_, rfl⟩
  rw [← hq] at c1 hin ⊢
  have hlk : (0 : Int) < (k :: r).length := by simp only [List.length_cons]; omega
  have hgk : ((k :: r).length : Int) > 0 := hlk
  have hk0 : (k :: r)[(0 : Int).toNat]? = some k := rfl
  refine ACalls.body seat_ok Tryd.func45 rfl rfl ?_
  by_cases g : q < s.length
  · obtain ⟨b, hb⟩ : ∃ b, s[q]? = some b := ⟨_, List.getElem?_eq_getElem g⟩
    have cp := c_peekS s q b hb hl
    rw [isC_some hb]
    by_cases h : (b.toNat : Int) = 44
    · rw [if_pos (by simpa using h)]
      have cs := c_skip s q (by omega) hl
      rw [Nat.min_eq_left (by omega)] at cs
      have c2 := c_blanks s (q + 1) (by omega) hl
      clear hq
      unfold rdr at *
      conv => whnf
      repeat' (first | exact ⟨rfl, rfl⟩ | (refine CallH.mem1 seat_g 0 c1 rfl (by simp [Closed, ClosedL]) (by simp [Closed, ClosedL]) (by simp [Closed, ClosedL]) rfl ?_; conv => whnf) | (refine CallH.mem1 seat_g 0 cp rfl (by simp [Closed, ClosedL]) (by simp [Closed, ClosedL]) (by simp [Closed, ClosedL]) rfl ?_; conv => whnf) | (refine CallH.mem1 seat_g 0 cs rfl (by simp [Closed, ClosedL]) (by simp [Closed, ClosedL]) (by simp [Closed, ClosedL]) rfl ?_; conv => whnf) | (refine CallH.mem1 seat_g 0 c2 rfl (by simp [Closed, ClosedL]) (by simp [Closed, ClosedL]) (by simp [Closed, ClosedL]) rfl ?_; conv => whnf) | ((first | refine zq1 (by omega) ?_ | refine zq2 (by omega) ?_ | refine NumH.rem (by omega) ?_ | refine zq4 (by omega) ?_ | refine zq5 (by omega) ?_ | refine zq6 ?_ | refine Req.mk (by omega) ?_ | refine Req.mk (by dsimp only; omega) ?_ | refine Req.mk (show pendP _ _ by repeat' constructor) ?_ | (with_reducible first | refine brT (by assumption) ?_ | refine brF (by assumption) ?_ | refine brDT (by omega) ?_ | refine brDF (by omega) ?_ | refine brET (by omega) ?_ | refine brEF (by omega) ?_ | refine brNET (by omega) ?_ | refine brNEF (by omega) ?_ | refine brNot ?_)); conv => whnf))
    · rw [if_neg (by simpa using h), begR_some hb]
      have cb := c_begins b.toNat k.toNat (k == 110) (by rcases hk with rfl | rfl <;> rfl)
      clear hq
      unfold rdr at *
      conv => whnf
      repeat' (first | exact ⟨rfl, rfl⟩ | (refine CallH.mem1 seat_g 0 c1 rfl (by simp [Closed, ClosedL]) (by simp [Closed, ClosedL]) (by simp [Closed, ClosedL]) rfl ?_; conv => whnf) | (refine CallH.mem1 seat_g 0 cp rfl (by simp [Closed, ClosedL]) (by simp [Closed, ClosedL]) (by simp [Closed, ClosedL]) rfl ?_; conv => whnf) | (refine ldI _ hk0 ?_; conv => whnf) | (refine CallH.lift seat_g cb (by simp [Closed, ClosedL]) (by simp [Closed]) ?_; conv => whnf) | ((first | refine zq1 (by omega) ?_ | refine zq2 (by omega) ?_ | refine NumH.rem (by omega) ?_ | refine zq4 (by omega) ?_ | refine zq5 (by omega) ?_ | refine zq6 ?_ | refine Req.mk (by omega) ?_ | refine Req.mk (by dsimp only; omega) ?_ | refine Req.mk (show pendP _ _ by repeat' constructor) ?_ | (with_reducible first | refine brT (by assumption) ?_ | refine brF (by assumption) ?_ | refine brDT (by omega) ?_ | refine brDF (by omega) ?_ | refine brET (by omega) ?_ | refine brEF (by omega) ?_ | refine brNET (by omega) ?_ | refine brNEF (by omega) ?_ | refine brNot ?_)); conv => whnf))
  · have hqe : q = s.length := by omega
    have cp := c_peekN s hl
    rw [← hqe] at cp
    rw [List.drop_eq_nil_of_le (by omega), if_neg (by decide), begR_none (by omega)]
    clear hq
    unfold rdr at *
    conv => whnf
    repeat' (first | exact ⟨rfl, rfl⟩ | (refine CallH.mem1 seat_g 0 c1 rfl (by simp [Closed, ClosedL]) (by simp [Closed, ClosedL]) (by simp [Closed, ClosedL]) rfl ?_; conv => whnf) | (refine CallH.mem1 seat_g 0 cp rfl (by simp [Closed, ClosedL]) (by simp [Closed, ClosedL]) (by simp [Closed, ClosedL]) rfl ?_; conv => whnf) | ((first | refine zq1 (by omega) ?_ | refine zq2 (by omega) ?_ | refine NumH.rem (by omega) ?_ | refine zq4 (by omega) ?_ | refine zq5 (by omega) ?_ | refine zq6 ?_ | refine Req.mk (by omega) ?_ | refine Req.mk (by dsimp only; omega) ?_ | refine Req.mk (show pendP _ _ by repeat' constructor) ?_ | (with_reducible first | refine brT (by assumption) ?_ | refine brF (by assumption) ?_ | refine brDT (by omega) ?_ | refine brDF (by omega) ?_ | refine brET (by omega) ?_ | refine brEF (by omega) ?_ | refine brNET (by omega) ?_ | refine brNEF (by omega) ?_ | refine brNot ?_)); conv => whnf))
end Go.Proofs.YtjpaapkdbohgeaaDoor
namespace Go.Proofs.YtjpaapkdbohgeaaDoor
open Go.Abs
def kindsOK (args : List UInt8) : Prop := ∀ k ∈ args, k = 110 ∨ k = 117 ∨ k = 103 ∨ k = 102
theorem grpR_cons (s : List UInt8) (k : UInt8) (ks : List UInt8) (i p : Nat) (acc : List Int) (p1 : Nat) (h1 : p1 = if 0 < i then p + gapN (s.drop p) else p) :
    grpR s (k :: ks) i p acc = if k = 103 ∧ p1 = p then ([], 3, p) else if (argR s k p1).2.1 ≠ 0 then ([], (argR s k p1).2.1, (argR s k p1).2.2) else grpR s ks (i + 1) (argR s k p1).2.2 (acc ++ [(argR s k p1).1]) := by
  subst h1; rfl
theorem grpR_bd (s : List UInt8) (hl : s.length ≤ 400) : ∀ (ks : List UInt8) (i p : Nat) (acc : List Int), p ≤ s.length → (p ≤ (grpR s ks i p acc).2.2 ∧ (grpR s ks i p acc).2.2 ≤ s.length) ∧ (ks ≠ [] → (grpR s ks i p acc).2.1 = 0 → p < (grpR s ks i p acc).2.2)
  | [], i, p, acc, hp => ⟨⟨Nat.le_refl _, hp⟩, fun h => absurd rfl h⟩
  | k :: ks, i, p, acc, hp => by
    obtain ⟨p1, h1⟩ : ∃ p1, p1 = if 0 < i then p + gapN (s.drop p) else p := ⟨_, rfl⟩
    have hp1 : p ≤ p1 ∧ p1 ≤ s.length := by
      have := gap_in s p hp
      rw [h1]; split <;> omega
    have ha := argR_bd s k p1 hp1.2 hl
    rw [grpR_cons s k ks i p acc p1 h1]
    split
    · exact ⟨⟨Nat.le_refl _, hp⟩, fun _ h => by simp only at h; omega⟩
    · split
      · rename_i h2; exact ⟨⟨by simp only; omega, ha.1.2⟩, fun _ h => absurd h h2⟩
      · rename_i h2
        have h3 := ha.2 (by omega)
        have ih := grpR_bd s hl ks (i + 1) (argR s k p1).2.2 (acc ++ [(argR s k p1).1]) ha.1.2
        exact ⟨⟨by omega, ih.1.2⟩, fun _ _ => by omega⟩
set_option maxRecDepth 20000 in
set_option maxHeartbeats 2000000 in
theorem c_group (s args : List UInt8) (p : Nat) (hp : p ≤ s.length) (hl : s.length ≤ 400) (hk : kindsOK args) (hal : args.length ≤ 10) :
    ACalls seat 44 [.ptr 0 0, .str args] [.var (rdr s p) 96] (fun x h => x = .ret (.tup [lv (grpR s args 0 p []).1, .int .i64 (grpR s args 0 p []).2.1]) ∧ h = [.var (rdr s (grpR s args 0 p []).2.2) 96]) := by
  refine ACalls.take seat_g 1 (Nat.le_refl _) (by simp [Ids, IdsL, lv_ids]) (by simp [rdr, IdsH, IdsC, IdsL, Ids]) ?_
  have hw : ACalls seat 44 [.ptr 0 0, .str args] [.var (rdr s p) 96] (fun r h' => (∃ v v', r = .ret v ∧ Weak v v' ∧ (AEnd.ret v' = .ret (.tup [lv (grpR s args 0 p []).1, .int .i64 (grpR s args 0 p []).2.1]) ∧ takeH 1 h' = [.var (rdr s (grpR s args 0 p []).2.2) 96])) ∨ (∃ v, r = .pan v ∧ (r = .ret (.tup [lv (grpR s args 0 p []).1, .int .i64 (grpR s args 0 p []).2.1]) ∧ takeH 1 h' = [.var (rdr s (grpR s args 0 p []).2.2) 96]))) := by
    obtain ⟨R, hR⟩ : ∃ R, grpR s args 0 p [] = R := ⟨_, rfl⟩
    rw [hR]
    refine ACalls.body seat_ok Tryd.func44 rfl rfl ?_
    conv => whnf
    refine Sat.nilTok 6 2 1 rfl ?_
    refine Sat.cut (fun x t h => (∃ tok, h = [.var (rdr s R.2.2) 96, tok]) ∧ ((x = .ret ∧ R.1 = [] ∧ t = (uu::uu::uu::uu::.nils::.int .i64 R.2.1::uu::uu::uu::uu::uu::uu::uu::uu::uu::uu::uu::uu::uu::uu::uu::uu::uu::uu::uu::uu::uu::uu::uu::uu::uu::uu::uu::uu::uu::uu::uu::uu::uu::uu::uu::uu::uu::uu::uu::uu::uu::[])) ∨ (x = .exit 0 ∧ R.2.1 = 0 ∧ t = (uu::uu::uu::uu::uu::uu::.vec (ci .i64 R.1) R.1.length (some 1)::uu::uu::uu::uu::uu::uu::uu::uu::uu::uu::uu::uu::uu::uu::uu::uu::uu::uu::uu::uu::uu::uu::uu::uu::uu::uu::uu::uu::uu::uu::uu::uu::uu::uu::uu::uu::uu::uu::uu::uu::[])))) ?_ ?_
    · refine Sat.invP seat_ok seat_g (maskOf 47 [0, 1, 6, 11, 12, 13]) 2 (fun μ t h => ∃ (i p : Nat) (z : Int) (acc : List Int), z = i ∧ i ≤ args.length ∧ p ≤ s.length ∧ acc.length = i ∧ grpR s (args.drop i) i p acc = R ∧ μ = args.length - i ∧
          t = (.ptr 0 0::.str args::uu::uu::uu::uu::.vec (ci .i64 acc) acc.length (some 1)::uu::uu::uu::uu::.str args::.int .i64 args.length::.int .i64 z::uu::uu::uu::uu::uu::uu::uu::uu::uu::uu::uu::uu::uu::uu::uu::uu::uu::uu::uu::uu::uu::uu::uu::uu::uu::uu::uu::uu::uu::uu::uu::uu::uu::[]) ∧ h = [.var (rdr s p) 96, .tok acc.length 2 1])
        ?_ ⟨_, _, WeakL.of_eq rfl, 0, p, 0, [], rfl, by omega, hp, rfl, by rw [List.drop_zero]; exact hR, rfl, rfl, rfl⟩ ?_
      · rintro _ _ _ ⟨i, p, z, acc, -, -, -, -, -, -, rfl, rfl⟩
        exact ⟨rfl, (by simp [IdsL, Ids, IdsH, IdsC, lv_ids, ci_ids]), by simp [rdr, IdsH, IdsC, IdsL, Ids]⟩
      rintro _ _ _ ⟨i, p, z, acc, hz, hi, hp, hal2, hG, rfl, rfl, rfl⟩
      by_cases g : i < args.length
      · obtain ⟨k, hki⟩ : ∃ k, args[z.toNat]? = some k := ⟨_, List.getElem?_eq_getElem (by omega)⟩
        have hki2 : args[i]? = some k := by rw [← hki]; congr 1; omega
        have hkk := hk k (List.mem_of_getElem? hki)
        have gz : z < args.length := by omega
        rw [drop_cons' hki2] at hG
        have hcl : (ci .i64 acc).length = acc.length * 1 := by rw [ci_length]; omega
        have hcp : ∀ v, ci .i64 (acc ++ [v]) = ci .i64 acc ++ [.int .i64 v] := fun v => by simp [ci]
        have hll : ∀ v : Int, (acc ++ [v]).length = acc.length + 1 := fun v => by simp
        have hi0 : i = 0 ∨ 0 < i := by omega
        obtain ⟨p1, h1⟩ : ∃ p1, p1 = if 0 < i then p + gapN (s.drop p) else p := ⟨_, rfl⟩
        rw [grpR_cons s k _ i p acc p1 h1] at hG
        rcases hi0 with h0 | h0
        · have gz0 : ¬ (z > 0) := by omega
          rw [if_neg (by omega)] at h1
          subst h1
          by_cases hg : k = 103
          · rw [if_pos ⟨hg, rfl⟩] at hG
            subst hG
            subst hg
            conv => whnf
            repeat' (first | exact ⟨_, keepT_weak (maskOf 47 [4, 5]) _, ⟨_, rfl⟩, .inl ⟨rfl, rfl, rfl⟩⟩ | (refine ldI _ hki ?_; conv => whnf) | ((first | refine zq1 (by omega) ?_ | refine zq2 (by omega) ?_ | refine NumH.rem (by omega) ?_ | refine zq4 (by omega) ?_ | refine zq5 (by omega) ?_ | refine zq6 ?_ | refine Req.mk (by omega) ?_ | refine Req.mk (by dsimp only; omega) ?_ | refine Req.mk (show pendP _ _ by repeat' constructor) ?_ | (with_reducible first | refine brT (by assumption) ?_ | refine brF (by assumption) ?_ | refine brDT (by omega) ?_ | refine brDF (by omega) ?_ | refine brET (by omega) ?_ | refine brEF (by omega) ?_ | refine brNET (by omega) ?_ | refine brNEF (by omega) ?_ | refine brNot ?_)); conv => whnf))
          · rw [if_neg (fun h => hg h.1)] at hG
            have hgn : ((k.toNat : Nat) : Int) ≠ 103 := fun h => hg (UInt8.toNat_inj.1 (by show k.toNat = 103; omega))
            have ca := c_arg s k p1 hp hl hkk
            have hb := argR_bd s k p1 hp hl
            obtain ⟨⟨v, e, q⟩, hA⟩ : ∃ r, argR s k p1 = r := ⟨_, rfl⟩
            rw [hA] at ca hb hG
            simp only at ca hb hG
            by_cases he : e = 0
            · subst he
              rw [if_neg (by simp)] at hG
              unfold rdr at *
              conv => whnf
              repeat' (first | exact ⟨_, _, show args.length - (i + 1) < args.length - i by omega, WeakL.of_eq (by rw [hcp, hll]; rfl), i + 1, q, z + 1, acc ++ [v], by omega, by omega, hb.1.2, by rw [hll]; omega, hG, rfl, rfl, by rw [hll]; rfl⟩ | (refine ldI _ hki ?_; conv => whnf) | (refine CallH.mem1 seat_g 0 ca rfl (by simp [Closed, ClosedL]) (by simp [Closed, ClosedL]) (by simp [Closed, ClosedL]) rfl ?_; conv => whnf) | (refine Req.mk ⟨rfl, rfl, rfl, hcl, rfl, by simp [okCell], by dsimp only; omega, by omega, by decide⟩ ?_; conv => whnf) | ((first | refine zq1 (by omega) ?_ | refine zq2 (by omega) ?_ | refine NumH.rem (by omega) ?_ | refine zq4 (by omega) ?_ | refine zq5 (by omega) ?_ | refine zq6 ?_ | refine Req.mk (by omega) ?_ | refine Req.mk (by dsimp only; omega) ?_ | refine Req.mk (show pendP _ _ by repeat' constructor) ?_ | (with_reducible first | refine brT (by assumption) ?_ | refine brF (by assumption) ?_ | refine brDT (by omega) ?_ | refine brDF (by omega) ?_ | refine brET (by omega) ?_ | refine brEF (by omega) ?_ | refine brNET (by omega) ?_ | refine brNEF (by omega) ?_ | refine brNot ?_)); conv => whnf))
            · rw [if_pos he] at hG
              subst hG
              unfold rdr at *
              conv => whnf
              repeat' (first | exact ⟨_, keepT_weak (maskOf 47 [4, 5]) _, ⟨_, rfl⟩, .inl ⟨rfl, rfl, rfl⟩⟩ | (refine ldI _ hki ?_; conv => whnf) | (refine CallH.mem1 seat_g 0 ca rfl (by simp [Closed, ClosedL]) (by simp [Closed, ClosedL]) (by simp [Closed, ClosedL]) rfl ?_; conv => whnf) | ((first | refine zq1 (by omega) ?_ | refine zq2 (by omega) ?_ | refine NumH.rem (by omega) ?_ | refine zq4 (by omega) ?_ | refine zq5 (by omega) ?_ | refine zq6 ?_ | refine Req.mk (by omega) ?_ | refine Req.mk (by dsimp only; omega) ?_ | refine Req.mk (show pendP _ _ by repeat' constructor) ?_ | (with_reducible first | refine brT (by assumption) ?_ | refine brF (by assumption) ?_ | refine brDT (by omega) ?_ | refine brDF (by omega) ?_ | refine brET (by omega) ?_ | refine brEF (by omega) ?_ | refine brNET (by omega) ?_ | refine brNEF (by omega) ?_ | refine brNot ?_)); conv => whnf))
        · have gz0 : z > 0 := by omega
          rw [if_pos h0] at h1
          have cg := c_gap s p hp (by omega)
          have hin := gap_in s p hp
          rw [← h1] at cg hin
          by_cases hm : 0 < gapN (s.drop p)
          · rw [decide_eq_true hm] at cg
            rw [if_neg (fun h => by omega)] at hG
            have ca := c_arg s k p1 hin hl hkk
            have hb := argR_bd s k p1 hin hl
            obtain ⟨⟨v, e, q⟩, hA⟩ : ∃ r, argR s k p1 = r := ⟨_, rfl⟩
            rw [hA] at ca hb hG
            simp only at ca hb hG
            by_cases hg : k = 103
            · subst hg
              by_cases he : e = 0
              · subst he
                rw [if_neg (by simp)] at hG
                unfold rdr at *
                conv => whnf
                repeat' (first | exact ⟨_, _, show args.length - (i + 1) < args.length - i by omega, WeakL.of_eq (by rw [hcp, hll]; rfl), i + 1, q, z + 1, acc ++ [v], by omega, by omega, hb.1.2, by rw [hll]; omega, hG, rfl, rfl, by rw [hll]; rfl⟩ | (refine ldI _ hki ?_; conv => whnf) | (refine CallH.mem1 seat_g 0 cg rfl (by simp [Closed, ClosedL]) (by simp [Closed, ClosedL]) (by simp [Closed, ClosedL]) rfl ?_; conv => whnf) | (refine CallH.mem1 seat_g 0 ca rfl (by simp [Closed, ClosedL]) (by simp [Closed, ClosedL]) (by simp [Closed, ClosedL]) rfl ?_; conv => whnf) | (refine Req.mk ⟨rfl, rfl, rfl, hcl, rfl, by simp [okCell], by dsimp only; omega, by omega, by decide⟩ ?_; conv => whnf) | ((first | refine zq1 (by omega) ?_ | refine zq2 (by omega) ?_ | refine NumH.rem (by omega) ?_ | refine zq4 (by omega) ?_ | refine zq5 (by omega) ?_ | refine zq6 ?_ | refine Req.mk (by omega) ?_ | refine Req.mk (by dsimp only; omega) ?_ | refine Req.mk (show pendP _ _ by repeat' constructor) ?_ | (with_reducible first | refine brT (by assumption) ?_ | refine brF (by assumption) ?_ | refine brDT (by omega) ?_ | refine brDF (by omega) ?_ | refine brET (by omega) ?_ | refine brEF (by omega) ?_ | refine brNET (by omega) ?_ | refine brNEF (by omega) ?_ | refine brNot ?_)); conv => whnf))
              · rw [if_pos he] at hG
                subst hG
                unfold rdr at *
                conv => whnf
                repeat' (first | exact ⟨_, keepT_weak (maskOf 47 [4, 5]) _, ⟨_, rfl⟩, .inl ⟨rfl, rfl, rfl⟩⟩ | (refine ldI _ hki ?_; conv => whnf) | (refine CallH.mem1 seat_g 0 cg rfl (by simp [Closed, ClosedL]) (by simp [Closed, ClosedL]) (by simp [Closed, ClosedL]) rfl ?_; conv => whnf) | (refine CallH.mem1 seat_g 0 ca rfl (by simp [Closed, ClosedL]) (by simp [Closed, ClosedL]) (by simp [Closed, ClosedL]) rfl ?_; conv => whnf) | ((first | refine zq1 (by omega) ?_ | refine zq2 (by omega) ?_ | refine NumH.rem (by omega) ?_ | refine zq4 (by omega) ?_ | refine zq5 (by omega) ?_ | refine zq6 ?_ | refine Req.mk (by omega) ?_ | refine Req.mk (by dsimp only; omega) ?_ | refine Req.mk (show pendP _ _ by repeat' constructor) ?_ | (with_reducible first | refine brT (by assumption) ?_ | refine brF (by assumption) ?_ | refine brDT (by omega) ?_ | refine brDF (by omega) ?_ | refine brET (by omega) ?_ | refine brEF (by omega) ?_ | refine brNET (by omega) ?_ | refine brNEF (by omega) ?_ | refine brNot ?_)); conv => whnf))
            · have hgn : ((k.toNat : Nat) : Int) ≠ 103 := fun h => hg (UInt8.toNat_inj.1 (by show k.toNat = 103; omega))
              by_cases he : e = 0
              · subst he
                rw [if_neg (by simp)] at hG
                unfold rdr at *
                conv => whnf
                repeat' (first | exact ⟨_, _, show args.length - (i + 1) < args.length - i by omega, WeakL.of_eq (by rw [hcp, hll]; rfl), i + 1, q, z + 1, acc ++ [v], by omega, by omega, hb.1.2, by rw [hll]; omega, hG, rfl, rfl, by rw [hll]; rfl⟩ | (refine ldI _ hki ?_; conv => whnf) | (refine CallH.mem1 seat_g 0 cg rfl (by simp [Closed, ClosedL]) (by simp [Closed, ClosedL]) (by simp [Closed, ClosedL]) rfl ?_; conv => whnf) | (refine CallH.mem1 seat_g 0 ca rfl (by simp [Closed, ClosedL]) (by simp [Closed, ClosedL]) (by simp [Closed, ClosedL]) rfl ?_; conv => whnf) | (refine Req.mk ⟨rfl, rfl, rfl, hcl, rfl, by simp [okCell], by dsimp only; omega, by omega, by decide⟩ ?_; conv => whnf) | ((first | refine zq1 (by omega) ?_ | refine zq2 (by omega) ?_ | refine NumH.rem (by omega) ?_ | refine zq4 (by omega) ?_ | refine zq5 (by omega) ?_ | refine zq6 ?_ | refine Req.mk (by omega) ?_ | refine Req.mk (by dsimp only; omega) ?_ | refine Req.mk (show pendP _ _ by repeat' constructor) ?_ | (with_reducible first | refine brT (by assumption) ?_ | refine brF (by assumption) ?_ | refine brDT (by omega) ?_ | refine brDF (by omega) ?_ | refine brET (by omega) ?_ | refine brEF (by omega) ?_ | refine brNET (by omega) ?_ | refine brNEF (by omega) ?_ | refine brNot ?_)); conv => whnf))
              · rw [if_pos he] at hG
                subst hG
                unfold rdr at *
                conv => whnf
                repeat' (first | exact ⟨_, keepT_weak (maskOf 47 [4, 5]) _, ⟨_, rfl⟩, .inl ⟨rfl, rfl, rfl⟩⟩ | (refine ldI _ hki ?_; conv => whnf) | (refine CallH.mem1 seat_g 0 cg rfl (by simp [Closed, ClosedL]) (by simp [Closed, ClosedL]) (by simp [Closed, ClosedL]) rfl ?_; conv => whnf) | (refine CallH.mem1 seat_g 0 ca rfl (by simp [Closed, ClosedL]) (by simp [Closed, ClosedL]) (by simp [Closed, ClosedL]) rfl ?_; conv => whnf) | ((first | refine zq1 (by omega) ?_ | refine zq2 (by omega) ?_ | refine NumH.rem (by omega) ?_ | refine zq4 (by omega) ?_ | refine zq5 (by omega) ?_ | refine zq6 ?_ | refine Req.mk (by omega) ?_ | refine Req.mk (by dsimp only; omega) ?_ | refine Req.mk (show pendP _ _ by repeat' constructor) ?_ | (with_reducible first | refine brT (by assumption) ?_ | refine brF (by assumption) ?_ | refine brDT (by omega) ?_ | refine brDF (by omega) ?_ | refine brET (by omega) ?_ | refine brEF (by omega) ?_ | refine brNET (by omega) ?_ | refine brNEF (by omega) ?_ | refine brNot ?_)); conv => whnf))
          · rw [decide_eq_false hm] at cg
            have hpp : p1 = p := by omega
            subst hpp
            by_cases hg : k = 103
            · rw [if_pos ⟨hg, rfl⟩] at hG
              subst hG
              subst hg
              unfold rdr at *
              conv => whnf
              repeat' (first | exact ⟨_, keepT_weak (maskOf 47 [4, 5]) _, ⟨_, rfl⟩, .inl ⟨rfl, rfl, rfl⟩⟩ | (refine ldI _ hki ?_; conv => whnf) | (refine CallH.mem1 seat_g 0 cg rfl (by simp [Closed, ClosedL]) (by simp [Closed, ClosedL]) (by simp [Closed, ClosedL]) rfl ?_; conv => whnf) | ((first | refine zq1 (by omega) ?_ | refine zq2 (by omega) ?_ | refine NumH.rem (by omega) ?_ | refine zq4 (by omega) ?_ | refine zq5 (by omega) ?_ | refine zq6 ?_ | refine Req.mk (by omega) ?_ | refine Req.mk (by dsimp only; omega) ?_ | refine Req.mk (show pendP _ _ by repeat' constructor) ?_ | (with_reducible first | refine brT (by assumption) ?_ | refine brF (by assumption) ?_ | refine brDT (by omega) ?_ | refine brDF (by omega) ?_ | refine brET (by omega) ?_ | refine brEF (by omega) ?_ | refine brNET (by omega) ?_ | refine brNEF (by omega) ?_ | refine brNot ?_)); conv => whnf))
            · rw [if_neg (fun h => hg h.1)] at hG
              have hgn : ((k.toNat : Nat) : Int) ≠ 103 := fun h => hg (UInt8.toNat_inj.1 (by show k.toNat = 103; omega))
              have ca := c_arg s k p1 hp hl hkk
              have hb := argR_bd s k p1 hp hl
              obtain ⟨⟨v, e, q⟩, hA⟩ : ∃ r, argR s k p1 = r := ⟨_, rfl⟩
              rw [hA] at ca hb hG
              simp only at ca hb hG
              by_cases he : e = 0
              · subst he
                rw [if_neg (by simp)] at hG
                unfold rdr at *
                conv => whnf
                repeat' (first | exact ⟨_, _, show args.length - (i + 1) < args.length - i by omega, WeakL.of_eq (by rw [hcp, hll]; rfl), i + 1, q, z + 1, acc ++ [v], by omega, by omega, hb.1.2, by rw [hll]; omega, hG, rfl, rfl, by rw [hll]; rfl⟩ | (refine ldI _ hki ?_; conv => whnf) | (refine CallH.mem1 seat_g 0 cg rfl (by simp [Closed, ClosedL]) (by simp [Closed, ClosedL]) (by simp [Closed, ClosedL]) rfl ?_; conv => whnf) | (refine CallH.mem1 seat_g 0 ca rfl (by simp [Closed, ClosedL]) (by simp [Closed, ClosedL]) (by simp [Closed, ClosedL]) rfl ?_; conv => whnf) | (refine Req.mk ⟨rfl, rfl, rfl, hcl, rfl, by simp [okCell], by dsimp only; omega, by omega, by decide⟩ ?_; conv => whnf) | ((first | refine zq1 (by omega) ?_ | refine zq2 (by omega) ?_ | refine NumH.rem (by omega) ?_ | refine zq4 (by omega) ?_ | refine zq5 (by omega) ?_ | refine zq6 ?_ | refine Req.mk (by omega) ?_ | refine Req.mk (by dsimp only; omega) ?_ | refine Req.mk (show pendP _ _ by repeat' constructor) ?_ | (with_reducible first | refine brT (by assumption) ?_ | refine brF (by assumption) ?_ | refine brDT (by omega) ?_ | refine brDF (by omega) ?_ | refine brET (by omega) ?_ | refine brEF (by omega) ?_ | refine brNET (by omega) ?_ | refine brNEF (by omega) ?_ | refine brNot ?_)); conv => whnf))
              · rw [if_pos he] at hG
                subst hG
                unfold rdr at *
                conv => whnf
                repeat' (first | exact ⟨_, keepT_weak (maskOf 47 [4, 5]) _, ⟨_, rfl⟩, .inl ⟨rfl, rfl, rfl⟩⟩ | (refine ldI _ hki ?_; conv => whnf) | (refine CallH.mem1 seat_g 0 cg rfl (by simp [Closed, ClosedL]) (by simp [Closed, ClosedL]) (by simp [Closed, ClosedL]) rfl ?_; conv => whnf) | (refine CallH.mem1 seat_g 0 ca rfl (by simp [Closed, ClosedL]) (by simp [Closed, ClosedL]) (by simp [Closed, ClosedL]) rfl ?_; conv => whnf) | ((first | refine zq1 (by omega) ?_ | refine zq2 (by omega) ?_ | refine NumH.rem (by omega) ?_ | refine zq4 (by omega) ?_ | refine zq5 (by omega) ?_ | refine zq6 ?_ | refine Req.mk (by omega) ?_ | refine Req.mk (by dsimp only; omega) ?_ | refine Req.mk (show pendP _ _ by repeat' constructor) ?_ | (with_reducible first | refine brT (by assumption) ?_ | refine brF (by assumption) ?_ | refine brDT (by omega) ?_ | refine brDF (by omega) ?_ | refine brET (by omega) ?_ | refine brEF (by omega) ?_ | refine brNET (by omega) ?_ | refine brNEF (by omega) ?_ | refine brNot ?_)); conv => whnf))
      · obtain rfl : i = args.length := by omega
        rw [List.drop_length] at hG
        have hG : (acc, 0, p) = R := hG
        subst hG
        have gz : ¬ (z < args.length) := by omega
        conv => whnf
        repeat' (first | exact ⟨_, keepT_weak (maskOf 47 [6]) _, ⟨_, rfl⟩, .inr ⟨rfl, rfl, rfl⟩⟩ | ((first | refine zq1 (by omega) ?_ | refine zq2 (by omega) ?_ | refine NumH.rem (by omega) ?_ | refine zq4 (by omega) ?_ | refine zq5 (by omega) ?_ | refine zq6 ?_ | refine Req.mk (by omega) ?_ | refine Req.mk (by dsimp only; omega) ?_ | refine Req.mk (show pendP _ _ by repeat' constructor) ?_ | (with_reducible first | refine brT (by assumption) ?_ | refine brF (by assumption) ?_ | refine brDT (by omega) ?_ | refine brDF (by omega) ?_ | refine brET (by omega) ?_ | refine brEF (by omega) ?_ | refine brNET (by omega) ?_ | refine brNEF (by omega) ?_ | refine brNot ?_)); conv => whnf))
    · rintro _ _ _ ⟨⟨tok, rfl⟩, ⟨rfl, h1, rfl⟩ | ⟨rfl, h1, rfl⟩⟩
      · rw [h1]
        conv => whnf
        exact .inl ⟨_, _, rfl, Weak.tup (.cons Weak.nils (WeakL.refl _)), rfl, rfl⟩
      · rw [h1]
        conv => whnf
        exact .inl ⟨_, _, rfl, Weak.tup (.cons Weak.tok (WeakL.refl _)), rfl, rfl⟩
  exact ACalls.weakR hw
end Go.Proofs.YtjpaapkdbohgeaaDoor
namespace Go.Proofs.YtjpaapkdbohgeaaDoor
open Go.Abs
def cmdC (x : UInt8 × List Int) : List AV := [.int .u8 x.1.toNat, lv x.2]
theorem cmdC_len (x : UInt8 × List Int) : (cmdC x).length = 2 := rfl
theorem cmd_snoc (L : List (UInt8 × List Int)) (x : UInt8 × List Int) : cs cmdC (L ++ [x]) = cs cmdC L ++ [.int .u8 x.1.toNat, lv x.2] := by simp [cs, cmdC]
theorem cmd_length (L : List (UInt8 × List Int)) : (cs cmdC L).length = L.length * 2 := cs_length cmdC_len L
theorem cmd_closed : ∀ L : List (UInt8 × List Int), ClosedL (cs cmdC L)
  | [] => trivial
  | x :: L => by
    have := cmd_closed L
    simp only [cs, List.flatMap_cons, cmdC, List.cons_append, List.nil_append, ClosedL, Closed] at *
    exact ⟨trivial, lv_closed _, this⟩
theorem cmd_ids (p : Nat → Prop) (L : List (UInt8 × List Int)) : IdsL p (cs cmdC L) := ClosedL.ids _ (cmd_closed L)
theorem sign_ok {c : Int} {x : Int × List UInt8} (h : ofN c = some x) : kindsOK x.2 ∧ x.2.length ≤ 10 ∧ (x.2 = [] ∨ ∃ k r, x.2 = k :: r ∧ (k = 110 ∨ k = 117)) ∧ (0 ≤ x.1 ∧ x.1 < 256) := by
  have hm := (ofN_mem h).1
  have key : ∀ y ∈ signL, (∀ k ∈ y.2, k = 110 ∨ k = 117 ∨ k = 103 ∨ k = 102) ∧ y.2.length ≤ 10 ∧ (y.2 = [] ∨ y.2.head? = some 110 ∨ y.2.head? = some 117) ∧ (0 ≤ y.1 ∧ y.1 < 256) := by decide
  obtain ⟨h1, h2, h3, h4⟩ := key x hm
  refine ⟨h1, h2, ?_, h4⟩
  cases hx : x.2 with
  | nil => exact .inl rfl
  | cons k r =>
    rw [hx] at h3
    refine .inr ⟨k, r, rfl, ?_⟩
    rcases h3 with h | h | h
    · cases h
    · exact .inl (by cases h; rfl)
    · exact .inr (by cases h; rfl)
theorem more_bd (s : List UInt8) (sg : Bool) (p : Nat) (hp : p ≤ s.length) : p ≤ (moreR s sg p).2 ∧ (moreR s sg p).2 ≤ s.length := by
  have h1 := blk_in s p hp
  unfold moreR
  split
  · rename_i hc
    have h2 := isC_lt hc
    have h3 := blk_in s (p + blk (s.drop p) + 1) (by omega)
    exact ⟨by simp only; omega, by simp only; omega⟩
  · exact ⟨by simp only; omega, by simp only; omega⟩
def Fin6 (G : List (UInt8 × List Int)) (e : Int) (q : Nat) (L : List (UInt8 × List Int)) (w : List (UInt8 × List Int) × Int × Nat) : Prop := L ++ w.1 = G ∧ w.2.1 = e ∧ (e ≠ 0 → w.2.2 = q)
theorem Fin6.fin {G e q L s fuel first p} (h : Fin6 G e q L (walkR s (fuel + 1) first p)) (hs : s[p]? = none) : G = L ∧ e = 0 := by
  unfold walkR at h; rw [hs] at h
  exact ⟨by have := h.1; simpa using this.symm, h.2.1.symm⟩
theorem Fin6.bad {G e q L s fuel first p c} (h : Fin6 G e q L (walkR s (fuel + 1) first p)) (hs : s[p]? = some c) (hb : ofN c.toNat = none ∨ ∃ x, ofN c.toNat = some x ∧ first = true ∧ x.1 ≠ 77) : G = L ∧ e = 3 ∧ q = p := by
  unfold walkR at h; rw [hs] at h
  simp only at h
  rcases hb with hb | ⟨x, hb, hf⟩
  · rw [hb] at h
    have h2 : (3 : Int) = e := h.2.1
    exact ⟨by have := h.1; simpa using this.symm, h2.symm, (h.2.2 (by omega)).symm⟩
  · rw [hb] at h
    simp only at h
    rw [if_pos hf] at h
    have h2 : (3 : Int) = e := h.2.1
    exact ⟨by have := h.1; simpa using this.symm, h2.symm, (h.2.2 (by omega)).symm⟩
theorem Fin6.alone {G e q L s fuel first p c x} (h : Fin6 G e q L (walkR s (fuel + 1) first p)) (hs : s[p]? = some c) (hx : ofN c.toNat = some x) (hf : ¬ (first = true ∧ x.1 ≠ 77)) (ha : x.2 = []) :
    Fin6 G e q (L ++ [(c, [])]) (walkR s fuel false (p + 1 + blk (s.drop (p + 1)))) := by
  unfold walkR at h; rw [hs] at h
  simp only at h
  rw [hx] at h
  simp only at h
  rw [if_neg hf, if_pos ha] at h
  exact ⟨by rw [List.append_assoc]; exact h.1, h.2⟩
def FinG (G : List (UInt8 × List Int)) (e : Int) (q : Nat) (L : List (UInt8 × List Int)) (s : List UInt8) (fuel : Nat) (r : List (UInt8 × List Int) × Int × Nat) : Prop :=
  if r.2.1 ≠ 0 then L ++ r.1 = G ∧ r.2.1 = e ∧ r.2.2 = q else Fin6 G e q (L ++ r.1) (walkR s fuel false r.2.2)
theorem Fin6.runs {G e q L s fuel first p c x} (h : Fin6 G e q L (walkR s (fuel + 1) first p)) (hs : s[p]? = some c) (hx : ofN c.toNat = some x) (hf : ¬ (first = true ∧ x.1 ≠ 77)) (ha : x.2 ≠ []) :
    FinG G e q L s fuel (runR s x.2 (s.length + 1) c (p + 1 + blk (s.drop (p + 1)))) := by
  unfold walkR at h; rw [hs] at h
  simp only at h
  rw [hx] at h
  simp only at h
  rw [if_neg hf, if_neg ha] at h
  unfold FinG
  by_cases h2 : (runR s x.2 (s.length + 1) c (p + 1 + blk (s.drop (p + 1)))).2.1 ≠ 0
  · rw [if_pos h2] at h ⊢
    exact ⟨h.1, h.2.1, h.2.2 (by have := h.2.1; simp only at this; rw [← this]; exact h2)⟩
  · rw [if_neg h2] at h ⊢
    exact ⟨by rw [List.append_assoc]; exact h.1, h.2⟩
theorem FinG.err {G e q L s fuel args n c p} (h : FinG G e q L s fuel (runR s args (n + 1) c p)) (he : (grpR s args 0 p []).2.1 ≠ 0) : G = L ∧ e = (grpR s args 0 p []).2.1 ∧ q = (grpR s args 0 p []).2.2 := by
  unfold FinG runR at h
  simp only [if_pos he] at h
  exact ⟨by have := h.1; simpa using this.symm, h.2.1.symm, h.2.2.symm⟩
theorem FinG.last {G e q L s fuel args n c p} (h : FinG G e q L s fuel (runR s args (n + 1) c p)) (he : (grpR s args 0 p []).2.1 = 0) (hm : (moreR s (args.head? == some 110) (grpR s args 0 p []).2.2).1 = false) :
    Fin6 G e q (L ++ [(c, (grpR s args 0 p []).1)]) (walkR s fuel false (moreR s (args.head? == some 110) (grpR s args 0 p []).2.2).2) := by
  unfold FinG runR at h
  simp only [he, ne_eq, not_true_eq_false, if_false, hm, Bool.false_eq_true] at h
  exact h
theorem FinG.more {G e q L s fuel args n c p} (h : FinG G e q L s fuel (runR s args (n + 1) c p)) (he : (grpR s args 0 p []).2.1 = 0) (hm : (moreR s (args.head? == some 110) (grpR s args 0 p []).2.2).1 = true) :
    FinG G e q (L ++ [(c, (grpR s args 0 p []).1)]) s fuel (runR s args n (nextC c) (moreR s (args.head? == some 110) (grpR s args 0 p []).2.2).2) := by
  unfold FinG at h ⊢
  rw [runR] at h
  simp only [he, ne_eq, not_true_eq_false, if_false, hm, if_true] at h
  rw [List.append_assoc]
  exact h
end Go.Proofs.YtjpaapkdbohgeaaDoor
namespace Go.Abs
open Go.RowKit
variable {S : Seat}
theorem CbH.weakA {h : Heap} {i : Nat} {args args' : List AV} {k : AEnd → Heap → Prop} (hw : WeakL args args') (hc : CbH S i args' h k) : CbH S i args h k :=
  ⟨fun E w us fv hr ha hfv => hc.out E w us fv hr (WeakL.run hw ha) hfv⟩
end Go.Abs
namespace Go.Proofs.YtjpaapkdbohgeaaDoor
open Go.Abs
def toldG (L : List (UInt8 × List Int)) : List (List AV) := L.map fun x => [.agg (cmdC x)]
theorem toldG_snoc (L : List (UInt8 × List Int)) (x : UInt8 × List Int) : toldG L ++ [[.agg (cmdC x)]] = toldG (L ++ [x]) := by simp [toldG]
def accG (P : List (UInt8 × List Int)) (seen : List (List AV)) (args : List AV) : Prop := ∃ L x R, P = L ++ x :: R ∧ seen = toldG L ∧ args = [.agg (cmdC x)]
def finG (P : List (UInt8 × List Int)) (seen : List (List AV)) (st : Bool) : Prop := ∃ L R, P = L ++ R ∧ seen = toldG L ∧ (st = false → R = [])
theorem Fin6.acc {G e q L x w} (h : Fin6 G e q (L ++ [x]) w) : accG G (toldG L) [.agg (cmdC x)] := ⟨L, x, w.1, by rw [← h.1, List.append_assoc]; rfl, rfl, rfl⟩
theorem FinG.acc {G e q L x s n r} (h : FinG G e q (L ++ [x]) s n r) : accG G (toldG L) [.agg (cmdC x)] := by
  unfold FinG at h
  split at h
  · exact ⟨L, x, r.1, by rw [← h.1, List.append_assoc]; rfl, rfl, rfl⟩
  · exact ⟨L, x, r.1 ++ (walkR s n false r.2.2).1, by rw [← h.1]; simp, rfl, rfl⟩
theorem accG.fin {G L x} (h : accG G (toldG L) [.agg (cmdC x)]) (hi : ∀ {M}, toldG L = toldG M → L = M) (hx : ∀ {y}, cmdC x = cmdC y → x = y) : finG G (toldG L ++ [[.agg (cmdC x)]]) true := by
  obtain ⟨M, y, R, h1, h2, h3⟩ := h
  obtain rfl := hi h2
  simp only [List.cons.injEq, AV.agg.injEq, and_true] at h3
  obtain rfl := hx h3
  exact ⟨L ++ [x], R, by rw [h1]; simp, toldG_snoc _ _, fun h => by cases h⟩
theorem ci_inj : ∀ {a b : List Int}, ci .i64 a = ci .i64 b → a = b
  | [], [], _ => rfl
  | x :: a, y :: b, h => by
    simp only [ci, List.map_cons, List.cons.injEq, AV.int.injEq, true_and] at h
    obtain ⟨rfl, h2⟩ := h
    have : a = b := ci_inj h2
    rw [this]
  | [], _ :: _, h => by simp [ci] at h
  | _ :: _, [], h => by simp [ci] at h
theorem cmdC_inj {x y : UInt8 × List Int} (h : cmdC x = cmdC y) : x = y := by
  obtain ⟨a, b⟩ := x
  obtain ⟨c, d⟩ := y
  simp only [cmdC, lv, List.cons.injEq, AV.int.injEq, AV.vec.injEq, and_true, true_and] at h
  obtain rfl : a = c := UInt8.toNat_inj.1 (by omega)
  obtain rfl := ci_inj h.2.1
  rfl
theorem toldG_inj : ∀ {L M : List (UInt8 × List Int)}, toldG L = toldG M → L = M
  | [], [], _ => rfl
  | x :: L, y :: M, h => by
    simp only [toldG, List.map_cons, List.cons.injEq, AV.agg.injEq, and_true] at h
    obtain rfl := cmdC_inj h.1
    have : L = M := toldG_inj h.2
    rw [this]
  | [], _ :: _, h => by simp [toldG] at h
  | _ :: _, [], h => by simp [toldG] at h
end Go.Proofs.YtjpaapkdbohgeaaDoor
namespace Go.Proofs.YtjpaapkdbohgeaaDoor
open Go.Abs
set_option maxRecDepth 20000 in
set_option maxHeartbeats 4000000 in
theorem c_walkP (s : List UInt8) (hl : s.length ≤ 400) (G : List (UInt8 × List Int)) (e : Int) (q : Nat) (hG : pathR s = (G, e, q)) :
    ACalls seat 23 [.str s, .fn 24 [] [.ptr 0 0]] [.var [.vec [] 0 (some 1)] 23, .tok 0 38 2] (fun x h => x = .ret (.tup [.int .i64 (if e = 0 then -1 else (q : Nat)), .int .i64 e]) ∧ ∃ r, h = .var [.vec (cs cmdC G) G.length (some 1)] 23 :: .tok G.length 38 2 :: r) := by
  unfold pathR at hG
  refine ACalls.body seat_ok Tryd.func23 rfl rfl ?_
  have cb0 := c_blanks s 0 (by omega) (by omega)
  have hin0 := blk_in s 0 (by omega)
  rw [Nat.zero_add, List.drop_zero] at cb0 hin0
  unfold rdr at cb0
  conv => whnf
  refine Sat.scope seat_ok ?_
  conv => whnf
  refine CallH.body seat_ok Tryd.func38 rfl rfl ?_
  conv => whnf
  refine CallH.mem1 seat_g 2 cb0 rfl (by simp [Closed, ClosedL]) (by simp [Closed, ClosedL]) (by simp [Closed, ClosedL]) rfl ?_
  conv => whnf
  refine Sat.cut (fun x t h => (∃ r, h = .var [.vec (cs cmdC G) G.length (some 1)] 23 :: .tok G.length 38 2 :: r) ∧ ((x = .ret ∧ e ≠ 0 ∧ t = (uu::uu::uu::uu::.int .i64 (q : Nat)::.int .i64 e::uu::uu::uu::uu::uu::uu::uu::uu::uu::uu::uu::uu::uu::uu::uu::uu::uu::uu::uu::uu::uu::uu::uu::uu::uu::uu::uu::uu::uu::uu::uu::uu::uu::uu::uu::uu::uu::uu::uu::uu::uu::uu::uu::uu::uu::uu::uu::uu::uu::uu::uu::uu::uu::uu::uu::uu::uu::uu::uu::uu::uu::uu::uu::uu::uu::uu::uu::uu::uu::uu::uu::uu::uu::uu::uu::uu::uu::uu::uu::uu::uu::[])) ∨ (x = .exit 0 ∧ e = 0 ∧ t = (uu::uu::uu::uu::uu::uu::uu::uu::uu::uu::uu::uu::uu::uu::uu::uu::uu::uu::uu::uu::uu::uu::uu::uu::uu::uu::uu::uu::uu::uu::uu::uu::uu::uu::uu::uu::uu::uu::uu::uu::uu::uu::uu::uu::uu::uu::uu::uu::uu::uu::uu::uu::uu::uu::uu::uu::uu::uu::uu::uu::uu::uu::uu::uu::uu::uu::uu::uu::uu::uu::uu::uu::uu::uu::uu::uu::uu::uu::uu::uu::uu::uu::uu::uu::uu::uu::uu::[])))) ?_ ?_
  · refine Sat.invP seat_ok seat_g (maskOf 87 [1, 6, 7]) 3 (fun μ t h => ∃ (fuel : Nat) (first : Bool) (p : Nat) (L : List (UInt8 × List Int)), p ≤ s.length ∧ s.length < p + fuel ∧ L.length ≤ p ∧ Fin6 G e q L (walkR s fuel first p) ∧ μ = s.length - p ∧
        t = (uu::.fn 24 [] [.ptr 0 0]::uu::uu::uu::uu::.ptr 2 0::.bool first::uu::uu::uu::uu::uu::uu::uu::uu::uu::uu::uu::uu::uu::uu::uu::uu::uu::uu::uu::uu::uu::uu::uu::uu::uu::uu::uu::uu::uu::uu::uu::uu::uu::uu::uu::uu::uu::uu::uu::uu::uu::uu::uu::uu::uu::uu::uu::uu::uu::uu::uu::uu::uu::uu::uu::uu::uu::uu::uu::uu::uu::uu::uu::uu::uu::uu::uu::uu::uu::uu::uu::uu::uu::uu::uu::uu::uu::uu::uu::[]) ∧ h = [.var [.vec (cs cmdC L) L.length (some 1)] 23, .tok L.length 38 2, .var (rdr s p) 96])
      ?_ ⟨_, _, WeakL.of_eq rfl, s.length + 1, true, blk s, [], hin0, by omega, by simp, ⟨by have := congrArg (·.1) hG; simpa using this, congrArg (·.2.1) hG, fun _ => congrArg (·.2.2) hG⟩, rfl, rfl, rfl⟩ ?_
    · rintro _ _ _ ⟨fuel, first, p, L, -, -, -, -, -, rfl, rfl⟩
      exact ⟨rfl, (by simp [IdsL, Ids, IdsH, IdsC, lv_ids, ci_ids]), by simp [rdr, IdsH, IdsC, IdsL, Ids, cmd_ids]⟩
    rintro _ _ _ ⟨fuel, first, p, L, hp, hfu, hLp, hF, rfl, rfl, rfl⟩
    have cl := c_left s p (by omega) hp
    obtain ⟨n, rfl⟩ : ∃ n, fuel = n + 1 := ⟨fuel - 1, by omega⟩
    by_cases g : p < s.length
    · obtain ⟨c, hc⟩ : ∃ c, s[p]? = some c := ⟨_, List.getElem?_eq_getElem g⟩
      have cp := c_peekS s p c hc (by omega)
      have cf := c_pof c.toNat ⟨by omega, by have := c.toNat_lt; omega⟩
      have hg0 : (s.length : Int) - p > 0 := by omega
      have ca := c_at s p
      unfold pofV at cf
      cases hx : ofN c.toNat with
      | none =>
        obtain ⟨rfl, rfl, rfl⟩ := hF.bad hc (.inl hx)
        rw [hx] at cf
        simp only at cf
        clear hF hG
        unfold rdr at *
        conv => whnf
        repeat' (first | exact ⟨_, keepT_weak (maskOf 87 [4, 5]) _, ⟨_, rfl⟩, .inl ⟨rfl, by decide, rfl⟩⟩ | (refine CallH.mem1 seat_g 2 cl rfl (by simp [Closed, ClosedL]) (by simp [Closed, ClosedL]) (by simp [Closed, ClosedL, lv_closed]) rfl ?_; conv => whnf) | (refine CallH.mem1 seat_g 2 cp rfl (by simp [Closed, ClosedL]) (by simp [Closed, ClosedL]) (by simp [Closed, ClosedL, lv_closed]) rfl ?_; conv => whnf) | (refine CallH.lift seat_g cf (by simp [Closed, ClosedL]) (by simp [Closed, ClosedL]) ?_; conv => whnf) | (refine CallH.mem1 seat_g 2 ca rfl (by simp [Closed, ClosedL]) (by simp [Closed, ClosedL]) (by simp [Closed, ClosedL, lv_closed]) rfl ?_; conv => whnf) | ((first | refine zq1 (by omega) ?_ | refine zq2 (by omega) ?_ | refine NumH.rem (by omega) ?_ | refine zq4 (by omega) ?_ | refine zq5 (by omega) ?_ | refine zq6 ?_ | refine Req.mk (by omega) ?_ | refine Req.mk (by dsimp only; omega) ?_ | refine Req.mk (show pendP _ _ by repeat' constructor) ?_ | (with_reducible first | refine brT (by assumption) ?_ | refine brF (by assumption) ?_ | refine brDT (by omega) ?_ | refine brDF (by omega) ?_ | refine brET (by omega) ?_ | refine brEF (by omega) ?_ | refine brNET (by omega) ?_ | refine brNEF (by omega) ?_ | refine brNot ?_)); conv => whnf))
      | some x =>
        rw [hx] at cf
        simp only at cf
        by_cases hf : first = true ∧ x.1 ≠ 77
        · obtain ⟨rfl, rfl, rfl⟩ := hF.bad hc (.inr ⟨x, hx, hf⟩)
          obtain ⟨rfl, hf2⟩ := hf
          clear hF hG
          unfold rdr at *
          conv => whnf
          repeat' (first | exact ⟨_, keepT_weak (maskOf 87 [4, 5]) _, ⟨_, rfl⟩, .inl ⟨rfl, by decide, rfl⟩⟩ | (refine CallH.mem1 seat_g 2 cl rfl (by simp [Closed, ClosedL]) (by simp [Closed, ClosedL]) (by simp [Closed, ClosedL, lv_closed]) rfl ?_; conv => whnf) | (refine CallH.mem1 seat_g 2 cp rfl (by simp [Closed, ClosedL]) (by simp [Closed, ClosedL]) (by simp [Closed, ClosedL, lv_closed]) rfl ?_; conv => whnf) | (refine CallH.lift seat_g cf (by simp [Closed, ClosedL]) (by simp [Closed, ClosedL]) ?_; conv => whnf) | (refine CallH.mem1 seat_g 2 ca rfl (by simp [Closed, ClosedL]) (by simp [Closed, ClosedL]) (by simp [Closed, ClosedL, lv_closed]) rfl ?_; conv => whnf) | ((first | refine zq1 (by omega) ?_ | refine zq2 (by omega) ?_ | refine NumH.rem (by omega) ?_ | refine zq4 (by omega) ?_ | refine zq5 (by omega) ?_ | refine zq6 ?_ | refine Req.mk (by omega) ?_ | refine Req.mk (by dsimp only; omega) ?_ | refine Req.mk (show pendP _ _ by repeat' constructor) ?_ | (with_reducible first | refine brT (by assumption) ?_ | refine brF (by assumption) ?_ | refine brDT (by omega) ?_ | refine brDF (by omega) ?_ | refine brET (by omega) ?_ | refine brEF (by omega) ?_ | refine brNET (by omega) ?_ | refine brNEF (by omega) ?_ | refine brNot ?_)); conv => whnf))
        · obtain ⟨hk, hal, hh, hx8⟩ := sign_ok hx
          have ck := c_skip s p hp (by omega)
          rw [Nat.min_eq_left (by omega)] at ck
          have c2 := c_blanks s (p + 1) (by omega) (by omega)
          have hin := blk_in s (p + 1) (by omega)
          obtain ⟨p1, hp1⟩ : ∃ p1, p1 = p + 1 + blk (s.drop (p + 1)) := ⟨_, rfl⟩
          have hpp : p < p1 := by omega
          have hcl := cmd_length L
          have hll : ∀ v, (L ++ [(c, v)]).length = L.length + 1 := fun v => by simp
          obtain ⟨a1, args⟩ := x
          simp only at hf hk hal hh hx8 cf hin
          by_cases ha : args = []
          · have hF2 := hF.alone hc hx hf ha
            rw [← hp1] at hF2 c2 hin
            subst ha
            clear hF hG
            unfold rdr at *
            cases first with
            | true =>
              have h77 : a1 = 77 := Classical.byContradiction fun h => hf ⟨rfl, h⟩
              conv => whnf
              repeat' (first | exact ⟨_, _, show s.length - p1 < s.length - p by omega, WeakL.of_eq rfl, n, false, p1, L ++ [(c, [])], hin, by omega, by rw [hll]; omega, hF2, rfl, rfl, by rw [cmd_snoc, hll]; rfl⟩ | (refine CallH.mem1 seat_g 2 cl rfl (by simp [Closed, ClosedL]) (by simp [Closed, ClosedL]) (by simp [Closed, ClosedL, lv_closed]) rfl ?_; conv => whnf) | (refine CallH.mem1 seat_g 2 cp rfl (by simp [Closed, ClosedL]) (by simp [Closed, ClosedL]) (by simp [Closed, ClosedL, lv_closed]) rfl ?_; conv => whnf) | (refine CallH.lift seat_g cf (by simp [Closed, ClosedL]) (by simp [Closed, ClosedL]) ?_; conv => whnf) | (refine CallH.mem1 seat_g 2 ck rfl (by simp [Closed, ClosedL]) (by simp [Closed, ClosedL]) (by simp [Closed, ClosedL, lv_closed]) rfl ?_; conv => whnf) | (refine CallH.mem1 seat_g 2 c2 rfl (by simp [Closed, ClosedL]) (by simp [Closed, ClosedL]) (by simp [Closed, ClosedL, lv_closed]) rfl ?_; conv => whnf) | (refine CallH.weakA (WeakL.cons (Weak.agg (WeakL.cons (Weak.refl _) (WeakL.cons Weak.nils (WeakL.refl _)))) (WeakL.refl _)) ?_; refine CallH.body seat_ok Tryd.func24 rfl rfl ?_; conv => whnf) | (refine Req.mk ⟨rfl, rfl, rfl, hcl, rfl, by simp [okCell], by dsimp only; omega, by omega, by decide⟩ ?_; conv => whnf) | ((first | refine zq1 (by omega) ?_ | refine zq2 (by omega) ?_ | refine NumH.rem (by omega) ?_ | refine zq4 (by omega) ?_ | refine zq5 (by omega) ?_ | refine zq6 ?_ | refine Req.mk (by omega) ?_ | refine Req.mk (by dsimp only; omega) ?_ | refine Req.mk (show pendP _ _ by repeat' constructor) ?_ | (with_reducible first | refine brT (by assumption) ?_ | refine brF (by assumption) ?_ | refine brDT (by omega) ?_ | refine brDF (by omega) ?_ | refine brET (by omega) ?_ | refine brEF (by omega) ?_ | refine brNET (by omega) ?_ | refine brNEF (by omega) ?_ | refine brNot ?_)); conv => whnf))
            | false =>
              conv => whnf
              repeat' (first | exact ⟨_, _, show s.length - p1 < s.length - p by omega, WeakL.of_eq rfl, n, false, p1, L ++ [(c, [])], hin, by omega, by rw [hll]; omega, hF2, rfl, rfl, by rw [cmd_snoc, hll]; rfl⟩ | (refine CallH.mem1 seat_g 2 cl rfl (by simp [Closed, ClosedL]) (by simp [Closed, ClosedL]) (by simp [Closed, ClosedL, lv_closed]) rfl ?_; conv => whnf) | (refine CallH.mem1 seat_g 2 cp rfl (by simp [Closed, ClosedL]) (by simp [Closed, ClosedL]) (by simp [Closed, ClosedL, lv_closed]) rfl ?_; conv => whnf) | (refine CallH.lift seat_g cf (by simp [Closed, ClosedL]) (by simp [Closed, ClosedL]) ?_; conv => whnf) | (refine CallH.mem1 seat_g 2 ck rfl (by simp [Closed, ClosedL]) (by simp [Closed, ClosedL]) (by simp [Closed, ClosedL, lv_closed]) rfl ?_; conv => whnf) | (refine CallH.mem1 seat_g 2 c2 rfl (by simp [Closed, ClosedL]) (by simp [Closed, ClosedL]) (by simp [Closed, ClosedL, lv_closed]) rfl ?_; conv => whnf) | (refine CallH.weakA (WeakL.cons (Weak.agg (WeakL.cons (Weak.refl _) (WeakL.cons Weak.nils (WeakL.refl _)))) (WeakL.refl _)) ?_; refine CallH.body seat_ok Tryd.func24 rfl rfl ?_; conv => whnf) | (refine Req.mk ⟨rfl, rfl, rfl, hcl, rfl, by simp [okCell], by dsimp only; omega, by omega, by decide⟩ ?_; conv => whnf) | ((first | refine zq1 (by omega) ?_ | refine zq2 (by omega) ?_ | refine NumH.rem (by omega) ?_ | refine zq4 (by omega) ?_ | refine zq5 (by omega) ?_ | refine zq6 ?_ | refine Req.mk (by omega) ?_ | refine Req.mk (by dsimp only; omega) ?_ | refine Req.mk (show pendP _ _ by repeat' constructor) ?_ | (with_reducible first | refine brT (by assumption) ?_ | refine brF (by assumption) ?_ | refine brDT (by omega) ?_ | refine brDF (by omega) ?_ | refine brET (by omega) ?_ | refine brEF (by omega) ?_ | refine brNET (by omega) ?_ | refine brNEF (by omega) ?_ | refine brNot ?_)); conv => whnf))
          · have hF2 := hF.runs hc hx hf ha
            rw [← hp1] at hF2 c2 hin
            obtain ⟨k, r, rfl, hk2⟩ : ∃ k r, args = k :: r ∧ (k = 110 ∨ k = 117) := by
              rcases hh with h | h
              · exact absurd h ha
              · exact h
            clear hF hG
            have h77 : first = true → a1 = 77 := fun h => Classical.byContradiction fun h2 => hf ⟨h, h2⟩
            unfold rdr
            unfold rdr at cl cp ck c2
            have hhead : ∀ q2, moreR s ((k :: r).head? == some 110) q2 = moreR s (k == 110) q2 := fun _ => rfl
            have hrl : r.length ≤ 100 := by simp only [List.length_cons] at hal; omega
            clear hf hx hcl hll
            cases first
            all_goals try have h78 := h77 rfl
            all_goals
              conv => whnf
              repeat' (first | (refine CallH.mem1 seat_g 2 cl rfl (by simp [Closed, ClosedL]) (by simp [Closed, ClosedL]) (by simp [Closed, ClosedL, lv_closed]) rfl ?_; conv => whnf) | (refine CallH.mem1 seat_g 2 cp rfl (by simp [Closed, ClosedL]) (by simp [Closed, ClosedL]) (by simp [Closed, ClosedL, lv_closed]) rfl ?_; conv => whnf) | (refine CallH.lift seat_g cf (by simp [Closed, ClosedL]) (by simp [Closed, ClosedL]) ?_; conv => whnf) | (refine CallH.mem1 seat_g 2 ck rfl (by simp [Closed, ClosedL]) (by simp [Closed, ClosedL]) (by simp [Closed, ClosedL, lv_closed]) rfl ?_; conv => whnf) | (refine CallH.mem1 seat_g 2 c2 rfl (by simp [Closed, ClosedL]) (by simp [Closed, ClosedL]) (by simp [Closed, ClosedL, lv_closed]) rfl ?_; conv => whnf) | ((first | refine zq1 (by omega) ?_ | refine zq2 (by omega) ?_ | refine NumH.rem (by omega) ?_ | refine zq4 (by omega) ?_ | refine zq5 (by omega) ?_ | refine zq6 ?_ | refine Req.mk (by omega) ?_ | refine Req.mk (by dsimp only; omega) ?_ | refine Req.mk (show pendP _ _ by repeat' constructor) ?_ | (with_reducible first | refine brT (by assumption) ?_ | refine brF (by assumption) ?_ | refine brDT (by omega) ?_ | refine brDF (by omega) ?_ | refine brET (by omega) ?_ | refine brEF (by omega) ?_ | refine brNET (by omega) ?_ | refine brNEF (by omega) ?_ | refine brNot ?_)); conv => whnf))
            all_goals
              refine Sat.cut (fun x t h => (x = .ret ∧ e ≠ 0 ∧ t = (uu::uu::uu::uu::.int .i64 (q : Nat)::.int .i64 e::uu::uu::uu::uu::uu::uu::uu::uu::uu::uu::uu::uu::uu::uu::uu::uu::uu::uu::uu::uu::uu::uu::uu::uu::uu::uu::uu::uu::uu::uu::uu::uu::uu::uu::uu::uu::uu::uu::uu::uu::uu::uu::uu::uu::uu::uu::uu::uu::uu::uu::uu::uu::uu::uu::uu::uu::uu::uu::uu::uu::uu::uu::uu::uu::uu::uu::uu::uu::uu::uu::uu::uu::uu::uu::uu::uu::uu::uu::uu::uu::uu::[]) ∧ ∃ r, h = .var [.vec (cs cmdC G) G.length (some 1)] 23 :: .tok G.length 38 2 :: r) ∨
                (x = .exit 1 ∧ ∃ (p3 : Nat) (L3 : List (UInt8 × List Int)), p < p3 ∧ p3 ≤ s.length ∧ L3.length ≤ p3 ∧ Fin6 G e q L3 (walkR s n false p3) ∧ t = (uu::.fn 24 [] [.ptr 0 0]::uu::uu::uu::uu::.ptr 2 0::.bool false::uu::uu::uu::uu::uu::uu::uu::uu::uu::uu::uu::uu::uu::uu::uu::uu::uu::uu::uu::uu::uu::uu::uu::uu::uu::uu::uu::uu::uu::uu::uu::uu::uu::uu::uu::uu::uu::uu::uu::uu::uu::uu::uu::uu::uu::uu::uu::uu::uu::uu::uu::uu::uu::uu::uu::uu::uu::uu::uu::uu::uu::uu::uu::uu::uu::uu::uu::uu::uu::uu::uu::uu::uu::uu::uu::uu::uu::uu::uu::[]) ∧ ∃ r, h = .var [.vec (cs cmdC L3) L3.length (some 1)] 23 :: .tok L3.length 38 2 :: .var [.str s, .int .i64 (p3 : Nat)] 96 :: r)) ?_ ?_
              · refine Sat.invP seat_ok seat_g (maskOf 87 [1, 6, 7, 8, 10]) 4 (fun μ t h => ∃ (m : Nat) (d : UInt8) (p2 : Nat) (L2 : List (UInt8 × List Int)), p < p2 ∧ p2 ≤ s.length ∧ s.length < p2 + m ∧ L2.length < p2 ∧ FinG G e q L2 s n (runR s (k :: r) m d p2) ∧ μ = s.length - p2 ∧
                    t = (uu::.fn 24 [] [.ptr 0 0]::uu::uu::uu::uu::.ptr 2 0::.bool false::.int .u8 d.toNat::uu::.ptr 3 0::uu::uu::uu::uu::uu::uu::uu::uu::uu::uu::uu::uu::uu::uu::uu::uu::uu::uu::uu::uu::uu::uu::uu::uu::uu::uu::uu::uu::uu::uu::uu::uu::uu::uu::uu::uu::uu::uu::uu::uu::uu::uu::uu::uu::uu::uu::uu::uu::uu::uu::uu::uu::uu::uu::uu::uu::uu::uu::uu::uu::uu::uu::uu::uu::uu::uu::uu::uu::uu::uu::uu::uu::uu::uu::uu::uu::[]) ∧ h = .var [.vec (cs cmdC L2) L2.length (some 1)] 23 :: .tok L2.length 38 2 :: .var [.str s, .int .i64 (p2 : Nat)] 96 :: .var [.int .u8 a1, .str (k :: r)] 58 :: [])
                  ?_ ⟨_, _, WeakL.of_eq rfl, s.length + 1, c, p1, L, hpp, hin, by omega, by omega, hF2, rfl, rfl, rfl⟩ ?_
                · rintro _ _ _ ⟨m, d, p2, L2, -, -, -, -, -, -, rfl, rfl⟩
                  exact ⟨rfl, (by simp [IdsL, Ids, IdsH, IdsC, lv_ids, ci_ids]), by simp [IdsH, IdsC, IdsL, Ids, cmd_ids]⟩
                rintro _ _ _ ⟨m, d, p2, L2, hpp2, hp2, hm2, hL2, hR, rfl, rfl, rfl⟩
                clear cl cp ck c2 hF2
                obtain ⟨m, rfl⟩ : ∃ i, m = i + 1 := ⟨m - 1, by omega⟩
                have cg := c_group s (k :: r) p2 hp2 hl hk hal
                have hb := grpR_bd s hl (k :: r) 0 p2 [] hp2
                have hd8 := d.toNat_lt
                have e0 := hR.err
                have e1 := hR.last
                have e2 := hR.more
                clear hR
                obtain ⟨⟨vals, e', q2⟩, hA⟩ : ∃ R, grpR s (k :: r) 0 p2 [] = R := ⟨_, rfl⟩
                rw [hA] at cg hb e0 e1 e2
                simp only [hhead] at cg hb e0 e1 e2
                have hcl2 := cmd_length L2
                have hll2 : ∀ v, (L2 ++ [(d, v)]).length = L2.length + 1 := fun v => by simp
                by_cases he : e' = 0
                · subst he
                  have hq2 := hb.2 (by simp) rfl
                  have e1 := e1 rfl
                  have e2 := e2 rfl
                  have hmb := more_bd s (k == 110) q2 hb.1.2
                  have cm := c_more s k r q2 hb.1.2 (by omega) hrl hk2
                  obtain ⟨⟨mo, p3⟩, hM0⟩ : ∃ R, moreR s (k == 110) q2 = R := ⟨_, rfl⟩
                  rw [hM0] at e1 e2 hmb cm
                  simp only at e1 e2 hmb cm
                  unfold rdr at cg cm
                  cases mo with
                  | false =>
                    have h4 := e1 rfl
                    conv => whnf
                    repeat' (first | exact ⟨_, keepT_weak (maskOf 87 [1, 6, 7]) _, .inr ⟨rfl, p3, L2 ++ [(d, vals)], by omega, by omega, by rw [hll2]; omega, h4, rfl, _, by rw [cmd_snoc, hll2]; rfl⟩⟩ | (refine CallH.mem1 seat_g 2 cg rfl (by simp [Closed, ClosedL]) (by simp [Closed, ClosedL]) (by simp [Closed, ClosedL, lv_closed]) rfl ?_; conv => whnf) | (refine CallH.body seat_ok Tryd.func24 rfl rfl ?_; conv => whnf) | (refine Req.mk ⟨rfl, rfl, rfl, hcl2, rfl, by simp [okCell, lv], by dsimp only; omega, by omega, by decide⟩ ?_; conv => whnf) | (refine CallH.mem1 seat_g 2 cm rfl (by simp [Closed, ClosedL]) (by simp [Closed, ClosedL]) (by simp [Closed, ClosedL, lv_closed]) rfl ?_; conv => whnf) | ((first | refine zq1 (by omega) ?_ | refine zq2 (by omega) ?_ | refine NumH.rem (by omega) ?_ | refine zq4 (by omega) ?_ | refine zq5 (by omega) ?_ | refine zq6 ?_ | refine Req.mk (by omega) ?_ | refine Req.mk (by dsimp only; omega) ?_ | refine Req.mk (show pendP _ _ by repeat' constructor) ?_ | (with_reducible first | refine brT (by assumption) ?_ | refine brF (by assumption) ?_ | refine brDT (by omega) ?_ | refine brDF (by omega) ?_ | refine brET (by omega) ?_ | refine brEF (by omega) ?_ | refine brNET (by omega) ?_ | refine brNEF (by omega) ?_ | refine brNot ?_)); conv => whnf))
                  | true =>
                    have hM := e2 rfl
                    by_cases h1 : (d.toNat : Int) = 77
                    · have hd : d = 77 := UInt8.toNat_inj.1 (by show d.toNat = 77; omega)
                      have hnd : nextC d = 76 := by rw [hd]; rfl
                      rw [hnd] at hM
                      clear hd hnd
                      conv => whnf
                      repeat' (first | exact ⟨_, _, show s.length - p3 < s.length - p2 by omega, WeakL.of_eq rfl, m, 76, p3, L2 ++ [(d, vals)], by omega, by omega, by omega, by rw [hll2]; omega, hM, rfl, rfl, by rw [cmd_snoc, hll2]; rfl⟩ | (refine CallH.mem1 seat_g 2 cg rfl (by simp [Closed, ClosedL]) (by simp [Closed, ClosedL]) (by simp [Closed, ClosedL, lv_closed]) rfl ?_; conv => whnf) | (refine CallH.body seat_ok Tryd.func24 rfl rfl ?_; conv => whnf) | (refine Req.mk ⟨rfl, rfl, rfl, hcl2, rfl, by simp [okCell, lv], by dsimp only; omega, by omega, by decide⟩ ?_; conv => whnf) | (refine CallH.mem1 seat_g 2 cm rfl (by simp [Closed, ClosedL]) (by simp [Closed, ClosedL]) (by simp [Closed, ClosedL, lv_closed]) rfl ?_; conv => whnf) | (refine WrapH.is 0 (by rw [h1]; rfl) ?_; conv => whnf) | (refine WrapH.is 76 rfl ?_; conv => whnf) | ((first | refine zq1 (by omega) ?_ | refine zq2 (by omega) ?_ | refine NumH.rem (by omega) ?_ | refine zq4 (by omega) ?_ | refine zq5 (by omega) ?_ | refine zq6 ?_ | refine Req.mk (by omega) ?_ | refine Req.mk (by dsimp only; omega) ?_ | refine Req.mk (show pendP _ _ by repeat' constructor) ?_ | (with_reducible first | refine brT (by assumption) ?_ | refine brF (by assumption) ?_ | refine brDT (by omega) ?_ | refine brDF (by omega) ?_ | refine brET (by omega) ?_ | refine brEF (by omega) ?_ | refine brNET (by omega) ?_ | refine brNEF (by omega) ?_ | refine brNot ?_)); conv => whnf))
                    · by_cases h2 : (d.toNat : Int) = 109
                      · have hd : d = 109 := UInt8.toNat_inj.1 (by show d.toNat = 109; omega)
                        have hnd : nextC d = 108 := by rw [hd]; rfl
                        rw [hnd] at hM
                        clear hd hnd
                        conv => whnf
                        repeat' (first | exact ⟨_, _, show s.length - p3 < s.length - p2 by omega, WeakL.of_eq rfl, m, 108, p3, L2 ++ [(d, vals)], by omega, by omega, by omega, by rw [hll2]; omega, hM, rfl, rfl, by rw [cmd_snoc, hll2]; rfl⟩ | (refine CallH.mem1 seat_g 2 cg rfl (by simp [Closed, ClosedL]) (by simp [Closed, ClosedL]) (by simp [Closed, ClosedL, lv_closed]) rfl ?_; conv => whnf) | (refine CallH.body seat_ok Tryd.func24 rfl rfl ?_; conv => whnf) | (refine Req.mk ⟨rfl, rfl, rfl, hcl2, rfl, by simp [okCell, lv], by dsimp only; omega, by omega, by decide⟩ ?_; conv => whnf) | (refine CallH.mem1 seat_g 2 cm rfl (by simp [Closed, ClosedL]) (by simp [Closed, ClosedL]) (by simp [Closed, ClosedL, lv_closed]) rfl ?_; conv => whnf) | (refine WrapH.is 32 (by rw [h2]; rfl) ?_; conv => whnf) | (refine WrapH.is 108 rfl ?_; conv => whnf) | ((first | refine zq1 (by omega) ?_ | refine zq2 (by omega) ?_ | refine NumH.rem (by omega) ?_ | refine zq4 (by omega) ?_ | refine zq5 (by omega) ?_ | refine zq6 ?_ | refine Req.mk (by omega) ?_ | refine Req.mk (by dsimp only; omega) ?_ | refine Req.mk (show pendP _ _ by repeat' constructor) ?_ | (with_reducible first | refine brT (by assumption) ?_ | refine brF (by assumption) ?_ | refine brDT (by omega) ?_ | refine brDF (by omega) ?_ | refine brET (by omega) ?_ | refine brEF (by omega) ?_ | refine brNET (by omega) ?_ | refine brNEF (by omega) ?_ | refine brNot ?_)); conv => whnf))
                      · have hnd : nextC d = d := by
                          unfold nextC
                          rw [if_neg (fun h => h1 (by rw [h]; rfl)), if_neg (fun h => h2 (by rw [h]; rfl))]
                        rw [hnd] at hM
                        conv => whnf
                        repeat' (first | exact ⟨_, _, show s.length - p3 < s.length - p2 by omega, WeakL.of_eq rfl, m, d, p3, L2 ++ [(d, vals)], by omega, by omega, by omega, by rw [hll2]; omega, hM, rfl, rfl, by rw [cmd_snoc, hll2]; rfl⟩ | (refine CallH.mem1 seat_g 2 cg rfl (by simp [Closed, ClosedL]) (by simp [Closed, ClosedL]) (by simp [Closed, ClosedL, lv_closed]) rfl ?_; conv => whnf) | (refine CallH.body seat_ok Tryd.func24 rfl rfl ?_; conv => whnf) | (refine Req.mk ⟨rfl, rfl, rfl, hcl2, rfl, by simp [okCell, lv], by dsimp only; omega, by omega, by decide⟩ ?_; conv => whnf) | (refine CallH.mem1 seat_g 2 cm rfl (by simp [Closed, ClosedL]) (by simp [Closed, ClosedL]) (by simp [Closed, ClosedL, lv_closed]) rfl ?_; conv => whnf) | ((first | refine zq1 (by omega) ?_ | refine zq2 (by omega) ?_ | refine NumH.rem (by omega) ?_ | refine zq4 (by omega) ?_ | refine zq5 (by omega) ?_ | refine zq6 ?_ | refine Req.mk (by omega) ?_ | refine Req.mk (by dsimp only; omega) ?_ | refine Req.mk (show pendP _ _ by repeat' constructor) ?_ | (with_reducible first | refine brT (by assumption) ?_ | refine brF (by assumption) ?_ | refine brDT (by omega) ?_ | refine brDF (by omega) ?_ | refine brET (by omega) ?_ | refine brEF (by omega) ?_ | refine brNET (by omega) ?_ | refine brNEF (by omega) ?_ | refine brNot ?_)); conv => whnf))
                · obtain ⟨rfl, rfl, rfl⟩ := e0 he
                  have ca2 := c_at s q
                  unfold rdr at cg ca2
                  conv => whnf
                  repeat' (first | exact ⟨_, keepT_weak (maskOf 87 [4, 5]) _, .inl ⟨rfl, he, rfl, _, rfl⟩⟩ | (refine CallH.mem1 seat_g 2 cg rfl (by simp [Closed, ClosedL]) (by simp [Closed, ClosedL]) (by simp [Closed, ClosedL, lv_closed]) rfl ?_; conv => whnf) | (refine CallH.mem1 seat_g 2 ca2 rfl (by simp [Closed, ClosedL]) (by simp [Closed, ClosedL]) (by simp [Closed, ClosedL, lv_closed]) rfl ?_; conv => whnf) | ((first | refine zq1 (by omega) ?_ | refine zq2 (by omega) ?_ | refine NumH.rem (by omega) ?_ | refine zq4 (by omega) ?_ | refine zq5 (by omega) ?_ | refine zq6 ?_ | refine Req.mk (by omega) ?_ | refine Req.mk (by dsimp only; omega) ?_ | refine Req.mk (show pendP _ _ by repeat' constructor) ?_ | (with_reducible first | refine brT (by assumption) ?_ | refine brF (by assumption) ?_ | refine brDT (by omega) ?_ | refine brDF (by omega) ?_ | refine brET (by omega) ?_ | refine brEF (by omega) ?_ | refine brNET (by omega) ?_ | refine brNEF (by omega) ?_ | refine brNot ?_)); conv => whnf))
              · rintro _ _ _ (⟨rfl, h1, rfl, r2, rfl⟩ | ⟨rfl, p3, L3, h1, h2, h3, h4, rfl, r2, rfl⟩)
                · conv => whnf
                  exact ⟨_, keepT_weak (maskOf 87 [4, 5]) _, ⟨_, rfl⟩, .inl ⟨rfl, h1, rfl⟩⟩
                · conv => whnf
                  exact ⟨_, _, show s.length - p3 < s.length - p by omega, WeakL.of_eq rfl, n, false, p3, L3, by omega, by omega, h3, h4, rfl, rfl, rfl⟩
    · have hpe : p = s.length := by omega
      obtain ⟨rfl, rfl⟩ := hF.fin (List.getElem?_eq_none (by omega))
      have hg0 : ¬ ((s.length : Int) - p > 0) := by omega
      clear hF hG
      unfold rdr at *
      conv => whnf
      repeat' (first | exact ⟨_, keepT_weak (maskOf 87 []) _, ⟨_, rfl⟩, .inr ⟨rfl, rfl, rfl⟩⟩ | (refine CallH.mem1 seat_g 2 cl rfl (by simp [Closed, ClosedL]) (by simp [Closed, ClosedL]) (by simp [Closed, ClosedL, lv_closed]) rfl ?_; conv => whnf) | ((first | refine zq1 (by omega) ?_ | refine zq2 (by omega) ?_ | refine NumH.rem (by omega) ?_ | refine zq4 (by omega) ?_ | refine zq5 (by omega) ?_ | refine zq6 ?_ | refine Req.mk (by omega) ?_ | refine Req.mk (by dsimp only; omega) ?_ | refine Req.mk (show pendP _ _ by repeat' constructor) ?_ | (with_reducible first | refine brT (by assumption) ?_ | refine brF (by assumption) ?_ | refine brDT (by omega) ?_ | refine brDF (by omega) ?_ | refine brET (by omega) ?_ | refine brEF (by omega) ?_ | refine brNET (by omega) ?_ | refine brNEF (by omega) ?_ | refine brNot ?_)); conv => whnf))
  · rintro _ _ _ ⟨⟨r, rfl⟩, ⟨rfl, h1, rfl⟩ | ⟨rfl, h1, rfl⟩⟩
    · rw [if_neg h1]
      conv => whnf
      exact ⟨rfl, _, rfl⟩
    · subst h1
      rw [if_pos rfl]
      conv => whnf
      exact ⟨rfl, _, rfl⟩
end Go.Proofs.YtjpaapkdbohgeaaDoor
namespace Go.Proofs.YtjpaapkdbohgeaaDoor
open Go.Abs
def cmdV (G : List (UInt8 × List Int)) : AV := .vec (cs cmdC G) G.length none
theorem c_parse (s : List UInt8) (hl : s.length ≤ 400) : ACalls seat 11 [.str s] [] (fun x _ => x = .ret (.tup [cmdV (pathR s).1, .int .i64 (if (pathR s).2.1 = 0 then -1 else ((pathR s).2.2 : Nat)), .int .i64 (pathR s).2.1])) := by
  have hw : ACalls seat 11 [.str s] [] (fun r h' => (∃ v v', r = .ret v ∧ Weak v v' ∧ (AEnd.ret v' = .ret (.tup [cmdV (pathR s).1, .int .i64 (if (pathR s).2.1 = 0 then -1 else ((pathR s).2.2 : Nat)), .int .i64 (pathR s).2.1]))) ∨ (∃ v, r = .pan v ∧ (r = .ret (.tup [cmdV (pathR s).1, .int .i64 (if (pathR s).2.1 = 0 then -1 else ((pathR s).2.2 : Nat)), .int .i64 (pathR s).2.1])))) := by
    refine ACalls.bodyS seat_ok Tryd.func11 rfl rfl ?_
    have g : ¬ ((s.length : Int) > 65536) := by omega
    refine Sat.splitAt seat_ok (fun t h => t = (.str s::uu::uu::uu::uu::.ptr 0 0::uu::uu::uu::uu::uu::uu::uu::uu::uu::uu::uu::uu::uu::uu::[]) ∧ h = [.var [.nils] 23]) 3 ?_ ?_
    · conv => whnf
      repeat' (first | exact ⟨_, keepT_weak (maskOf 20 [0, 5]) _, rfl, rfl⟩ | ((first | refine zq1 (by omega) ?_ | refine zq2 (by omega) ?_ | refine NumH.rem (by omega) ?_ | refine zq4 (by omega) ?_ | refine zq5 (by omega) ?_ | refine zq6 ?_ | refine Req.mk (by omega) ?_ | refine Req.mk (by dsimp only; omega) ?_ | refine Req.mk (show pendP _ _ by repeat' constructor) ?_ | (with_reducible first | refine brT (by assumption) ?_ | refine brF (by assumption) ?_ | refine brDT (by omega) ?_ | refine brDF (by omega) ?_ | refine brET (by omega) ?_ | refine brEF (by omega) ?_ | refine brNET (by omega) ?_ | refine brNEF (by omega) ?_ | refine brNot ?_)); conv => whnf))
    rintro _ _ ⟨rfl, rfl⟩
    refine Sat.nilTokH 0 0 38 2 rfl rfl ?_
    refine codeR_sound seat_ok _ _ _ _ ?_
    obtain ⟨⟨G, e, q⟩, hG⟩ : ∃ R, pathR s = R := ⟨_, rfl⟩
    rw [hG]
    have cw := c_walkP s hl G e q hG
    conv => whnf
    refine ⟨cw.mono ?_⟩
    rintro _ _ ⟨rfl, r, rfl⟩
    conv => whnf
    exact .inl ⟨_, _, rfl, Weak.tup (.cons Weak.tok (WeakL.refl _)), rfl⟩
  exact ACalls.weakR hw
end Go.Proofs.YtjpaapkdbohgeaaDoor
namespace Go.Proofs.YtjpaapkdbohgeaaDoor
open Go.Abs
end Go.Proofs.YtjpaapkdbohgeaaDoor
namespace Go.Proofs.YtjpaapkdbohgeaaDoor
open Go.Abs
end Go.Proofs.YtjpaapkdbohgeaaDoor
namespace Go.Proofs.YtjpaapkdbohgeaaDoor
open Go.Abs
end Go.Proofs.YtjpaapkdbohgeaaDoor
namespace Go.Proofs.YtjpaapkdbohgeaaDoor
open Go.Abs
end Go.Proofs.YtjpaapkdbohgeaaDoor
namespace Go.Proofs.YtjpaapkdbohgeaaDoor
open Go.Abs
def ex1 : List UInt8 := [77, 49, 32, 50, 32, 51, 32, 52, 122]
def ex2 : List UInt8 := [77, 49, 32, 50, 44, 76, 51, 32, 52]
theorem n11 : numR ex1 1 true = (65536, 0, 2) := numR_dig (d := 49) rfl (by decide) (by rfl)
theorem n13 : numR ex1 3 true = (131072, 0, 4) := numR_dig (d := 50) rfl (by decide) (by rfl)
theorem n15 : numR ex1 5 true = (196608, 0, 6) := numR_dig (d := 51) rfl (by decide) (by rfl)
theorem n17 : numR ex1 7 true = (262144, 0, 8) := numR_dig (d := 52) rfl (by decide) (by rfl)
theorem n21 : numR ex2 1 true = (65536, 0, 2) := numR_dig (d := 49) rfl (by decide) (by rfl)
theorem n23 : numR ex2 3 true = (131072, 0, 4) := numR_dig (d := 50) rfl (by decide) (by rfl)
theorem n25 : numR ex2 5 true = (0, 3, 5) := numR_none (by rfl)
theorem argR_n (s : List UInt8) (p : Nat) : argR s 110 p = numR s p true := if_neg (by decide)
theorem grp_two (s : List UInt8) (p p1 q1 q2 : Nat) (v1 v2 : Int) (h1 : numR s p true = (v1, 0, q1)) (hg : q1 + gapN (s.drop q1) = p1) (h2 : numR s p1 true = (v2, 0, q2)) : grpR s [110, 110] 0 p [] = ([v1, v2], 0, q2) := by
  have nk : ∀ P : Prop, ¬ ((110 : UInt8) = 103 ∧ P) := fun P h => absurd h.1 (by decide)
  have n0 : ¬ ((0 : Int) ≠ 0) := by decide
  rw [grpR]
  simp only [Nat.lt_irrefl, if_false, argR_n, h1]
  rw [if_neg (nk _), if_neg n0, grpR]
  simp only [Nat.lt_add_one, if_true, argR_n, hg, h2]
  rw [if_neg (nk _), if_neg n0, grpR]
  rfl
theorem g11 : grpR ex1 [110, 110] 0 1 [] = ([65536, 131072], 0, 4) := grp_two ex1 1 3 2 4 _ _ n11 rfl n13
theorem g15 : grpR ex1 [110, 110] 0 5 [] = ([196608, 262144], 0, 8) := grp_two ex1 5 7 6 8 _ _ n15 rfl n17
theorem g21 : grpR ex2 [110, 110] 0 1 [] = ([65536, 131072], 0, 4) := grp_two ex2 1 3 2 4 _ _ n21 rfl n23
theorem g25 : grpR ex2 [110, 110] 0 5 [] = ([], 3, 5) := by
  rw [grpR]
  simp only [Nat.lt_irrefl, if_false, argR_n, n25]
  rw [if_neg (by decide), if_pos (by decide)]
theorem r1 (n : Nat) : runR ex1 [110, 110] (n + 2) 77 1 = ([(77, [65536, 131072]), (76, [196608, 262144])], 0, 8) := by
  have m1 : moreR ex1 (([110, 110] : List UInt8).head? == some 110) 4 = (true, 5) := by rfl
  have m2 : moreR ex1 (([110, 110] : List UInt8).head? == some 110) 8 = (false, 8) := by rfl
  rw [runR]
  simp only [g11, m1]
  rw [if_neg (by decide), if_pos trivial, show nextC 77 = 76 from rfl, runR]
  simp only [g15, m2]
  rw [if_neg (by decide), if_neg (by decide)]
theorem p1 : pathR ex1 = ([(77, [65536, 131072]), (76, [196608, 262144]), (122, [])], 0, 9) := by
  unfold pathR
  rw [show ex1.length + 1 = 7 + 1 + 1 + 1 from rfl, show blk ex1 = 0 from rfl, walkR]
  rw [show ex1[0]? = some 77 from rfl]
  simp only
  rw [show ofN (77 : UInt8).toNat = some (77, [110, 110]) from rfl]
  simp only
  rw [if_neg (by decide), if_neg (by decide), show 0 + 1 + blk (ex1.drop (0 + 1)) = 1 from rfl, show ex1.length + 1 = 8 + 2 from rfl, r1]
  simp only
  rw [if_neg (by decide), walkR, show ex1[8]? = some 122 from rfl]
  simp only
  rw [show ofN (122 : UInt8).toNat = some (90, []) from rfl]
  simp only
  rw [if_neg (by decide), if_pos trivial, walkR, show ex1[8 + 1 + blk (ex1.drop (8 + 1))]? = none from rfl]
  rfl
theorem r2 (n : Nat) : runR ex2 [110, 110] (n + 2) 77 1 = ([(77, [65536, 131072])], 3, 5) := by
  have m1 : moreR ex2 (([110, 110] : List UInt8).head? == some 110) 4 = (true, 5) := by rfl
  rw [runR]
  simp only [g21, m1]
  rw [if_neg (by decide), if_pos trivial, runR]
  simp only [g25]
  rw [if_pos (by decide)]
theorem p2 : pathR ex2 = ([(77, [65536, 131072])], 3, 5) := by
  unfold pathR
  rw [show ex2.length + 1 = 8 + 1 + 1 from rfl, show blk ex2 = 0 from rfl, walkR]
  rw [show ex2[0]? = some 77 from rfl]
  simp only
  rw [show ofN (77 : UInt8).toNat = some (77, [110, 110]) from rfl]
  simp only
  rw [if_neg (by decide), if_neg (by decide), show 0 + 1 + blk (ex2.drop (0 + 1)) = 1 from rfl, show ex2.length + 1 = 8 + 2 from rfl, r2]
  simp only
  rw [if_pos (by decide)]
end Go.Proofs.YtjpaapkdbohgeaaDoor
namespace Go.Proofs.YtjpaapkdbohgeaaDoor
open Go.Abs
theorem parse_ex {s G e q} (hl : s.length ≤ 400) (h : pathR s = (G, e, q)) : ACalls seat 11 [.str s] [] (fun x _ => x = .ret (.tup [cmdV G, .int .i64 (if e = 0 then -1 else (q : Nat)), .int .i64 e])) := by
  have := c_parse s hl; rw [h] at this; exact this
set_option maxRecDepth 20000 in
theorem c_wakes : ACalls seat 10 [] [] (fun x _ => x = .ret (.bool true)) := by
  have w1 := parse_ex (by decide) p1
  have w2 := parse_ex (by decide) p2
  rw [if_pos rfl] at w1
  rw [if_neg (by decide)] at w2
  unfold cmdV ex1 at w1
  unfold cmdV ex2 at w2
  refine ACalls.body seat_ok Tryd.func10 rfl rfl ?_
  conv => whnf
  refine CallH.lift seat_g w1 (by simp [Closed, ClosedL]) (by simp [Closed, ClosedL, cmd_closed]) ?_
  conv => whnf
  refine CallH.lift seat_g w2 (by simp [Closed, ClosedL]) (by simp [Closed, ClosedL, cmd_closed]) ?_
  have hld : sub (cs cmdC [(77, [65536, 131072]), (76, [196608, 262144]), (122, [])]) (Int.toNat 1 * 2) 2 = some [.int .u8 76, lv [196608, 262144]] := by rfl
  conv => whnf
  repeat' (first | exact rfl | (refine ldI _ hld ?_; conv => whnf) | (refine Req.mk (by decide) ?_; conv => whnf) | ((first | refine zq1 (by omega) ?_ | refine zq2 (by omega) ?_ | refine NumH.rem (by omega) ?_ | refine zq4 (by omega) ?_ | refine zq5 (by omega) ?_ | refine zq6 ?_ | refine Req.mk (by omega) ?_ | refine Req.mk (by dsimp only; omega) ?_ | refine Req.mk (show pendP _ _ by repeat' constructor) ?_ | (with_reducible first | refine brT (by assumption) ?_ | refine brF (by assumption) ?_ | refine brDT (by omega) ?_ | refine brDF (by omega) ?_ | refine brET (by omega) ?_ | refine brEF (by omega) ?_ | refine brNET (by omega) ?_ | refine brNEF (by omega) ?_ | refine brNot ?_)); conv => whnf))
end Go.Proofs.YtjpaapkdbohgeaaDoor
namespace Go.Proofs.YtjpaapkdbohgeaaDoor
open Go.Abs
theorem c_all (s : List UInt8) : ACalls seat 30 [.str s] [] (fun x _ => x = .ret (.fn 49 [] [.iptr [.str s]])) := by
  have h : ACalls seat 30 [.str s] [] (fun x h' => x = .ret (.fn 49 [] [.ptr 0 0]) ∧ h' = [.var [.str s] 9]) := by
    refine ACalls.body seat_ok Tryd.func30 rfl rfl ?_
    conv => whnf
    exact ⟨rfl, rfl⟩
  exact (h.seal 0 rfl (SealV.fn (SealL.refl []) (SealL.setAt 0 rfl SealV.ptr))).mono fun _ _ h => h.1
theorem told_takeG {P L : List (UInt8 × List Int)} {L0 R : List (UInt8 × List Int)} {e : AExit} {seen : List (List AV)} {most : Nat} (hP : P = L0 ++ R) (hs0 : seen = toldG L0) (hst : stopOf e = false → R = []) (hL : L.length ≤ most) (h : (e = .normal ∧ seen = toldG L) ∨ (e = .exit 0 ∧ L.length = most ∧ ∃ x, seen = toldG (L ++ [x]))) : P.take most = L := by
  subst hs0
  rcases h with ⟨rfl, h⟩ | ⟨rfl, hl, x, h⟩
  · obtain rfl := toldG_inj h
    obtain rfl := hst rfl
    rw [hP, List.append_nil, List.take_of_length_le hL]
  · obtain rfl := toldG_inj h
    rw [hP, ← hl, List.append_assoc, List.take_left]
def toldH (most : Nat) (L : List (UInt8 × List Int)) : Heap := [.var [.int .i64 most] 3, .var [.vec (cs cmdC L) L.length (some 2)] 23, .tok L.length 38 2]
def toldI (most : Nat) (seen : List (List AV)) (e : AExit) (h : Heap) : Prop := ∃ L : List (UInt8 × List Int), h = toldH most L ∧ L.length ≤ most ∧
      ((e = .normal ∧ seen = toldG L) ∨ (e = .exit 0 ∧ L.length = most ∧ ∃ x, seen = toldG (L ++ [x])))
theorem toldH_ids (most : Nat) (L : List (UInt8 × List Int)) : IdsH (· < 3) (toldH most L) := by simp [toldH, IdsH, IdsC, IdsL, Ids, cmd_ids]
set_option maxRecDepth 20000 in
theorem c_toldP (s : List UInt8) (G : List (UInt8 × List Int)) (c2 : ACalls seat 49 [.cb 0, .iptr [.str s]] [.cb (accG G) [] false] (fun x h => (∃ v, x = .ret v) ∧ ∃ seen st, h[0]? = some (.cb (accG G) seen st) ∧ finG G seen st)) (most : Nat) (hm : most ≤ 1000000) : ACalls seat 14 [.str s, .int .i64 most] [] (fun x _ => x = .ret (cmdV (G.take most))) := by
  refine ACalls.weakR ?_
  refine ACalls.body seat_ok Tryd.func14 rfl rfl ?_
  have c1 := c_all s
  conv => whnf
  repeat' (first | (refine CallH.lift seat_g c1 (by simp [Closed, ClosedL]) (by simp [Closed, ClosedL]) ?_; conv => whnf) | ((first | refine zq1 (by omega) ?_ | refine zq2 (by omega) ?_ | refine NumH.rem (by omega) ?_ | refine zq4 (by omega) ?_ | refine zq5 (by omega) ?_ | refine zq6 ?_ | refine Req.mk (by omega) ?_ | refine Req.mk (by dsimp only; omega) ?_ | refine Req.mk (show pendP _ _ by repeat' constructor) ?_ | (with_reducible first | refine brT (by assumption) ?_ | refine brF (by assumption) ?_ | refine brDT (by omega) ?_ | refine brDF (by omega) ?_ | refine brET (by omega) ?_ | refine brEF (by omega) ?_ | refine brNET (by omega) ?_ | refine brNEF (by omega) ?_ | refine brNot ?_)); conv => whnf))
  refine Sat.nilTokH 1 0 38 2 rfl rfl ?_
  refine Sat.range seat_ok seat_g (f := 49) (first := []) (caps := [.iptr [.str s]]) rfl trivial (by simp [Closed, ClosedL]) rfl rfl rfl (accG G)
    (toldI most) (finG G) c2 ⟨[], rfl, by simp, .inl ⟨rfl, rfl⟩⟩ ?_ ?_
  · rintro seen args h1 ⟨L0, x, R, hP, hs0, rfl⟩ ⟨L, rfl, hL, ⟨-, rfl⟩ | ⟨he, -⟩⟩
    rotate_left
    · cases he
    obtain rfl := toldG_inj hs0
    refine ⟨rfl, codeR_sound seat_ok _ _ _ _ ?_⟩
    have hlen := cmd_length L
    by_cases g : L.length < most
    · conv => whnf
      refine ⟨rfl, codeR_sound seat_ok _ _ _ _ ?_⟩
      conv => whnf
      repeat' (first | (refine Req.mk ⟨rfl, rfl, rfl, hlen, rfl, by simp [okCell, lv, ofCell, cmdC], by dsimp only; omega, by omega, by decide⟩ ?_; conv => whnf) | ((first | refine zq1 (by omega) ?_ | refine zq2 (by omega) ?_ | refine NumH.rem (by omega) ?_ | refine zq4 (by omega) ?_ | refine zq5 (by omega) ?_ | refine zq6 ?_ | refine Req.mk (by omega) ?_ | refine Req.mk (by dsimp only; omega) ?_ | refine Req.mk (show pendP _ _ by repeat' constructor) ?_ | (with_reducible first | refine brT (by assumption) ?_ | refine brF (by assumption) ?_ | refine brDT (by omega) ?_ | refine brDF (by omega) ?_ | refine brET (by omega) ?_ | refine brEF (by omega) ?_ | refine brNET (by omega) ?_ | refine brNEF (by omega) ?_ | refine brNot ?_)); conv => whnf))
      refine roundEnd (toldH most (L ++ [x])) ?_ ⟨L ++ [x], rfl, by simp; omega, .inl ⟨rfl, toldG_snoc L x⟩⟩ (toldH_ids _ _)
      unfold toldH; rw [cmd_snoc, show (L ++ [x]).length = L.length + 1 by simp]; rfl
    · conv => whnf
      refine ⟨rfl, codeR_sound seat_ok _ _ _ _ ?_⟩
      conv => whnf
      repeat' ((first | refine zq1 (by omega) ?_ | refine zq2 (by omega) ?_ | refine NumH.rem (by omega) ?_ | refine zq4 (by omega) ?_ | refine zq5 (by omega) ?_ | refine zq6 ?_ | refine Req.mk (by omega) ?_ | refine Req.mk (by dsimp only; omega) ?_ | refine Req.mk (show pendP _ _ by repeat' constructor) ?_ | (with_reducible first | refine brT (by assumption) ?_ | refine brF (by assumption) ?_ | refine brDT (by omega) ?_ | refine brDF (by omega) ?_ | refine brET (by omega) ?_ | refine brEF (by omega) ?_ | refine brNET (by omega) ?_ | refine brNEF (by omega) ?_ | refine brNot ?_)); conv => whnf)
      exact roundEnd (toldH most L) rfl ⟨L, rfl, hL, .inr ⟨rfl, by omega, x, toldG_snoc L x⟩⟩ (toldH_ids _ _)
  · rintro seen e h1 ⟨L0, R, hP, hs0, hst⟩ ⟨L, rfl, hL, h⟩
    have hr : G.take most = L := told_takeG hP hs0 hst hL h
    rw [hr]
    rcases h with ⟨rfl, -⟩ | ⟨rfl, -⟩
    · conv => whnf
      exact .inl ⟨_, _, rfl, Weak.tok, rfl⟩
    · conv => whnf
      exact .inl ⟨_, _, rfl, Weak.tok, rfl⟩
end Go.Proofs.YtjpaapkdbohgeaaDoor
namespace Go.Proofs.YtjpaapkdbohgeaaDoor
open Go.Abs
theorem c_parseL (s : List UInt8) (h : 65536 < s.length) (hl : s.length ≤ 1000000) : ACalls seat 11 [.str s] [] (fun x _ => x = .ret (.tup [.nils, .int .i64 (-1), .int .i64 4])) := by
  refine ACalls.body seat_ok Tryd.func11 rfl rfl ?_
  have g : (s.length : Int) > 65536 := by omega
  conv => whnf
  repeat' ((first | refine zq1 (by omega) ?_ | refine zq2 (by omega) ?_ | refine NumH.rem (by omega) ?_ | refine zq4 (by omega) ?_ | refine zq5 (by omega) ?_ | refine zq6 ?_ | refine Req.mk (by omega) ?_ | refine Req.mk (by dsimp only; omega) ?_ | refine Req.mk (show pendP _ _ by repeat' constructor) ?_ | (with_reducible first | refine brT (by assumption) ?_ | refine brF (by assumption) ?_ | refine brDT (by omega) ?_ | refine brDF (by omega) ?_ | refine brET (by omega) ?_ | refine brEF (by omega) ?_ | refine brNET (by omega) ?_ | refine brNEF (by omega) ?_ | refine brNot ?_)); conv => whnf)
  rfl
theorem c_allL (s : List UInt8) (h : 65536 < s.length) (hl : s.length ≤ 1000000) :
    ACalls seat 49 [.cb 0, .iptr [.str s]] [.cb (accG []) [] false] (fun x h => (∃ v, x = .ret v) ∧ ∃ seen st, h[0]? = some (.cb (accG []) seen st) ∧ finG [] seen st) := by
  refine ACalls.body seat_ok Tryd.func49 rfl rfl ?_
  have g : ¬ ((s.length : Int) ≤ 65536) := by omega
  conv => whnf
  repeat' ((first | refine zq1 (by omega) ?_ | refine zq2 (by omega) ?_ | refine NumH.rem (by omega) ?_ | refine zq4 (by omega) ?_ | refine zq5 (by omega) ?_ | refine zq6 ?_ | refine Req.mk (by omega) ?_ | refine Req.mk (by dsimp only; omega) ?_ | refine Req.mk (show pendP _ _ by repeat' constructor) ?_ | (with_reducible first | refine brT (by assumption) ?_ | refine brF (by assumption) ?_ | refine brDT (by omega) ?_ | refine brDF (by omega) ?_ | refine brET (by omega) ?_ | refine brEF (by omega) ?_ | refine brNET (by omega) ?_ | refine brNEF (by omega) ?_ | refine brNot ?_)); conv => whnf)
  exact ⟨⟨_, rfl⟩, [], false, rfl, [], [], rfl, rfl, fun _ => rfl⟩
theorem rep_one (x : AV) : ∀ n, repL n [x] = List.replicate n x
  | 0 => rfl
  | n + 1 => by rw [repL, rep_one x n]; rfl
theorem rep_set (n i : Nat) (x y : AV) (h : i < n) : (List.replicate i x ++ List.replicate (n - i) y).set i x = List.replicate (i + 1) x ++ List.replicate (n - (i + 1)) y := by
  rw [List.set_append_right _ _ (by simp), List.length_replicate, Nat.sub_self, show n - i = n - (i + 1) + 1 by omega, List.replicate_succ, List.set_cons_zero, List.replicate_succ', List.append_assoc]
  rfl
theorem rep_bytes (c : Int) : ∀ n, bytesK n (List.replicate n (.int .u8 c)) = some (List.replicate n (UInt8.ofNat c.toNat))
  | 0 => rfl
  | n + 1 => by
    rw [List.replicate_succ, bytesK, rep_bytes c n]
    rfl
theorem rep_ids (p : Nat → Prop) (i j : Nat) (a b : Int) : IdsL p (List.replicate i (AV.int .u8 a) ++ List.replicate j (AV.int .u8 b)) := by
  refine ClosedL.ids _ (ClosedL_iff.2 fun c hc => ?_)
  rcases List.mem_append.1 hc with h | h
  · rw [List.eq_of_mem_replicate h]; simp [Closed]
  · rw [List.eq_of_mem_replicate h]; simp [Closed]
set_option maxRecDepth 20000 in
theorem l_pathLong (m : Nat) (c : Int) (hm : m < 256) (hc : 0 ≤ c ∧ c < 256) : ACalls seat 6 [.int .u8 m, .int .u8 c] [] (fun x _ => x = .ret (.bool true)) := by
  refine ACalls.body seat_ok Tryd.func6 rfl rfl ?_
  obtain ⟨n, hn⟩ : ∃ n : Nat, (65537 + (m : Int)) = n := ⟨65537 + m, by omega⟩
  have hw : IntKind.i64.wrap (65537 + (m : Int)) = n := by rw [wrap_i64 (by omega) (by omega)]; exact hn
  have hnb : 65537 ≤ n ∧ n ≤ 100000 := by omega
  clear hn
  conv => whnf
  refine CallH.lift seat_g c_wakes trivial (by simp [Closed]) ?_
  conv => whnf
  repeat' (first | (refine WrapH.is (n : Int) hw ?_; conv => whnf) | (refine Req.mk ⟨by omega, Int.le_refl _, by omega, by dsimp only; omega⟩ ?_; conv => whnf) | ((first | refine zq1 (by omega) ?_ | refine zq2 (by omega) ?_ | refine NumH.rem (by omega) ?_ | refine zq4 (by omega) ?_ | refine zq5 (by omega) ?_ | refine zq6 ?_ | refine Req.mk (by omega) ?_ | refine Req.mk (by dsimp only; omega) ?_ | refine Req.mk (show pendP _ _ by repeat' constructor) ?_ | (with_reducible first | refine brT (by assumption) ?_ | refine brF (by assumption) ?_ | refine brDT (by omega) ?_ | refine brDF (by omega) ?_ | refine brET (by omega) ?_ | refine brEF (by omega) ?_ | refine brNET (by omega) ?_ | refine brNEF (by omega) ?_ | refine brNot ?_)); conv => whnf))
  clear hw
  refine Sat.cut (fun x t h => x = .exit 0 ∧ t = (uu::uu::uu::uu::uu::.row 0 0 n n::uu::uu::uu::uu::uu::uu::uu::uu::uu::uu::uu::uu::uu::uu::uu::uu::uu::uu::uu::uu::uu::uu::uu::uu::uu::uu::uu::uu::uu::uu::uu::uu::uu::uu::uu::uu::uu::uu::uu::uu::uu::uu::uu::uu::uu::[]) ∧ h = [.var (List.replicate n (.int .u8 c)) 5]) ?_ ?_
  · refine Sat.invP seat_ok seat_g (maskOf 51 [1, 5, 17, 18]) 1 (fun μ t h => ∃ i : Nat, i ≤ n ∧ μ = n - i ∧ t = (uu::.int .u8 c::uu::uu::uu::.row 0 0 n n::uu::uu::uu::uu::uu::uu::uu::uu::uu::uu::uu::.int .i64 n::.int .i64 i::uu::uu::uu::uu::uu::uu::uu::uu::uu::uu::uu::uu::uu::uu::uu::uu::uu::uu::uu::uu::uu::uu::uu::uu::uu::uu::uu::uu::uu::uu::uu::uu::[]) ∧
      h = [.var (List.replicate i (.int .u8 c) ++ List.replicate (n - i) (.int .u8 0)) 5]) ?_ ⟨n, _, WeakL.of_eq rfl, 0, Nat.zero_le _, rfl, rfl, ?_⟩ ?_
    · rintro _ _ _ ⟨i, -, -, rfl, rfl⟩
      exact ⟨rfl, (by simp [IdsL, Ids, IdsH, IdsC, lv_ids, ci_ids]), by simp [IdsH, IdsC, rep_ids]⟩
    · exact congrArg (fun x => [Chunk.var x _]) (rep_one _ n)
    rintro _ _ _ ⟨i, hi, rfl, rfl, rfl⟩
    by_cases g : i < n
    · have hset := rep_set n i (.int .u8 c) (.int .u8 0) g
      have hcl : (List.replicate i (AV.int .u8 c) ++ List.replicate (n - i) (AV.int .u8 0)).length = n := by simp; omega
      generalize List.replicate i (AV.int .u8 c) ++ List.replicate (n - i) (AV.int .u8 0) = CS at *
      conv => whnf
      repeat' (first | exact ⟨_, _, Nat.sub_lt_sub_left g (Nat.lt_succ_self i), WeakL.of_eq rfl, i + 1, g, rfl, rfl, rfl⟩ | (refine storeK.mk (List.replicate (i + 1) (AV.int .u8 c) ++ List.replicate (n - (i + 1)) (AV.int .u8 0)) (by rw [← hset]; simp [splice, cellsOf]) rfl (by rw [hcl]; simp [cellsOf]; omega) rfl ?_; conv => whnf) | ((first | refine zq1 (by omega) ?_ | refine zq2 (by omega) ?_ | refine NumH.rem (by omega) ?_ | refine zq4 (by omega) ?_ | refine zq5 (by omega) ?_ | refine zq6 ?_ | refine Req.mk (by omega) ?_ | refine Req.mk (by dsimp only; omega) ?_ | refine Req.mk (show pendP _ _ by repeat' constructor) ?_ | (with_reducible first | refine brT (by assumption) ?_ | refine brF (by assumption) ?_ | refine brDT (by omega) ?_ | refine brDF (by omega) ?_ | refine brET (by omega) ?_ | refine brEF (by omega) ?_ | refine brNET (by omega) ?_ | refine brNEF (by omega) ?_ | refine brNot ?_)); conv => whnf))
    · obtain rfl : i = n := by omega
      conv => whnf
      repeat' (first | exact ⟨_, keepT_weak (maskOf 51 [5]) _, rfl, rfl, by simp⟩ | ((first | refine zq1 (by omega) ?_ | refine zq2 (by omega) ?_ | refine NumH.rem (by omega) ?_ | refine zq4 (by omega) ?_ | refine zq5 (by omega) ?_ | refine zq6 ?_ | refine Req.mk (by omega) ?_ | refine Req.mk (by dsimp only; omega) ?_ | refine Req.mk (show pendP _ _ by repeat' constructor) ?_ | (with_reducible first | refine brT (by assumption) ?_ | refine brF (by assumption) ?_ | refine brDT (by omega) ?_ | refine brDF (by omega) ?_ | refine brET (by omega) ?_ | refine brEF (by omega) ?_ | refine brNET (by omega) ?_ | refine brNEF (by omega) ?_ | refine brNot ?_)); conv => whnf))
  · rintro _ _ _ ⟨rfl, rfl, rfl⟩
    have hb : bytesK n (((List.replicate n (AV.int .u8 c)).drop 0).take n) = some (List.replicate n (UInt8.ofNat c.toNat)) := by
      rw [List.drop_zero, List.take_of_length_le (by simp)]; exact rep_bytes c n
    have hS : 65536 < (List.replicate n (UInt8.ofNat c.toNat)).length ∧ (List.replicate n (UInt8.ofNat c.toNat)).length ≤ 1000000 := by rw [List.length_replicate]; omega
    generalize List.replicate n (UInt8.ofNat c.toNat) = s at *
    generalize List.replicate n (AV.int .u8 c) = CS at *
    have c1 := c_parseL s hS.1 hS.2
    have c2 := c_toldP s [] (c_allL s hS.1 hS.2) 3 (by decide)
    unfold cmdV at c2
    conv => whnf
    repeat' (first | exact rfl | (refine ldI _ hb ?_; conv => whnf) | (refine CallH.lift seat_g c1 (by simp [Closed, ClosedL]) (by simp [Closed, ClosedL]) ?_; conv => whnf) | (refine CallH.lift seat_g c2 (by simp [Closed, ClosedL]) (by simp [Closed, ClosedL, cmd_closed]) ?_; conv => whnf) | ((first | refine zq1 (by omega) ?_ | refine zq2 (by omega) ?_ | refine NumH.rem (by omega) ?_ | refine zq4 (by omega) ?_ | refine zq5 (by omega) ?_ | refine zq6 ?_ | refine Req.mk (by omega) ?_ | refine Req.mk (by dsimp only; omega) ?_ | refine Req.mk (show pendP _ _ by repeat' constructor) ?_ | (with_reducible first | refine brT (by assumption) ?_ | refine brF (by assumption) ?_ | refine brDT (by omega) ?_ | refine brDF (by omega) ?_ | refine brET (by omega) ?_ | refine brEF (by omega) ?_ | refine brNET (by omega) ?_ | refine brNEF (by omega) ?_ | refine brNot ?_)); conv => whnf))
theorem l_pathLong' (m c : Int) (h : (Lit.int .u8 m).wf = true) (h2 : (Lit.int .u8 c).wf = true) : ACalls seat 6 [.int .u8 m, .int .u8 c] [] (fun x _ => x = .ret (.bool true)) := by
  have e1 : 0 ≤ m ∧ m ≤ 255 := by simpa [Lit.wf, IntKind.min, IntKind.max, IntKind.signed, IntKind.bits] using h
  have e2 : 0 ≤ c ∧ c ≤ 255 := by simpa [Lit.wf, IntKind.min, IntKind.max, IntKind.signed, IntKind.bits] using h2
  obtain ⟨k, rfl⟩ : ∃ k : Nat, m = k := ⟨m.toNat, by omega⟩
  exact l_pathLong k c (by omega) (by omega)
end Go.Proofs.YtjpaapkdbohgeaaDoor
