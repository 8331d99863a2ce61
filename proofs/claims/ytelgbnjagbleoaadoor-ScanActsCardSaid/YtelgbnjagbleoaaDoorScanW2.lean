/- The reader's look, skip, blanks and flag: the walk. Conditions: the text's length, the place in it. -/
import Derived.Test.YtelgbnjagbleoaaDoorScanW1
set_option linter.unusedSimpArgs false
set_option linter.unusedVariables false
set_option linter.deprecated false
namespace Go.Proofs.YtelgbnjagbleoaaDoor
open Go.Abs
/-- a reader at a place -/
def rdr (s : List UInt8) (p : Nat) : List AV := [.str s, .int .i64 p]
theorem rdr_closed (s : List UInt8) (p : Nat) : ClosedL (rdr s p) := by simp [rdr, Closed, ClosedL]
theorem c_at (s : List UInt8) (p : Nat) : ACalls seat 14 [.ptr 0 0] [.var (rdr s p) 51] (fun x h => x = .ret (.int .i64 p) ∧ h = [.var (rdr s p) 51]) := by
  refine ACalls.body seat_ok Tryd.func14 rfl rfl ?_
  unfold rdr
  conv => whnf
  exact ⟨rfl, rfl⟩
theorem c_left (s : List UInt8) (p : Nat) (hl : s.length ≤ 900000) (hp : p ≤ s.length) : ACalls seat 12 [.ptr 0 0] [.var (rdr s p) 51] (fun x h => x = .ret (.int .i64 ((s.length : Int) - p)) ∧ h = [.var (rdr s p) 51]) := by
  refine ACalls.body seat_ok Tryd.func12 rfl rfl ?_
  unfold rdr
  conv => whnf
  refine DrawH.plan seat_ok (.take 0 (.take 1 (.take 2 (.take 3 (.take 4 (.take 5 (.take 6 (.take 7 (.take 8 (.take 9 (.take 10 Plan.done))))))))))) 0 (by kernel_rfl) ?_
  conv => whnf
  repeat' (first | exact ⟨rfl, rfl⟩ | ((first | refine zq1 (by omega) ?_ | refine zq2 (by omega) ?_ | refine NumH.rem (by omega) ?_ | refine zq4 (by omega) ?_ | refine zq5 (by omega) ?_ | refine zq6 ?_ | refine Req.mk (by omega) ?_ | refine Req.mk (by dsimp only; omega) ?_ | refine Req.mk ⟨rfl, rfl, rfl, by simp [ci_length, *], rfl, by simp [okCell], by dsimp only; omega, by omega, by decide⟩ ?_ | refine Req.mk (show pendP _ _ by repeat' constructor) ?_ | (with_reducible refine brT ?_ ?_; next => assumption) | (with_reducible refine brF ?_ ?_; next => assumption) | (with_reducible refine brDT ?_ ?_; next => omega) | (with_reducible refine brDF ?_ ?_; next => omega) | (with_reducible refine brET ?_ ?_; next => omega) | (with_reducible refine brEF ?_ ?_; next => omega) | (with_reducible refine brNET ?_ ?_; next => omega) | (with_reducible refine brNEF ?_ ?_; next => omega) | with_reducible refine brNot ?_); conv => whnf))
theorem c_peekS (s : List UInt8) (p : Nat) (b : UInt8) (hb : s[p]? = some b) (hl : s.length ≤ 900000) : ACalls seat 13 [.ptr 0 0] [.var (rdr s p) 51] (fun x h => x = .ret (.tup [.int .u8 b.toNat, .bool true]) ∧ h = [.var (rdr s p) 51]) := by
  have hp : p < s.length := (List.getElem?_eq_some_iff.1 hb).1
  have cl := c_left s p hl (by omega)
  have eb : (s[(p : Int).toNat]?) = some b := hb
  refine ACalls.body seat_ok Tryd.func13 rfl rfl ?_
  have g : (s.length : Int) - p ≠ 0 := by omega
  unfold rdr at *
  conv => whnf
  refine CallH.mem1 seat_g 0 cl rfl (by simp [Closed, ClosedL]) (by simp [Closed, ClosedL]) (by simp [Closed, ClosedL]) rfl ?_
  conv => whnf
  repeat' ((first | refine zq1 (by omega) ?_ | refine zq2 (by omega) ?_ | refine NumH.rem (by omega) ?_ | refine zq4 (by omega) ?_ | refine zq5 (by omega) ?_ | refine zq6 ?_ | refine Req.mk (by omega) ?_ | refine Req.mk (by dsimp only; omega) ?_ | refine Req.mk ⟨rfl, rfl, rfl, by simp [ci_length, *], rfl, by simp [okCell], by dsimp only; omega, by omega, by decide⟩ ?_ | refine Req.mk (show pendP _ _ by repeat' constructor) ?_ | (with_reducible refine brT ?_ ?_; next => assumption) | (with_reducible refine brF ?_ ?_; next => assumption) | (with_reducible refine brDT ?_ ?_; next => omega) | (with_reducible refine brDF ?_ ?_; next => omega) | (with_reducible refine brET ?_ ?_; next => omega) | (with_reducible refine brEF ?_ ?_; next => omega) | (with_reducible refine brNET ?_ ?_; next => omega) | (with_reducible refine brNEF ?_ ?_; next => omega) | with_reducible refine brNot ?_); conv => whnf)
  refine DrawH.plan seat_ok (.take 0 (.take 1 (.take 2 (.take 3 (.take 4 (.take 5 (.take 6 (.take 7 (.take 8 (.take 9 (.take 10 Plan.done))))))))))) 0 (by kernel_rfl) ?_
  conv => whnf
  repeat' (first | exact ⟨rfl, rfl⟩ | (refine ldI _ eb ?_; conv => whnf) | ((first | refine zq1 (by omega) ?_ | refine zq2 (by omega) ?_ | refine NumH.rem (by omega) ?_ | refine zq4 (by omega) ?_ | refine zq5 (by omega) ?_ | refine zq6 ?_ | refine Req.mk (by omega) ?_ | refine Req.mk (by dsimp only; omega) ?_ | refine Req.mk ⟨rfl, rfl, rfl, by simp [ci_length, *], rfl, by simp [okCell], by dsimp only; omega, by omega, by decide⟩ ?_ | refine Req.mk (show pendP _ _ by repeat' constructor) ?_ | (with_reducible refine brT ?_ ?_; next => assumption) | (with_reducible refine brF ?_ ?_; next => assumption) | (with_reducible refine brDT ?_ ?_; next => omega) | (with_reducible refine brDF ?_ ?_; next => omega) | (with_reducible refine brET ?_ ?_; next => omega) | (with_reducible refine brEF ?_ ?_; next => omega) | (with_reducible refine brNET ?_ ?_; next => omega) | (with_reducible refine brNEF ?_ ?_; next => omega) | with_reducible refine brNot ?_); conv => whnf))
theorem c_peekN (s : List UInt8) (hl : s.length ≤ 900000) : ACalls seat 13 [.ptr 0 0] [.var (rdr s s.length) 51] (fun x h => x = .ret (.tup [.int .u8 0, .bool false]) ∧ h = [.var (rdr s s.length) 51]) := by
  have cl := c_left s s.length hl (Nat.le_refl _)
  rw [show ((s.length : Nat) : Int) - (s.length : Nat) = 0 by omega] at cl
  refine ACalls.body seat_ok Tryd.func13 rfl rfl ?_
  unfold rdr at *
  conv => whnf
  refine CallH.mem1 seat_g 0 cl rfl (by simp [Closed, ClosedL]) (by simp [Closed, ClosedL]) (by simp [Closed, ClosedL]) rfl ?_
  conv => whnf
  exact ⟨rfl, rfl⟩
theorem c_skip (s : List UInt8) (p : Nat) (hp : p ≤ s.length) (hl : s.length ≤ 900000) : ACalls seat 21 [.ptr 0 0] [.var (rdr s p) 51] (fun x h => x = .ret (.bool (decide (p < s.length))) ∧ h = [.var (rdr s (min (p + 1) s.length)) 51]) := by
  have cl := c_left s p hl hp
  refine ACalls.body seat_ok Tryd.func21 rfl rfl ?_
  by_cases h : p < s.length
  · rw [decide_eq_true h, Nat.min_eq_left h]
    have g : (s.length : Int) - p ≠ 0 := by omega
    unfold rdr at *
    conv => whnf
    refine CallH.mem1 seat_g 0 cl rfl (by simp [Closed, ClosedL]) (by simp [Closed, ClosedL]) (by simp [Closed, ClosedL]) rfl ?_
    conv => whnf
    repeat' (first | exact ⟨rfl, rfl⟩ | ((first | refine zq1 (by omega) ?_ | refine zq2 (by omega) ?_ | refine NumH.rem (by omega) ?_ | refine zq4 (by omega) ?_ | refine zq5 (by omega) ?_ | refine zq6 ?_ | refine Req.mk (by omega) ?_ | refine Req.mk (by dsimp only; omega) ?_ | refine Req.mk ⟨rfl, rfl, rfl, by simp [ci_length, *], rfl, by simp [okCell], by dsimp only; omega, by omega, by decide⟩ ?_ | refine Req.mk (show pendP _ _ by repeat' constructor) ?_ | (with_reducible refine brT ?_ ?_; next => assumption) | (with_reducible refine brF ?_ ?_; next => assumption) | (with_reducible refine brDT ?_ ?_; next => omega) | (with_reducible refine brDF ?_ ?_; next => omega) | (with_reducible refine brET ?_ ?_; next => omega) | (with_reducible refine brEF ?_ ?_; next => omega) | (with_reducible refine brNET ?_ ?_; next => omega) | (with_reducible refine brNEF ?_ ?_; next => omega) | with_reducible refine brNot ?_); conv => whnf))
  · obtain rfl : p = s.length := by omega
    rw [decide_eq_false h, Nat.min_eq_right (by omega)]
    have g : (s.length : Int) - (s.length : Nat) = 0 := by omega
    rw [g] at cl
    unfold rdr at *
    conv => whnf
    refine CallH.mem1 seat_g 0 cl rfl (by simp [Closed, ClosedL]) (by simp [Closed, ClosedL]) (by simp [Closed, ClosedL]) rfl ?_
    conv => whnf
    exact ⟨rfl, rfl⟩
theorem c_flag (s : List UInt8) (p : Nat) (hp : p ≤ s.length) (hl : s.length ≤ 900000) : ACalls seat 20 [.ptr 0 0] [.var (rdr s p) 51] (fun x h => x = .ret (.tup [.int .i64 (flR s p).1, .int .i64 (flR s p).2.1]) ∧ h = [.var (rdr s (flR s p).2.2) 51]) := by
  refine ACalls.body seat_ok Tryd.func20 rfl rfl ?_
  by_cases g : p < s.length
  · obtain ⟨b, hb⟩ : ∃ b, s[p]? = some b := ⟨_, List.getElem?_eq_getElem g⟩
    have cp := c_peekS s p b hb hl
    rw [flR_some hb]
    by_cases h1 : (b.toNat : Int) = 48
    · rw [if_pos (.inl h1)]
      unfold rdr at *
      conv => whnf
      refine CallH.mem1 seat_g 0 cp rfl (by simp [Closed, ClosedL]) (by simp [Closed, ClosedL]) (by simp [Closed, ClosedL]) rfl ?_
      conv => whnf
      repeat' (first | exact ⟨rfl, rfl⟩ | (refine WrapH.is _ (wrap_u8 (by omega) (by omega)) ?_; conv => whnf) | ((first | refine zq1 (by omega) ?_ | refine zq2 (by omega) ?_ | refine NumH.rem (by omega) ?_ | refine zq4 (by omega) ?_ | refine zq5 (by omega) ?_ | refine zq6 ?_ | refine Req.mk (by omega) ?_ | refine Req.mk (by dsimp only; omega) ?_ | refine Req.mk ⟨rfl, rfl, rfl, by simp [ci_length, *], rfl, by simp [okCell], by dsimp only; omega, by omega, by decide⟩ ?_ | refine Req.mk (show pendP _ _ by repeat' constructor) ?_ | (with_reducible refine brT ?_ ?_; next => assumption) | (with_reducible refine brF ?_ ?_; next => assumption) | (with_reducible refine brDT ?_ ?_; next => omega) | (with_reducible refine brDF ?_ ?_; next => omega) | (with_reducible refine brET ?_ ?_; next => omega) | (with_reducible refine brEF ?_ ?_; next => omega) | (with_reducible refine brNET ?_ ?_; next => omega) | (with_reducible refine brNEF ?_ ?_; next => omega) | with_reducible refine brNot ?_); conv => whnf))
    · by_cases h2 : (b.toNat : Int) = 49
      · rw [if_pos (.inr h2)]
        unfold rdr at *
        conv => whnf
        refine CallH.mem1 seat_g 0 cp rfl (by simp [Closed, ClosedL]) (by simp [Closed, ClosedL]) (by simp [Closed, ClosedL]) rfl ?_
        conv => whnf
        repeat' (first | exact ⟨rfl, rfl⟩ | (refine WrapH.is _ (wrap_u8 (by omega) (by omega)) ?_; conv => whnf) | ((first | refine zq1 (by omega) ?_ | refine zq2 (by omega) ?_ | refine NumH.rem (by omega) ?_ | refine zq4 (by omega) ?_ | refine zq5 (by omega) ?_ | refine zq6 ?_ | refine Req.mk (by omega) ?_ | refine Req.mk (by dsimp only; omega) ?_ | refine Req.mk ⟨rfl, rfl, rfl, by simp [ci_length, *], rfl, by simp [okCell], by dsimp only; omega, by omega, by decide⟩ ?_ | refine Req.mk (show pendP _ _ by repeat' constructor) ?_ | (with_reducible refine brT ?_ ?_; next => assumption) | (with_reducible refine brF ?_ ?_; next => assumption) | (with_reducible refine brDT ?_ ?_; next => omega) | (with_reducible refine brDF ?_ ?_; next => omega) | (with_reducible refine brET ?_ ?_; next => omega) | (with_reducible refine brEF ?_ ?_; next => omega) | (with_reducible refine brNET ?_ ?_; next => omega) | (with_reducible refine brNEF ?_ ?_; next => omega) | with_reducible refine brNot ?_); conv => whnf))
      · rw [if_neg (by omega)]
        unfold rdr at *
        conv => whnf
        refine CallH.mem1 seat_g 0 cp rfl (by simp [Closed, ClosedL]) (by simp [Closed, ClosedL]) (by simp [Closed, ClosedL]) rfl ?_
        conv => whnf
        repeat' (first | exact ⟨rfl, rfl⟩ | ((first | refine zq1 (by omega) ?_ | refine zq2 (by omega) ?_ | refine NumH.rem (by omega) ?_ | refine zq4 (by omega) ?_ | refine zq5 (by omega) ?_ | refine zq6 ?_ | refine Req.mk (by omega) ?_ | refine Req.mk (by dsimp only; omega) ?_ | refine Req.mk ⟨rfl, rfl, rfl, by simp [ci_length, *], rfl, by simp [okCell], by dsimp only; omega, by omega, by decide⟩ ?_ | refine Req.mk (show pendP _ _ by repeat' constructor) ?_ | (with_reducible refine brT ?_ ?_; next => assumption) | (with_reducible refine brF ?_ ?_; next => assumption) | (with_reducible refine brDT ?_ ?_; next => omega) | (with_reducible refine brDF ?_ ?_; next => omega) | (with_reducible refine brET ?_ ?_; next => omega) | (with_reducible refine brEF ?_ ?_; next => omega) | (with_reducible refine brNET ?_ ?_; next => omega) | (with_reducible refine brNEF ?_ ?_; next => omega) | with_reducible refine brNot ?_); conv => whnf))
  · obtain rfl : p = s.length := by omega
    rw [flR_none (Nat.le_refl _)]
    have cp := c_peekN s hl
    unfold rdr at *
    conv => whnf
    refine CallH.mem1 seat_g 0 cp rfl (by simp [Closed, ClosedL]) (by simp [Closed, ClosedL]) (by simp [Closed, ClosedL]) rfl ?_
    conv => whnf
    repeat' (first | exact ⟨rfl, rfl⟩ | ((first | refine zq1 (by omega) ?_ | refine zq2 (by omega) ?_ | refine NumH.rem (by omega) ?_ | refine zq4 (by omega) ?_ | refine zq5 (by omega) ?_ | refine zq6 ?_ | refine Req.mk (by omega) ?_ | refine Req.mk (by dsimp only; omega) ?_ | refine Req.mk ⟨rfl, rfl, rfl, by simp [ci_length, *], rfl, by simp [okCell], by dsimp only; omega, by omega, by decide⟩ ?_ | refine Req.mk (show pendP _ _ by repeat' constructor) ?_ | (with_reducible refine brT ?_ ?_; next => assumption) | (with_reducible refine brF ?_ ?_; next => assumption) | (with_reducible refine brDT ?_ ?_; next => omega) | (with_reducible refine brDF ?_ ?_; next => omega) | (with_reducible refine brET ?_ ?_; next => omega) | (with_reducible refine brEF ?_ ?_; next => omega) | (with_reducible refine brNET ?_ ?_; next => omega) | (with_reducible refine brNEF ?_ ?_; next => omega) | with_reducible refine brNot ?_); conv => whnf))
set_option maxRecDepth 20000 in
theorem c_blanks (s : List UInt8) (p : Nat) (hp : p ≤ s.length) (hl : s.length ≤ 900000) : ACalls seat 16 [.ptr 0 0] [.var (rdr s p) 51] (fun x h => x = .ret (.int .i64 (blk (s.drop p) : Nat)) ∧ h = [.var (rdr s (p + blk (s.drop p))) 51]) := by
  refine ACalls.body seat_ok Tryd.func16 rfl rfl ?_
  conv => whnf
  refine Sat.cut (fun x t h => x = .ret ∧ t = (uu :: uu :: .int .i64 (blk (s.drop p) : Nat) :: uu :: uu :: uu :: uu :: uu :: uu :: uu :: uu :: uu :: uu :: uu :: uu :: uu :: uu :: uu :: uu :: uu :: uu :: uu :: uu :: uu :: uu :: uu :: uu :: uu :: uu :: uu :: uu :: uu :: uu :: uu :: []) ∧ h = [.var (rdr s (p + blk (s.drop p))) 51]) ?_ ?_
  · refine Sat.invP seat_ok seat_g (maskOf 34 [0, 3]) 1 (fun μ t h => ∃ (q : Nat) (z : Int), z = q ∧ q + blk (s.drop (p + q)) = blk (s.drop p) ∧ p + q ≤ s.length ∧ μ = s.length - (p + q) ∧ t = (.ptr 0 0 :: uu :: uu :: .int .i64 z :: uu :: uu :: uu :: uu :: uu :: uu :: uu :: uu :: uu :: uu :: uu :: uu :: uu :: uu :: uu :: uu :: uu :: uu :: uu :: uu :: uu :: uu :: uu :: uu :: uu :: uu :: uu :: uu :: uu :: uu :: []) ∧ h = [.var (rdr s (p + q)) 51]) ?_ ⟨_, _, WeakL.of_eq rfl, 0, 0, rfl, by rw [Nat.zero_add]; rfl, hp, rfl, rfl, rfl⟩ ?_
    · rintro _ _ _ ⟨q, z, -, -, -, -, rfl, rfl⟩
      exact ⟨rfl, (by simp [IdsL, Ids, IdsH, IdsC, lv_ids, ci_ids]), by simp [rdr, IdsH, IdsC, IdsL, Ids]⟩
    rintro _ _ _ ⟨q, z, hz, hr, hq, rfl, rfl, rfl⟩
    by_cases g : p + q < s.length
    · obtain ⟨b, hb⟩ : ∃ b, s[p + q]? = some b := ⟨_, List.getElem?_eq_getElem g⟩
      have cp := c_peekS s (p + q) b hb hl
      have hB := isB_some hb
      have hlt : b.toNat < 256 := b.toNat_lt
      by_cases h33 : b.toNat < 33
      · have hld := blanks_ld h33
        cases hv : blankN b.toNat with
        | true =>
          rw [hv] at hB hld
          rw [if_pos rfl] at hld
          obtain ⟨h1, -⟩ := blk_step hB
          have hnx : (((p + q : Nat) : Int) + 1) = ((p + (q + 1) : Nat) : Int) := by omega
          unfold rdr at *
          conv => whnf
          repeat' (first | exact ⟨_, _, show s.length - (p + (q + 1)) < s.length - (p + q) by omega, WeakL.of_eq rfl, q + 1, z + 1, by omega, by rw [← hr, h1, Nat.add_assoc p q 1]; omega, by omega, rfl, rfl, by rw [← hnx]; rfl⟩ | (refine CallH.mem1 seat_g 0 cp rfl (by simp [Closed, ClosedL]) (by simp [Closed, ClosedL]) (by simp [Closed, ClosedL]) rfl ?_; conv => whnf) | (refine ldI _ hld ?_; conv => whnf) | ((first | refine zq1 (by omega) ?_ | refine zq2 (by omega) ?_ | refine NumH.rem (by omega) ?_ | refine zq4 (by omega) ?_ | refine zq5 (by omega) ?_ | refine zq6 ?_ | refine Req.mk (by omega) ?_ | refine Req.mk (by dsimp only; omega) ?_ | refine Req.mk ⟨rfl, rfl, rfl, by simp [ci_length, *], rfl, by simp [okCell], by dsimp only; omega, by omega, by decide⟩ ?_ | refine Req.mk (show pendP _ _ by repeat' constructor) ?_ | (with_reducible refine brT ?_ ?_; next => assumption) | (with_reducible refine brF ?_ ?_; next => assumption) | (with_reducible refine brDT ?_ ?_; next => omega) | (with_reducible refine brDF ?_ ?_; next => omega) | (with_reducible refine brET ?_ ?_; next => omega) | (with_reducible refine brEF ?_ ?_; next => omega) | (with_reducible refine brNET ?_ ?_; next => omega) | (with_reducible refine brNEF ?_ ?_; next => omega) | with_reducible refine brNot ?_); conv => whnf))
        | false =>
          rw [hv] at hB hld
          rw [if_neg (by decide)] at hld
          have h0 := blk_stop hB
          rw [h0, Nat.add_zero] at hr
          rw [← hr]
          have hzz : z = q := hz
          rw [← hz]
          unfold rdr at *
          conv => whnf
          repeat' (first | exact ⟨_, keepT_weak (maskOf 34 [2]) _, rfl, rfl, rfl⟩ | (refine CallH.mem1 seat_g 0 cp rfl (by simp [Closed, ClosedL]) (by simp [Closed, ClosedL]) (by simp [Closed, ClosedL]) rfl ?_; conv => whnf) | (refine ldI _ hld ?_; conv => whnf) | ((first | refine zq1 (by omega) ?_ | refine zq2 (by omega) ?_ | refine NumH.rem (by omega) ?_ | refine zq4 (by omega) ?_ | refine zq5 (by omega) ?_ | refine zq6 ?_ | refine Req.mk (by omega) ?_ | refine Req.mk (by dsimp only; omega) ?_ | refine Req.mk ⟨rfl, rfl, rfl, by simp [ci_length, *], rfl, by simp [okCell], by dsimp only; omega, by omega, by decide⟩ ?_ | refine Req.mk (show pendP _ _ by repeat' constructor) ?_ | (with_reducible refine brT ?_ ?_; next => assumption) | (with_reducible refine brF ?_ ?_; next => assumption) | (with_reducible refine brDT ?_ ?_; next => omega) | (with_reducible refine brDF ?_ ?_; next => omega) | (with_reducible refine brET ?_ ?_; next => omega) | (with_reducible refine brEF ?_ ?_; next => omega) | (with_reducible refine brNET ?_ ?_; next => omega) | (with_reducible refine brNEF ?_ ?_; next => omega) | with_reducible refine brNot ?_); conv => whnf))
      · have hv : blankN b.toNat = false := Bool.eq_false_iff.2 (fun h => by have := (blankN_iff _).1 h; omega)
        rw [hv] at hB
        have h0 := blk_stop hB
        rw [h0, Nat.add_zero] at hr
        rw [← hr, ← hz]
        unfold rdr at *
        conv => whnf
        repeat' (first | exact ⟨_, keepT_weak (maskOf 34 [2]) _, rfl, rfl, rfl⟩ | (refine CallH.mem1 seat_g 0 cp rfl (by simp [Closed, ClosedL]) (by simp [Closed, ClosedL]) (by simp [Closed, ClosedL]) rfl ?_; conv => whnf) | ((first | refine zq1 (by omega) ?_ | refine zq2 (by omega) ?_ | refine NumH.rem (by omega) ?_ | refine zq4 (by omega) ?_ | refine zq5 (by omega) ?_ | refine zq6 ?_ | refine Req.mk (by omega) ?_ | refine Req.mk (by dsimp only; omega) ?_ | refine Req.mk ⟨rfl, rfl, rfl, by simp [ci_length, *], rfl, by simp [okCell], by dsimp only; omega, by omega, by decide⟩ ?_ | refine Req.mk (show pendP _ _ by repeat' constructor) ?_ | (with_reducible refine brT ?_ ?_; next => assumption) | (with_reducible refine brF ?_ ?_; next => assumption) | (with_reducible refine brDT ?_ ?_; next => omega) | (with_reducible refine brDF ?_ ?_; next => omega) | (with_reducible refine brET ?_ ?_; next => omega) | (with_reducible refine brEF ?_ ?_; next => omega) | (with_reducible refine brNET ?_ ?_; next => omega) | (with_reducible refine brNEF ?_ ?_; next => omega) | with_reducible refine brNot ?_); conv => whnf))
    · have hpe : p + q = s.length := by omega
      have cp := c_peekN s hl
      rw [← hpe] at cp
      have h0 : blk (s.drop (p + q)) = 0 := by rw [List.drop_eq_nil_of_le (by omega)]; rfl
      rw [h0, Nat.add_zero] at hr
      rw [← hr, ← hz]
      unfold rdr at *
      conv => whnf
      repeat' (first | exact ⟨_, keepT_weak (maskOf 34 [2]) _, rfl, rfl, rfl⟩ | (refine CallH.mem1 seat_g 0 cp rfl (by simp [Closed, ClosedL]) (by simp [Closed, ClosedL]) (by simp [Closed, ClosedL]) rfl ?_; conv => whnf) | ((first | refine zq1 (by omega) ?_ | refine zq2 (by omega) ?_ | refine NumH.rem (by omega) ?_ | refine zq4 (by omega) ?_ | refine zq5 (by omega) ?_ | refine zq6 ?_ | refine Req.mk (by omega) ?_ | refine Req.mk (by dsimp only; omega) ?_ | refine Req.mk ⟨rfl, rfl, rfl, by simp [ci_length, *], rfl, by simp [okCell], by dsimp only; omega, by omega, by decide⟩ ?_ | refine Req.mk (show pendP _ _ by repeat' constructor) ?_ | (with_reducible refine brT ?_ ?_; next => assumption) | (with_reducible refine brF ?_ ?_; next => assumption) | (with_reducible refine brDT ?_ ?_; next => omega) | (with_reducible refine brDF ?_ ?_; next => omega) | (with_reducible refine brET ?_ ?_; next => omega) | (with_reducible refine brEF ?_ ?_; next => omega) | (with_reducible refine brNET ?_ ?_; next => omega) | (with_reducible refine brNEF ?_ ?_; next => omega) | with_reducible refine brNot ?_); conv => whnf))
  · rintro _ _ _ ⟨rfl, rfl, rfl⟩
    conv => whnf
    exact ⟨rfl, rfl⟩
end Go.Proofs.YtelgbnjagbleoaaDoor
