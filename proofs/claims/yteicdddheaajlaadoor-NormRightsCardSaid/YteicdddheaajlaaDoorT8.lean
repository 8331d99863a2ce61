/- Definitions and lemmas for the law, part 8. No condition beyond those in each statement. -/
import Derived.Test.YteicdddheaajlaaDoorT7
set_option linter.unusedSimpArgs false
set_option linter.unusedVariables false
set_option linter.deprecated false
namespace Go.Proofs.YteicdddheaajlaaDoor
open Go.Abs
def rdr (s : List UInt8) (p : Nat) : List AV := [.str s, .int .i64 p]
theorem c_at (s : List UInt8) (p : Nat) : ACalls seat 43 [.ptr 0 0] [.var (rdr s p) 107] (fun x h => x = .ret (.int .i64 p) ∧ h = [.var (rdr s p) 107]) := by
  refine ACalls.body seat_ok Tryd.func43 rfl rfl ?_
  unfold rdr
  conv => whnf
  exact ⟨rfl, rfl⟩
theorem c_left (s : List UInt8) (p : Nat) (hl : s.length ≤ 900000) (hp : p ≤ s.length) : ACalls seat 41 [.ptr 0 0] [.var (rdr s p) 107] (fun x h => x = .ret (.int .i64 ((s.length : Int) - p)) ∧ h = [.var (rdr s p) 107]) := by
  refine ACalls.body seat_ok Tryd.func41 rfl rfl ?_
  unfold rdr
  conv => whnf
  refine DrawH.plan seat_ok (.take 0 (.take 1 (.take 2 (.take 3 (.take 4 (.take 5 (.take 6 (.take 7 (.take 8 (.take 9 (.take 10 Plan.done))))))))))) 0 (by kernel_rfl) ?_
  conv => whnf
  repeat' (first | exact ⟨rfl, rfl⟩ | ((first | refine zs (by omega) ?_ | refine zq6 ?_ | refine zs (by dsimp only; omega) ?_ | refine zs (show pendP _ _ by repeat' constructor) ?_ | (with_reducible first | refine brT ‹_› ?_ | refine brF ‹_› ?_ | refine zt (by omega) ?_ | refine zf (by omega) ?_ | refine brNot ?_)); conv => whnf))
theorem c_peekS (s : List UInt8) (p : Nat) (b : UInt8) (hb : s[p]? = some b) (hl : s.length ≤ 900000) : ACalls seat 42 [.ptr 0 0] [.var (rdr s p) 107] (fun x h => x = .ret (.tup [.int .u8 b.toNat, .bool true]) ∧ h = [.var (rdr s p) 107]) := by
  have hp : p < s.length := (List.getElem?_eq_some_iff.1 hb).1
  have cl := c_left s p hl (by omega)
  have eb : (s[(p : Int).toNat]?) = some b := hb
  refine ACalls.body seat_ok Tryd.func42 rfl rfl ?_
  have g : (s.length : Int) - p ≠ 0 := by omega
  unfold rdr at *
  conv => whnf
  refine CallH.mem1 seat_g 0 cl rfl (by simp [Closed, ClosedL]) (by simp [Closed, ClosedL]) (by simp [Closed, ClosedL]) rfl ?_
  conv => whnf
  repeat' ((first | refine zs (by omega) ?_ | refine zq6 ?_ | refine zs (by dsimp only; omega) ?_ | refine zs (show pendP _ _ by repeat' constructor) ?_ | (with_reducible first | refine brT ‹_› ?_ | refine brF ‹_› ?_ | refine zt (by omega) ?_ | refine zf (by omega) ?_ | refine brNot ?_)); conv => whnf)
  refine DrawH.plan seat_ok (.take 0 (.take 1 (.take 2 (.take 3 (.take 4 (.take 5 (.take 6 (.take 7 (.take 8 (.take 9 (.take 10 Plan.done))))))))))) 0 (by kernel_rfl) ?_
  conv => whnf
  repeat' (first | exact ⟨rfl, rfl⟩ | (refine ldI _ eb ?_; conv => whnf) | ((first | refine zs (by omega) ?_ | refine zq6 ?_ | refine zs (by dsimp only; omega) ?_ | refine zs (show pendP _ _ by repeat' constructor) ?_ | (with_reducible first | refine brT ‹_› ?_ | refine brF ‹_› ?_ | refine zt (by omega) ?_ | refine zf (by omega) ?_ | refine brNot ?_)); conv => whnf))
theorem c_peekN (s : List UInt8) (hl : s.length ≤ 900000) : ACalls seat 42 [.ptr 0 0] [.var (rdr s s.length) 107] (fun x h => x = .ret (.tup [.int .u8 0, .bool false]) ∧ h = [.var (rdr s s.length) 107]) := by
  have cl := c_left s s.length hl (Nat.le_refl _)
  rw [show ((s.length : Nat) : Int) - (s.length : Nat) = 0 by omega] at cl
  refine ACalls.body seat_ok Tryd.func42 rfl rfl ?_
  unfold rdr at *
  conv => whnf
  refine CallH.mem1 seat_g 0 cl rfl (by simp [Closed, ClosedL]) (by simp [Closed, ClosedL]) (by simp [Closed, ClosedL]) rfl ?_
  conv => whnf
  exact ⟨rfl, rfl⟩
theorem c_skip (s : List UInt8) (p : Nat) (hp : p ≤ s.length) (hl : s.length ≤ 900000) : ACalls seat 44 [.ptr 0 0] [.var (rdr s p) 107] (fun x h => x = .ret (.bool (decide (p < s.length))) ∧ h = [.var (rdr s (min (p + 1) s.length)) 107]) := by
  have cl := c_left s p hl hp
  refine ACalls.body seat_ok Tryd.func44 rfl rfl ?_
  by_cases h : p < s.length
  · rw [decide_eq_true h, Nat.min_eq_left h]
    have g : (s.length : Int) - p ≠ 0 := by omega
    unfold rdr at *
    conv => whnf
    refine CallH.mem1 seat_g 0 cl rfl (by simp [Closed, ClosedL]) (by simp [Closed, ClosedL]) (by simp [Closed, ClosedL]) rfl ?_
    conv => whnf
    repeat' (first | exact ⟨rfl, rfl⟩ | ((first | refine zs (by omega) ?_ | refine zq6 ?_ | refine zs (by dsimp only; omega) ?_ | refine zs (show pendP _ _ by repeat' constructor) ?_ | (with_reducible first | refine brT ‹_› ?_ | refine brF ‹_› ?_ | refine zt (by omega) ?_ | refine zf (by omega) ?_ | refine brNot ?_)); conv => whnf))
  · obtain rfl : p = s.length := by omega
    rw [decide_eq_false h, Nat.min_eq_right (by omega)]
    have g : (s.length : Int) - (s.length : Nat) = 0 := by omega
    rw [g] at cl
    unfold rdr at *
    conv => whnf
    refine CallH.mem1 seat_g 0 cl rfl (by simp [Closed, ClosedL]) (by simp [Closed, ClosedL]) (by simp [Closed, ClosedL]) rfl ?_
    conv => whnf
    exact ⟨rfl, rfl⟩
theorem c_flag (s : List UInt8) (p : Nat) (hp : p ≤ s.length) (hl : s.length ≤ 900000) : ACalls seat 73 [.ptr 0 0] [.var (rdr s p) 107] (fun x h => x = .ret (.tup [.int .i64 (flR s p).1, .int .i64 (flR s p).2.1]) ∧ h = [.var (rdr s (flR s p).2.2) 107]) := by
  refine ACalls.body seat_ok Tryd.func73 rfl rfl ?_
  by_cases g : p < s.length
  · obtain ⟨b, hb⟩ : ∃ b, s[p]? = some b := ⟨_, List.getElem?_eq_getElem g⟩
    have cp := c_peekS s p b hb hl
    rw [flR_some hb]
    by_cases h1 : (b.toNat : Int) = 48
    · rw [if_pos (.inl h1)]
      unfold rdr at *
      conv => whnf
      refine CallH.mem1 seat_g 0 cp rfl (by simp [Closed, ClosedL]) (by simp [Closed, ClosedL]) (by simp [Closed, ClosedL]) rfl ?_
      conv => whnf
      repeat' (first | exact ⟨rfl, rfl⟩ | (refine WrapH.is _ (wrap_u8 (by omega) (by omega)) ?_; conv => whnf) | ((first | refine zs (by omega) ?_ | refine zq6 ?_ | refine zs (by dsimp only; omega) ?_ | refine zs (show pendP _ _ by repeat' constructor) ?_ | (with_reducible first | refine brT ‹_› ?_ | refine brF ‹_› ?_ | refine zt (by omega) ?_ | refine zf (by omega) ?_ | refine brNot ?_)); conv => whnf))
    · by_cases h2 : (b.toNat : Int) = 49
      · rw [if_pos (.inr h2)]
        unfold rdr at *
        conv => whnf
        refine CallH.mem1 seat_g 0 cp rfl (by simp [Closed, ClosedL]) (by simp [Closed, ClosedL]) (by simp [Closed, ClosedL]) rfl ?_
        conv => whnf
        repeat' (first | exact ⟨rfl, rfl⟩ | (refine WrapH.is _ (wrap_u8 (by omega) (by omega)) ?_; conv => whnf) | ((first | refine zs (by omega) ?_ | refine zq6 ?_ | refine zs (by dsimp only; omega) ?_ | refine zs (show pendP _ _ by repeat' constructor) ?_ | (with_reducible first | refine brT ‹_› ?_ | refine brF ‹_› ?_ | refine zt (by omega) ?_ | refine zf (by omega) ?_ | refine brNot ?_)); conv => whnf))
      · rw [if_neg (by omega)]
        unfold rdr at *
        conv => whnf
        refine CallH.mem1 seat_g 0 cp rfl (by simp [Closed, ClosedL]) (by simp [Closed, ClosedL]) (by simp [Closed, ClosedL]) rfl ?_
        conv => whnf
        repeat' (first | exact ⟨rfl, rfl⟩ | ((first | refine zs (by omega) ?_ | refine zq6 ?_ | refine zs (by dsimp only; omega) ?_ | refine zs (show pendP _ _ by repeat' constructor) ?_ | (with_reducible first | refine brT ‹_› ?_ | refine brF ‹_› ?_ | refine zt (by omega) ?_ | refine zf (by omega) ?_ | refine brNot ?_)); conv => whnf))
  · obtain rfl : p = s.length := by omega
    rw [flR_none (Nat.le_refl _)]
    have cp := c_peekN s hl
    unfold rdr at *
    conv => whnf
    refine CallH.mem1 seat_g 0 cp rfl (by simp [Closed, ClosedL]) (by simp [Closed, ClosedL]) (by simp [Closed, ClosedL]) rfl ?_
    conv => whnf
    repeat' (first | exact ⟨rfl, rfl⟩ | ((first | refine zs (by omega) ?_ | refine zq6 ?_ | refine zs (by dsimp only; omega) ?_ | refine zs (show pendP _ _ by repeat' constructor) ?_ | (with_reducible first | refine brT ‹_› ?_ | refine brF ‹_› ?_ | refine zt (by omega) ?_ | refine zf (by omega) ?_ | refine brNot ?_)); conv => whnf))
set_option maxRecDepth 20000 in
theorem c_blanks (s : List UInt8) (p : Nat) (hp : p ≤ s.length) (hl : s.length ≤ 900000) : ACalls seat 40 [.ptr 0 0] [.var (rdr s p) 107] (fun x h => x = .ret (.int .i64 (blk (s.drop p) : Nat)) ∧ h = [.var (rdr s (p + blk (s.drop p))) 107]) := by
  refine ACalls.body seat_ok Tryd.func40 rfl rfl ?_
  conv => whnf
  refine Sat.cut (fun x t h => x = .ret ∧ t = (uu::uu::.int .i64 (blk (s.drop p) : Nat)::uu::uu::uu::uu::uu::uu::uu::uu::uu::uu::uu::uu::uu::uu::uu::uu::uu::uu::uu::uu::uu::uu::uu::uu::uu::uu::uu::uu::uu::uu::uu::[]) ∧ h = [.var (rdr s (p + blk (s.drop p))) 107]) ?_ ?_
  · refine Sat.invP seat_ok seat_g (maskOf 34 [0, 3]) 1 (fun μ t h => ∃ (q : Nat) (z : Int), z = q ∧ q + blk (s.drop (p + q)) = blk (s.drop p) ∧ p + q ≤ s.length ∧ μ = s.length - (p + q) ∧ t = (.ptr 0 0::uu::uu::.int .i64 z::uu::uu::uu::uu::uu::uu::uu::uu::uu::uu::uu::uu::uu::uu::uu::uu::uu::uu::uu::uu::uu::uu::uu::uu::uu::uu::uu::uu::uu::uu::[]) ∧ h = [.var (rdr s (p + q)) 107]) ?_ ⟨_, _, WeakL.of_eq rfl, 0, 0, rfl, by rw [Nat.zero_add]; rfl, hp, rfl, rfl, rfl⟩ ?_
    · rintro _ _ _ ⟨q, z, -, -, -, -, rfl, rfl⟩
      exact ⟨rfl, (by simp [IdsL, Ids, IdsH, IdsC, lv_ids, ci_ids]), by simp [rdr, IdsH, IdsC, IdsL, Ids]⟩
    rintro _ _ _ ⟨q, z, hz, hr, hq, rfl, rfl, rfl⟩
    by_cases g : p + q < s.length
    · obtain ⟨b, hb⟩ : ∃ b, s[p + q]? = some b := ⟨_, List.getElem?_eq_getElem g⟩
      have cp := c_peekS s (p + q) b hb hl
      have hB := isB_some hb
      have hlt : b.toNat < 256 := b.toNat_lt
      by_cases h33 : b.toNat < 33
      · have hld := blanks_ld h33
        cases hv : blankN b.toNat with
        | true =>
          rw [hv] at hB hld
          rw [if_pos rfl] at hld
          obtain ⟨h1, -⟩ := blk_step hB
          have hnx : (((p + q : Nat) : Int) + 1) = ((p + (q + 1) : Nat) : Int) := by omega
          unfold rdr at *
          conv => whnf
          repeat' (first | exact ⟨_, _, show s.length - (p + (q + 1)) < s.length - (p + q) by omega, WeakL.of_eq rfl, q + 1, z + 1, by omega, by rw [← hr, h1, Nat.add_assoc p q 1]; omega, by omega, rfl, rfl, by rw [← hnx]; rfl⟩ | (refine CallH.mem1 seat_g 0 cp rfl (by simp [Closed, ClosedL]) (by simp [Closed, ClosedL]) (by simp [Closed, ClosedL]) rfl ?_; conv => whnf) | (refine ldI _ hld ?_; conv => whnf) | ((first | refine zs (by omega) ?_ | refine zq6 ?_ | refine zs (by dsimp only; omega) ?_ | refine zs (show pendP _ _ by repeat' constructor) ?_ | (with_reducible first | refine brT ‹_› ?_ | refine brF ‹_› ?_ | refine zt (by omega) ?_ | refine zf (by omega) ?_ | refine brNot ?_)); conv => whnf))
        | false =>
          rw [hv] at hB hld
          rw [if_neg (by decide)] at hld
          have h0 := blk_stop hB
          rw [h0, Nat.add_zero] at hr
          rw [← hr]
          have hzz : z = q := hz
          rw [← hz]
          unfold rdr at *
          conv => whnf
          repeat' (first | exact ⟨_, keepT_weak (maskOf 34 [2]) _, rfl, rfl, rfl⟩ | (refine CallH.mem1 seat_g 0 cp rfl (by simp [Closed, ClosedL]) (by simp [Closed, ClosedL]) (by simp [Closed, ClosedL]) rfl ?_; conv => whnf) | (refine ldI _ hld ?_; conv => whnf) | ((first | refine zs (by omega) ?_ | refine zq6 ?_ | refine zs (by dsimp only; omega) ?_ | refine zs (show pendP _ _ by repeat' constructor) ?_ | (with_reducible first | refine brT ‹_› ?_ | refine brF ‹_› ?_ | refine zt (by omega) ?_ | refine zf (by omega) ?_ | refine brNot ?_)); conv => whnf))
      · have hv : blankN b.toNat = false := Bool.eq_false_iff.2 (fun h => by have := (blankN_iff _).1 h; omega)
        rw [hv] at hB
        have h0 := blk_stop hB
        rw [h0, Nat.add_zero] at hr
        rw [← hr, ← hz]
        unfold rdr at *
        conv => whnf
        repeat' (first | exact ⟨_, keepT_weak (maskOf 34 [2]) _, rfl, rfl, rfl⟩ | (refine CallH.mem1 seat_g 0 cp rfl (by simp [Closed, ClosedL]) (by simp [Closed, ClosedL]) (by simp [Closed, ClosedL]) rfl ?_; conv => whnf) | ((first | refine zs (by omega) ?_ | refine zq6 ?_ | refine zs (by dsimp only; omega) ?_ | refine zs (show pendP _ _ by repeat' constructor) ?_ | (with_reducible first | refine brT ‹_› ?_ | refine brF ‹_› ?_ | refine zt (by omega) ?_ | refine zf (by omega) ?_ | refine brNot ?_)); conv => whnf))
    · have hpe : p + q = s.length := by omega
      have cp := c_peekN s hl
      rw [← hpe] at cp
      have h0 : blk (s.drop (p + q)) = 0 := by rw [List.drop_eq_nil_of_le (by omega)]; rfl
      rw [h0, Nat.add_zero] at hr
      rw [← hr, ← hz]
      unfold rdr at *
      conv => whnf
      repeat' (first | exact ⟨_, keepT_weak (maskOf 34 [2]) _, rfl, rfl, rfl⟩ | (refine CallH.mem1 seat_g 0 cp rfl (by simp [Closed, ClosedL]) (by simp [Closed, ClosedL]) (by simp [Closed, ClosedL]) rfl ?_; conv => whnf) | ((first | refine zs (by omega) ?_ | refine zq6 ?_ | refine zs (by dsimp only; omega) ?_ | refine zs (show pendP _ _ by repeat' constructor) ?_ | (with_reducible first | refine brT ‹_› ?_ | refine brF ‹_› ?_ | refine zt (by omega) ?_ | refine zf (by omega) ?_ | refine brNot ?_)); conv => whnf))
  · rintro _ _ _ ⟨rfl, rfl, rfl⟩
    conv => whnf
    exact ⟨rfl, rfl⟩
end Go.Proofs.YteicdddheaajlaaDoor
namespace Go.Proofs.YteicdddheaajlaaDoor
open Go.Abs
theorem outV_ex (n : Int) : ∃ a e : Int, outV n = .tup [.int .i64 a, .int .i64 e] ∧ ((e = 0 ∧ a = n ∧ -4294967296 < n ∧ n < 4294967296) ∨ (e = 2 ∧ a = 0 ∧ (4294967296 ≤ n ∨ n ≤ -4294967296))) := by
  unfold outV
  by_cases h : 4294967296 ≤ n ∨ n ≤ -4294967296
  · rw [if_pos h]; exact ⟨_, _, rfl, .inr ⟨rfl, rfl, h⟩⟩
  · rw [if_neg h]; exact ⟨_, _, rfl, .inl ⟨rfl, rfl, by omega, by omega⟩⟩
end Go.Proofs.YteicdddheaajlaaDoor
namespace Go.Proofs.YteicdddheaajlaaDoor
open Go.Abs
theorem scR_bd (sg : Bool) (s : List UInt8) (p : Nat) (hp : p ≤ s.length) : p ≤ (scR sg s p).1 ∧ (scR sg s p).1 ≤ s.length := by
  rw [scan_eq]
  have h := (dfa_le sg (s.drop p) 0 (by omega)).1
  rw [List.length_drop] at h
  unfold addA ans
  simp only
  omega
theorem c_dscanR (s : List UInt8) (p : Nat) (sg : Bool) (hp : p ≤ s.length) (hl : s.length ≤ 900000) : ACalls seat 84 [.str s, .int .i64 p, .bool sg] [] (fun x _ => x = .ret (.tup [.int .i64 ((scR sg s p).1 : Nat), .bool (scR sg s p).2])) := by
  have c := c_dscan s p sg (by omega)
  rw [if_neg (by omega), Int.toNat_natCast] at c
  rw [scan_eq]
  exact c
theorem c_numberE (s : List UInt8) (p : Nat) (sg : Bool) (hp : p ≤ s.length) (hl : s.length ≤ 900000) (h : (scR sg s p).2 = false) : ACalls seat 74 [.ptr 0 0, .bool sg] [.var (rdr s p) 107] (fun x h => x = .ret (.tup [.int .i64 0, .int .i64 3]) ∧ h = [.var (rdr s (scR sg s p).1) 107]) := by
  have c := c_dscanR s p sg hp hl
  rw [h] at c
  generalize (scR sg s p).1 = q at *
  refine ACalls.body seat_ok Tryd.func74 rfl rfl ?_
  unfold rdr at *
  conv => whnf
  refine DrawH.plan seat_ok (.take 0 (.take 1 (.take 2 (.take 3 (.take 4 (.take 5 (.take 6 (.take 7 (.take 8 (.perform 9 none (.take 10 (.take 11 (.take 12 (.take 13 (.take 14 Plan.done))))))))))))))) 0 (by kernel_rfl) ?_
  conv => whnf
  repeat' (first | exact ⟨rfl, rfl⟩ | (refine lf seat_g c ?_; conv => whnf) | ((first | refine zs (by omega) ?_ | refine zq6 ?_ | refine zs (by dsimp only; omega) ?_ | refine zs (show pendP _ _ by repeat' constructor) ?_ | (with_reducible first | refine brT ‹_› ?_ | refine brF ‹_› ?_ | refine zt (by omega) ?_ | refine zf (by omega) ?_ | refine brNot ?_)); conv => whnf) | (refine And.intro ?_ ?_ <;> (conv => whnf)))
theorem c_numberV (s : List UInt8) (p q : Nat) (sg : Bool) (v e : Int) (hp : p ≤ s.length) (hl : s.length ≤ 900000) (h : scR sg s p = (q, true)) (cp : ACalls seat 85 [.str ((s.drop p).take (q - p))] [] (fun x _ => x = .ret (.tup [.int .i64 v, .int .i64 e]))) :
    ACalls seat 74 [.ptr 0 0, .bool sg] [.var (rdr s p) 107] (fun x h => x = .ret (.tup [.int .i64 v, .int .i64 e]) ∧ h = [.var (rdr s (if e = 0 then q else p)) 107]) := by
  have c := c_dscanR s p sg hp hl
  have hb := scR_bd sg s p hp
  rw [h] at c hb
  simp only at c hb
  have cp' : ACalls seat 85 [.str ((s.drop (p : Int).toNat).take ((q : Int).toNat - (p : Int).toNat))] [] (fun x _ => x = .ret (.tup [.int .i64 v, .int .i64 e])) := cp
  refine ACalls.body seat_ok Tryd.func74 rfl rfl ?_
  clear h cp
  unfold rdr at *
  by_cases he : e = 0
  · rw [if_pos he]
    conv => whnf
    refine DrawH.plan seat_ok (.take 0 (.take 1 (.take 2 (.take 3 (.take 4 (.take 5 (.take 6 (.take 7 (.take 8 (.perform 9 none (.take 10 (.take 11 (.take 12 (.take 13 (.take 14 Plan.done))))))))))))))) 0 (by kernel_rfl) ?_
    conv => whnf
    repeat' (first | (refine lf seat_g c ?_; conv => whnf) | ((first | refine zs (by omega) ?_ | refine zq6 ?_ | refine zs (by dsimp only; omega) ?_ | refine zs (show pendP _ _ by repeat' constructor) ?_ | (with_reducible first | refine brT ‹_› ?_ | refine brF ‹_› ?_ | refine zt (by omega) ?_ | refine zf (by omega) ?_ | refine brNot ?_)); conv => whnf))
    refine DrawH.plan seat_ok (.take 0 (.take 1 (.take 2 (.take 3 (.take 4 (.take 5 (.take 6 (.take 7 (.take 8 (.take 9 (.perform 10 none (.take 11 (.take 12 (.take 13 (.take 14 (.take 15 Plan.done)))))))))))))))) 0 (by kernel_rfl) ?_
    conv => whnf
    repeat' (first | exact ⟨rfl, rfl⟩ | (refine lf seat_g cp' ?_; conv => whnf) | ((first | refine zs (by omega) ?_ | refine zq6 ?_ | refine zs (by dsimp only; omega) ?_ | refine zs (show pendP _ _ by repeat' constructor) ?_ | (with_reducible first | refine brT ‹_› ?_ | refine brF ‹_› ?_ | refine zt (by omega) ?_ | refine zf (by omega) ?_ | refine brNot ?_)); conv => whnf))
  · rw [if_neg he]
    conv => whnf
    refine DrawH.plan seat_ok (.take 0 (.take 1 (.take 2 (.take 3 (.take 4 (.take 5 (.take 6 (.take 7 (.take 8 (.perform 9 none (.take 10 (.take 11 (.take 12 (.take 13 (.take 14 Plan.done))))))))))))))) 0 (by kernel_rfl) ?_
    conv => whnf
    repeat' (first | (refine lf seat_g c ?_; conv => whnf) | ((first | refine zs (by omega) ?_ | refine zq6 ?_ | refine zs (by dsimp only; omega) ?_ | refine zs (show pendP _ _ by repeat' constructor) ?_ | (with_reducible first | refine brT ‹_› ?_ | refine brF ‹_› ?_ | refine zt (by omega) ?_ | refine zf (by omega) ?_ | refine brNot ?_)); conv => whnf))
    refine DrawH.plan seat_ok (.take 0 (.take 1 (.take 2 (.take 3 (.take 4 (.take 5 (.take 6 (.take 7 (.take 8 (.take 9 (.perform 10 none (.take 11 (.take 12 (.take 13 (.take 14 (.take 15 Plan.done)))))))))))))))) 0 (by kernel_rfl) ?_
    conv => whnf
    repeat' (first | exact ⟨rfl, rfl⟩ | (refine lf seat_g cp' ?_; conv => whnf) | ((first | refine zs (by omega) ?_ | refine zq6 ?_ | refine zs (by dsimp only; omega) ?_ | refine zs (show pendP _ _ by repeat' constructor) ?_ | (with_reducible first | refine brT ‹_› ?_ | refine brF ‹_› ?_ | refine zt (by omega) ?_ | refine zf (by omega) ?_ | refine brNot ?_)); conv => whnf))
theorem c_rnumberE (s : List UInt8) (p : Nat) (sg : Bool) (hp : p ≤ s.length) (hl : s.length ≤ 900000) (h : (scR sg s p).2 = false) : ACalls seat 50 [.str s, .int .i64 p, .bool sg] [] (fun x _ => x = .ret (gotV 0 3 (scR sg s p).1)) := by
  have c := c_rscan s p sg hp hl
  rw [h] at c
  generalize (scR sg s p).1 = q at *
  refine ACalls.body seat_ok Tryd.func50 rfl rfl ?_
  conv => whnf
  repeat' (first | exact rfl | (refine lf seat_g c ?_; conv => whnf) | ((first | refine zs (by omega) ?_ | refine zq6 ?_ | refine zs (by dsimp only; omega) ?_ | refine zs (show pendP _ _ by repeat' constructor) ?_ | (with_reducible first | refine brT ‹_› ?_ | refine brF ‹_› ?_ | refine zt (by omega) ?_ | refine zf (by omega) ?_ | refine brNot ?_)); conv => whnf))
theorem c_rnumberV (s : List UInt8) (p q : Nat) (sg : Bool) (v e : Int) (hp : p ≤ s.length) (hl : s.length ≤ 900000) (h : scR sg s p = (q, true)) (hv : e = 0 ∨ v = 0) (cp : ACalls seat 71 [.str ((s.drop p).take (q - p))] [] (fun x _ => x = .ret (.tup [.int .i64 v, .int .i64 e]))) :
    ACalls seat 50 [.str s, .int .i64 p, .bool sg] [] (fun x _ => x = .ret (gotV v e (if e = 0 then q else p))) := by
  have c := c_rscan s p sg hp hl
  have hb := scR_bd sg s p hp
  rw [h] at c hb
  simp only at c hb
  have cp' : ACalls seat 71 [.str ((s.drop (p : Int).toNat).take ((q : Int).toNat - (p : Int).toNat))] [] (fun x _ => x = .ret (.tup [.int .i64 v, .int .i64 e])) := cp
  refine ACalls.body seat_ok Tryd.func50 rfl rfl ?_
  clear h cp
  by_cases he : e = 0
  · subst he
    rw [if_pos rfl]
    conv => whnf
    repeat' (first | exact rfl | (refine lf seat_g c ?_; conv => whnf) | (refine lf seat_g cp' ?_; conv => whnf) | ((first | refine zs (by omega) ?_ | refine zq6 ?_ | refine zs (by dsimp only; omega) ?_ | refine zs (show pendP _ _ by repeat' constructor) ?_ | (with_reducible first | refine brT ‹_› ?_ | refine brF ‹_› ?_ | refine zt (by omega) ?_ | refine zf (by omega) ?_ | refine brNot ?_)); conv => whnf))
  · rw [if_neg he]
    obtain rfl : v = 0 := by omega
    conv => whnf
    repeat' (first | exact rfl | (refine lf seat_g c ?_; conv => whnf) | (refine lf seat_g cp' ?_; conv => whnf) | ((first | refine zs (by omega) ?_ | refine zq6 ?_ | refine zs (by dsimp only; omega) ?_ | refine zs (show pendP _ _ by repeat' constructor) ?_ | (with_reducible first | refine brT ‹_› ?_ | refine brF ‹_› ?_ | refine zt (by omega) ?_ | refine zf (by omega) ?_ | refine brNot ?_)); conv => whnf))
end Go.Proofs.YteicdddheaajlaaDoor
namespace Go.Proofs.YteicdddheaajlaaDoor
open Go.Abs
set_option maxRecDepth 20000 in
set_option maxHeartbeats 1000000 in
theorem c_gap (s : List UInt8) (p : Nat) (hp : p ≤ s.length) (hl : s.length ≤ 900000) : ACalls seat 57 [.ptr 0 0] [.var (rdr s p) 107] (fun x h => x = .ret (.bool (decide (0 < gapN (s.drop p)))) ∧ h = [.var (rdr s (p + gapN (s.drop p))) 107]) := by
  refine ACalls.take seat_g 1 (Nat.le_refl _) (by simp [Ids]) (by simp [rdr, IdsH, IdsC, IdsL, Ids]) ?_
  have c1 := c_blanks s p hp hl
  have hin := blk_in s p hp
  unfold gapN
  rw [List.drop_drop]
  obtain ⟨k, hk⟩ : ∃ k, k = p + blk (s.drop p) := ⟨_, rfl⟩
  rw [← hk] at c1 hin ⊢
  have hkp : p ≤ k := by omega
  refine ACalls.bodyD2 seat_ok Tryd.func57 rfl rfl rfl rfl rfl rfl rfl rfl rfl rfl Tryd.func72 rfl rfl rfl rfl ?_
  by_cases g : k < s.length
  · obtain ⟨b, hb⟩ : ∃ b, s[k]? = some b := ⟨_, List.getElem?_eq_getElem g⟩
    have cp := c_peekS s k b hb hl
    rw [isC_some hb]
    by_cases h : (b.toNat : Int) = 44
    · rw [if_pos (by simpa using h), List.drop_drop, show p + (blk (s.drop p) + 1) = k + 1 by omega]
      have c2 := c_blanks s (k + 1) (by omega) hl
      obtain ⟨q, hq⟩ : ∃ q, q = k + 1 + blk (s.drop (k + 1)) := ⟨_, rfl⟩
      rw [← hq] at c2
      have e1 : p + (blk (s.drop p) + 1 + blk (s.drop (k + 1))) = q := by omega
      have e2 : decide (0 < blk (s.drop p) + 1 + blk (s.drop (k + 1))) = decide ((q : Int) > p) := decide_eq_decide.2 (by omega)
      have g1 : (q : Int) > p := by omega
      rw [e1, e2]
      clear hk hq e1 e2
      have hk1 : ((k : Int) + 1) = ((k + 1 : Nat) : Int) := by omega
      unfold rdr at *
      rw [← hk1] at c2
      conv => whnf
      refine ⟨rfl, ?_⟩
      conv => whnf
      refine ⟨rfl, Nat.le_of_ble_eq_true rfl, ?_⟩
      conv => whnf
      repeat' (first | (refine CallH.mem1 seat_g 0 c1 rfl (by simp [Closed, ClosedL]) (by simp [Closed, ClosedL]) (by simp [Closed, ClosedL]) rfl ?_; conv => whnf) | (refine CallH.mem1 seat_g 0 cp rfl (by simp [Closed, ClosedL]) (by simp [Closed, ClosedL]) (by simp [Closed, ClosedL]) rfl ?_; conv => whnf) | (refine CallH.mem1 seat_g 0 c2 rfl (by simp [Closed, ClosedL]) (by simp [Closed, ClosedL]) (by simp [Closed, ClosedL]) rfl ?_; conv => whnf) | ((first | refine zs (by omega) ?_ | refine zq6 ?_ | refine zs (by dsimp only; omega) ?_ | refine zs (show pendP _ _ by repeat' constructor) ?_ | (with_reducible first | refine brT ‹_› ?_ | refine brF ‹_› ?_ | refine zt (by omega) ?_ | refine zf (by omega) ?_ | refine brNot ?_)); conv => whnf))
      refine DrawH.plan seat_ok (.take 0 (.take 1 (.take 2 (.take 3 (.take 4 (.take 5 (.perform 6 none Plan.done))))))) 0 (by kernel_rfl) ?_
      conv => whnf
      repeat' ((first | refine zs (by omega) ?_ | refine zq6 ?_ | refine zs (by dsimp only; omega) ?_ | refine zs (show pendP _ _ by repeat' constructor) ?_ | (with_reducible first | refine brT ‹_› ?_ | refine brF ‹_› ?_ | refine zt (by omega) ?_ | refine zf (by omega) ?_ | refine brNot ?_)); conv => whnf)
      refine ⟨DCalls.plain seat_ok Tryd.func72 rfl rfl rfl ?_⟩
      conv => whnf
      repeat' ((first | refine zs (by omega) ?_ | refine zq6 ?_ | refine zs (by dsimp only; omega) ?_ | refine zs (show pendP _ _ by repeat' constructor) ?_ | (with_reducible first | refine brT ‹_› ?_ | refine brF ‹_› ?_ | refine zt (by omega) ?_ | refine zf (by omega) ?_ | refine brNot ?_)); conv => whnf)
      refine ⟨.inl rfl, ?_⟩
      conv => whnf
      exact ⟨rfl, rfl⟩
    · rw [if_neg (by simpa using h), ← hk]
      have e2 : decide (0 < blk (s.drop p)) = decide ((k : Int) > p) := decide_eq_decide.2 (by omega)
      rw [e2]
      unfold rdr at *
      by_cases g1 : (k : Int) > p
      · clear hk e2
        conv => whnf
        refine ⟨rfl, ?_⟩
        conv => whnf
        refine ⟨rfl, Nat.le_of_ble_eq_true rfl, ?_⟩
        conv => whnf
        repeat' (first | (refine CallH.mem1 seat_g 0 c1 rfl (by simp [Closed, ClosedL]) (by simp [Closed, ClosedL]) (by simp [Closed, ClosedL]) rfl ?_; conv => whnf) | (refine CallH.mem1 seat_g 0 cp rfl (by simp [Closed, ClosedL]) (by simp [Closed, ClosedL]) (by simp [Closed, ClosedL]) rfl ?_; conv => whnf) | ((first | refine zs (by omega) ?_ | refine zq6 ?_ | refine zs (by dsimp only; omega) ?_ | refine zs (show pendP _ _ by repeat' constructor) ?_ | (with_reducible first | refine brT ‹_› ?_ | refine brF ‹_› ?_ | refine zt (by omega) ?_ | refine zf (by omega) ?_ | refine brNot ?_)); conv => whnf))
        refine DrawH.plan seat_ok (.take 0 (.take 1 (.take 2 (.take 3 (.take 4 (.take 5 (.perform 6 none Plan.done))))))) 0 (by kernel_rfl) ?_
        conv => whnf
        repeat' ((first | refine zs (by omega) ?_ | refine zq6 ?_ | refine zs (by dsimp only; omega) ?_ | refine zs (show pendP _ _ by repeat' constructor) ?_ | (with_reducible first | refine brT ‹_› ?_ | refine brF ‹_› ?_ | refine zt (by omega) ?_ | refine zf (by omega) ?_ | refine brNot ?_)); conv => whnf)
        refine ⟨DCalls.plain seat_ok Tryd.func72 rfl rfl rfl ?_⟩
        conv => whnf
        repeat' ((first | refine zs (by omega) ?_ | refine zq6 ?_ | refine zs (by dsimp only; omega) ?_ | refine zs (show pendP _ _ by repeat' constructor) ?_ | (with_reducible first | refine brT ‹_› ?_ | refine brF ‹_› ?_ | refine zt (by omega) ?_ | refine zf (by omega) ?_ | refine brNot ?_)); conv => whnf)
        refine ⟨.inl rfl, ?_⟩
        conv => whnf
        exact ⟨rfl, rfl⟩
      · obtain rfl : k = p := by omega
        clear hk e2
        conv => whnf
        refine ⟨rfl, ?_⟩
        conv => whnf
        refine ⟨rfl, Nat.le_of_ble_eq_true rfl, ?_⟩
        conv => whnf
        repeat' (first | (refine CallH.mem1 seat_g 0 c1 rfl (by simp [Closed, ClosedL]) (by simp [Closed, ClosedL]) (by simp [Closed, ClosedL]) rfl ?_; conv => whnf) | (refine CallH.mem1 seat_g 0 cp rfl (by simp [Closed, ClosedL]) (by simp [Closed, ClosedL]) (by simp [Closed, ClosedL]) rfl ?_; conv => whnf) | ((first | refine zs (by omega) ?_ | refine zq6 ?_ | refine zs (by dsimp only; omega) ?_ | refine zs (show pendP _ _ by repeat' constructor) ?_ | (with_reducible first | refine brT ‹_› ?_ | refine brF ‹_› ?_ | refine zt (by omega) ?_ | refine zf (by omega) ?_ | refine brNot ?_)); conv => whnf))
        refine DrawH.plan seat_ok (.take 0 (.take 1 (.take 2 (.take 3 (.take 4 (.take 5 (.perform 6 none Plan.done))))))) 0 (by kernel_rfl) ?_
        conv => whnf
        repeat' ((first | refine zs (by omega) ?_ | refine zq6 ?_ | refine zs (by dsimp only; omega) ?_ | refine zs (show pendP _ _ by repeat' constructor) ?_ | (with_reducible first | refine brT ‹_› ?_ | refine brF ‹_› ?_ | refine zt (by omega) ?_ | refine zf (by omega) ?_ | refine brNot ?_)); conv => whnf)
        refine ⟨DCalls.plain seat_ok Tryd.func72 rfl rfl rfl ?_⟩
        conv => whnf
        repeat' ((first | refine zs (by omega) ?_ | refine zq6 ?_ | refine zs (by dsimp only; omega) ?_ | refine zs (show pendP _ _ by repeat' constructor) ?_ | (with_reducible first | refine brT ‹_› ?_ | refine brF ‹_› ?_ | refine zt (by omega) ?_ | refine zf (by omega) ?_ | refine brNot ?_)); conv => whnf)
        refine ⟨.inl rfl, ?_⟩
        conv => whnf
        exact ⟨rfl, rfl⟩
  · have hke : k = s.length := by omega
    have cp := c_peekN s hl
    rw [← hke] at cp
    rw [List.drop_eq_nil_of_le (by omega), if_neg (by decide), ← hk]
    have e2 : decide (0 < blk (s.drop p)) = decide ((k : Int) > p) := decide_eq_decide.2 (by omega)
    rw [e2]
    unfold rdr at *
    by_cases g1 : (k : Int) > p
    · clear hk e2
      conv => whnf
      refine ⟨rfl, ?_⟩
      conv => whnf
      refine ⟨rfl, Nat.le_of_ble_eq_true rfl, ?_⟩
      conv => whnf
      repeat' (first | (refine CallH.mem1 seat_g 0 c1 rfl (by simp [Closed, ClosedL]) (by simp [Closed, ClosedL]) (by simp [Closed, ClosedL]) rfl ?_; conv => whnf) | (refine CallH.mem1 seat_g 0 cp rfl (by simp [Closed, ClosedL]) (by simp [Closed, ClosedL]) (by simp [Closed, ClosedL]) rfl ?_; conv => whnf) | ((first | refine zs (by omega) ?_ | refine zq6 ?_ | refine zs (by dsimp only; omega) ?_ | refine zs (show pendP _ _ by repeat' constructor) ?_ | (with_reducible first | refine brT ‹_› ?_ | refine brF ‹_› ?_ | refine zt (by omega) ?_ | refine zf (by omega) ?_ | refine brNot ?_)); conv => whnf))
      refine DrawH.plan seat_ok (.take 0 (.take 1 (.take 2 (.take 3 (.take 4 (.take 5 (.perform 6 none Plan.done))))))) 0 (by kernel_rfl) ?_
      conv => whnf
      repeat' ((first | refine zs (by omega) ?_ | refine zq6 ?_ | refine zs (by dsimp only; omega) ?_ | refine zs (show pendP _ _ by repeat' constructor) ?_ | (with_reducible first | refine brT ‹_› ?_ | refine brF ‹_› ?_ | refine zt (by omega) ?_ | refine zf (by omega) ?_ | refine brNot ?_)); conv => whnf)
      refine ⟨DCalls.plain seat_ok Tryd.func72 rfl rfl rfl ?_⟩
      conv => whnf
      repeat' ((first | refine zs (by omega) ?_ | refine zq6 ?_ | refine zs (by dsimp only; omega) ?_ | refine zs (show pendP _ _ by repeat' constructor) ?_ | (with_reducible first | refine brT ‹_› ?_ | refine brF ‹_› ?_ | refine zt (by omega) ?_ | refine zf (by omega) ?_ | refine brNot ?_)); conv => whnf)
      refine ⟨.inl rfl, ?_⟩
      conv => whnf
      exact ⟨rfl, rfl⟩
    · have hkk : k = p := by omega
      clear hk e2
      subst hkk
      conv => whnf
      refine ⟨rfl, ?_⟩
      conv => whnf
      refine ⟨rfl, Nat.le_of_ble_eq_true rfl, ?_⟩
      conv => whnf
      repeat' (first | (refine CallH.mem1 seat_g 0 c1 rfl (by simp [Closed, ClosedL]) (by simp [Closed, ClosedL]) (by simp [Closed, ClosedL]) rfl ?_; conv => whnf) | (refine CallH.mem1 seat_g 0 cp rfl (by simp [Closed, ClosedL]) (by simp [Closed, ClosedL]) (by simp [Closed, ClosedL]) rfl ?_; conv => whnf) | ((first | refine zs (by omega) ?_ | refine zq6 ?_ | refine zs (by dsimp only; omega) ?_ | refine zs (show pendP _ _ by repeat' constructor) ?_ | (with_reducible first | refine brT ‹_› ?_ | refine brF ‹_› ?_ | refine zt (by omega) ?_ | refine zf (by omega) ?_ | refine brNot ?_)); conv => whnf))
      refine DrawH.plan seat_ok (.take 0 (.take 1 (.take 2 (.take 3 (.take 4 (.take 5 (.perform 6 none Plan.done))))))) 0 (by kernel_rfl) ?_
      conv => whnf
      repeat' ((first | refine zs (by omega) ?_ | refine zq6 ?_ | refine zs (by dsimp only; omega) ?_ | refine zs (show pendP _ _ by repeat' constructor) ?_ | (with_reducible first | refine brT ‹_› ?_ | refine brF ‹_› ?_ | refine zt (by omega) ?_ | refine zf (by omega) ?_ | refine brNot ?_)); conv => whnf)
      refine ⟨DCalls.plain seat_ok Tryd.func72 rfl rfl rfl ?_⟩
      conv => whnf
      repeat' ((first | refine zs (by omega) ?_ | refine zq6 ?_ | refine zs (by dsimp only; omega) ?_ | refine zs (show pendP _ _ by repeat' constructor) ?_ | (with_reducible first | refine brT ‹_› ?_ | refine brF ‹_› ?_ | refine zt (by omega) ?_ | refine zf (by omega) ?_ | refine brNot ?_)); conv => whnf)
      refine ⟨.inl rfl, ?_⟩
      conv => whnf
      exact ⟨rfl, rfl⟩
end Go.Proofs.YteicdddheaajlaaDoor
namespace Go.Proofs.YteicdddheaajlaaDoor
open Go.Abs
def capN (n : Int) : Int := if 97 ≤ n ∧ n ≤ 122 then n - 32 else n
def signL : List (Int × List UInt8) := [(77, [110, 110]), (76, [110, 110]), (72, [110]), (86, [110]), (67, [110, 110, 110, 110, 110, 110]), (83, [110, 110, 110, 110]), (81, [110, 110, 110, 110]), (84, [110, 110]), (65, [117, 117, 110, 103, 102, 110, 110]), (90, [])]
def signI (c : Int) : List (Int × List UInt8) → Option (Int × List UInt8)
  | [] => none
  | x :: l => if x.1 = capN c then some x else signI c l
def ofN (c : Int) : Option (Int × List UInt8) := signI c signL
theorem ofN_mem {c : Int} {x : Int × List UInt8} (h : ofN c = some x) : x ∈ signL ∧ x.1 = capN c := by
  have key : ∀ l : List (Int × List UInt8), signI c l = some x → x ∈ l ∧ x.1 = capN c := by
    intro l
    induction l with
    | nil => intro h; cases h
    | cons y l ih =>
      intro h
      unfold signI at h
      split at h
      · rename_i hy; cases h; exact ⟨.head _, hy⟩
      · exact ⟨.tail _ (ih h).1, (ih h).2⟩
  exact key _ h
theorem one_dig {d : UInt8} (h : kindN d.toNat = 0) : txtV [] [d] none none = .tup [.int .i64 (((d.toNat : Int) - 48) * 65536), .int .i64 0] := by
  have hc := kindN_cases d.toNat
  obtain ⟨e1, e2⟩ := txtN_val (A := [d]) (B := none) (fun b hb => by rw [List.mem_singleton.1 hb]; exact h) (by simp [digL])
  unfold txtV txtP
  rw [e1, e2]
  have hv : valN ([d] ++ (none : Option (List UInt8)).getD []) = ((d.toNat : Int) - 48).toNat := by simp [valN]
  rw [hv]
  obtain ⟨n, hn⟩ : ∃ n : Nat, (d.toNat : Int) - 48 = n := ⟨((d.toNat : Int) - 48).toNat, by omega⟩
  rw [hn, Int.toNat_natCast]
  have hr : refV (([] : List UInt8) == [45]) n ((if exDown none = true then 0 - exPow 1000 none else exPow 1000 none) - ((none : Option (List UInt8)).getD []).length) = n * 65536 := by
    show refV false n (0 - (0 : Nat)) = _
    have hD : dnM (0 - ((0 : Nat) : Int)) = 1 := rfl
    have hU : upM n (0 - ((0 : Nat) : Int)) = n * 65536 := by unfold upM; simp
    unfold refV
    rw [hD, hU, nearM_spec _ _ _ (by decide)]
    simp only [Bool.false_and, sg, Bool.false_eq_true, if_false]
    omega
  rw [hr]
  exact if_neg (by omega)
theorem parse_num (b : List UInt8) (hl : b.length ≤ 400) : ∃ v e : Int, (e = 0 ∨ (v = 0 ∧ (e = 2 ∨ e = 3))) ∧ (scR true b 0 = (b.length, true) → e ≠ 3) ∧ (∀ d, b = [d] → kindN d.toNat = 0 → v = ((d.toNat : Int) - 48) * 65536 ∧ e = 0) ∧
    ACalls seat 85 [.str b] [] (fun x _ => x = .ret (.tup [.int .i64 v, .int .i64 e])) ∧
    ACalls seat 71 [.str b] [] (fun x _ => x = .ret (.tup [.int .i64 v, .int .i64 e])) ∧ (-4294967296 < v ∧ v < 4294967296) := by
  by_cases hd : ∃ d, b = [d] ∧ kindN d.toNat = 0
  · obtain ⟨d, rfl, h2⟩ := hd
    have hT : TxtOK [] [d] none none := ⟨.inl rfl, fun b hb => by rw [List.mem_singleton.1 hb]; exact h2, by simp [digL], by simp, trivial⟩
    have d1 := c_dparse_txt hT (by simp [txt, dotL, expB])
    have d2 := c_rparse_txt hT (by simp [txt, dotL, expB])
    rw [one_dig h2, show txt [] [d] none none = [d] from rfl] at d1 d2
    have hc := kindN_cases d.toNat
    exact ⟨_, 0, .inl rfl, fun _ => by decide, fun d' h4 _ => by cases h4; exact ⟨rfl, rfl⟩, d1, d2, by omega⟩
  · have hno : ∀ (v e : Int) (d : UInt8), b = [d] → kindN d.toNat = 0 → v = ((d.toNat : Int) - 48) * 65536 ∧ e = 0 := fun v e d h4 h5 => absurd ⟨d, h4, h5⟩ hd
    by_cases h : scR true b 0 = (b.length, true)
    · obtain ⟨S, A, B, ex, rfl, ht⟩ := scan_dec h
      obtain ⟨a, e, h1, h2⟩ := outV_ex (refV (S == [45]) (txtN A B) (txtP A B ex))
      have d1 := c_dparse_txt ht hl
      have d2 := c_rparse_txt ht hl
      rw [show txtV S A B ex = _ from h1] at d1 d2
      exact ⟨a, e, by omega, fun _ => by omega, hno a e, d1, d2, by omega⟩
    · have h' : ¬ ((scR true b 0).2 = true ∧ (scR true b 0).1 = b.length) := fun g => h (Prod.ext g.2 g.1)
      refine ⟨0, 3, .inr ⟨rfl, .inr rfl⟩, fun g => absurd g h, hno 0 3, c_dparseE b (by omega) (fun g => h' ?_), c_rparseE b hl h', by decide⟩
      rw [scan_eq, addA_zero, List.drop_zero]
      exact g
noncomputable def valT (b : List UInt8) : Int × Int := if h : b.length ≤ 400 then ⟨Classical.choose (parse_num b h), Classical.choose (Classical.choose_spec (parse_num b h))⟩ else (0, 3)
theorem valT_all (b : List UInt8) (hl : b.length ≤ 400) : ((valT b).2 = 0 ∨ ((valT b).1 = 0 ∧ ((valT b).2 = 2 ∨ (valT b).2 = 3))) ∧ (scR true b 0 = (b.length, true) → (valT b).2 ≠ 3) ∧ (∀ d, b = [d] → kindN d.toNat = 0 → (valT b).1 = ((d.toNat : Int) - 48) * 65536 ∧ (valT b).2 = 0) ∧
    ACalls seat 85 [.str b] [] (fun x _ => x = .ret (.tup [.int .i64 (valT b).1, .int .i64 (valT b).2])) ∧
    ACalls seat 71 [.str b] [] (fun x _ => x = .ret (.tup [.int .i64 (valT b).1, .int .i64 (valT b).2])) ∧ (-4294967296 < (valT b).1 ∧ (valT b).1 < 4294967296) := by
  unfold valT
  rw [dif_pos hl]
  exact Classical.choose_spec (Classical.choose_spec (parse_num b hl))
noncomputable def numR (s : List UInt8) (p : Nat) (sg : Bool) : Int × Int × Nat :=
  if (scR sg s p).2 = true then ((valT ((s.drop p).take ((scR sg s p).1 - p))).1, (valT ((s.drop p).take ((scR sg s p).1 - p))).2, if (valT ((s.drop p).take ((scR sg s p).1 - p))).2 = 0 then (scR sg s p).1 else p) else (0, 3, (scR sg s p).1)
theorem numR_ok {s : List UInt8} {p q : Nat} {sg : Bool} (h : scR sg s p = (q, true)) : numR s p sg = ((valT ((s.drop p).take (q - p))).1, (valT ((s.drop p).take (q - p))).2, if (valT ((s.drop p).take (q - p))).2 = 0 then q else p) := by
  unfold numR; rw [h]; rfl
theorem numR_none {s : List UInt8} {p q : Nat} {sg : Bool} (h : scR sg s p = (q, false)) : numR s p sg = (0, 3, q) := by
  unfold numR; rw [h]; rfl
theorem numR_spec (s : List UInt8) (p : Nat) (sg : Bool) (hp : p ≤ s.length) (hl : s.length ≤ 400) :
    (p ≤ (numR s p sg).2.2 ∧ (numR s p sg).2.2 ≤ s.length) ∧ ((numR s p sg).2.1 = 0 → p < (numR s p sg).2.2) ∧ ((numR s p sg).2.1 = 2 → (numR s p sg).2.2 = p) ∧ ((numR s p sg).2.1 = 0 ∨ (numR s p sg).2.1 = 2 ∨ (numR s p sg).2.1 = 3) ∧
    ACalls seat 74 [.ptr 0 0, .bool sg] [.var (rdr s p) 107] (fun x h => x = .ret (.tup [.int .i64 (numR s p sg).1, .int .i64 (numR s p sg).2.1]) ∧ h = [.var (rdr s (numR s p sg).2.2) 107]) ∧
    ACalls seat 50 [.str s, .int .i64 p, .bool sg] [] (fun x _ => x = .ret (gotV (numR s p sg).1 (numR s p sg).2.1 (numR s p sg).2.2)) := by
  have hb := scR_bd sg s p hp
  obtain ⟨⟨q, ok⟩, hq⟩ : ∃ r, scR sg s p = r := ⟨_, rfl⟩
  cases ok with
  | false =>
    have h2 : (scR sg s p).2 = false := by rw [hq]
    have c1 := c_numberE s p sg hp (by omega) h2
    have c2 := c_rnumberE s p sg hp (by omega) h2
    rw [numR_none hq]
    rw [hq] at hb c1 c2
    exact ⟨hb, by simp, by simp, by simp, c1, c2⟩
  | true =>
    have hpos : p < q := by
      rw [scR_S] at hq
      have h1 := addA_full hq
      have h3 := scS_pos h1.2
      omega
    rw [numR_ok hq]
    rw [hq] at hb
    simp only at hb
    obtain ⟨he, -, -, d1, d2, -⟩ := valT_all ((s.drop p).take (q - p)) (by rw [List.length_take, List.length_drop]; omega)
    generalize (valT ((s.drop p).take (q - p))).1 = v at *
    generalize (valT ((s.drop p).take (q - p))).2 = e at *
    have c1 := c_numberV s p q sg v e hp (by omega) hq d1
    have c2 := c_rnumberV s p q sg v e hp (by omega) hq (by omega) d2
    refine ⟨?_, ?_, ?_, by dsimp only; omega, c1, c2⟩
    · dsimp only; split <;> omega
    · dsimp only; intro h; rw [if_pos h]; exact hpos
    · dsimp only; intro h; rw [if_neg (by omega)]
theorem numR_bd (s : List UInt8) (p : Nat) (sg : Bool) (hl : s.length ≤ 400) : -4294967296 < (numR s p sg).1 ∧ (numR s p sg).1 < 4294967296 := by
  unfold numR
  split
  · exact (valT_all _ (by rw [List.length_take, List.length_drop]; omega)).2.2.2.2.2
  · dsimp only; decide
theorem numR_dig {s : List UInt8} {p : Nat} {d : UInt8} (hd : s[p]? = some d) (hk : kindN d.toNat = 0) (hs : scR true s p = (p + 1, true)) : numR s p true = (((d.toNat : Int) - 48) * 65536, 0, p + 1) := by
  have htx : (s.drop p).take (p + 1 - p) = [d] := by rw [drop_cons' hd, Nat.add_sub_cancel_left]; rfl
  rw [numR_ok hs, htx]
  obtain ⟨h1, h2⟩ := (valT_all [d] (by simp)).2.2.1 d rfl hk
  rw [h1, h2]; rfl
noncomputable def argR (s : List UInt8) (k : UInt8) (p : Nat) : Int × Int × Nat := if k = 103 ∨ k = 102 then flR s p else numR s p (k == 110)
noncomputable def grpR (s : List UInt8) : List UInt8 → Nat → Nat → List Int → List Int × Int × Nat
  | [], _, p, acc => (acc, 0, p)
  | k :: ks, i, p, acc =>
    let p1 := if 0 < i then p + gapN (s.drop p) else p
    if k = 103 ∧ p1 = p then ([], 3, p) else if (argR s k p1).2.1 ≠ 0 then ([], (argR s k p1).2.1, (argR s k p1).2.2) else grpR s ks (i + 1) (argR s k p1).2.2 (acc ++ [(argR s k p1).1])
def begB (n : Int) (sg : Bool) : Bool := (decide (48 ≤ n) && decide (n ≤ 57)) || n == 46 || (sg && (n == 43 || n == 45))
def begR (s : List UInt8) (p : Nat) (sg : Bool) : Bool := match s[p]? with
  | some b => begB b.toNat sg
  | none => false
theorem begR_some {s : List UInt8} {p : Nat} {b : UInt8} (h : s[p]? = some b) (sg : Bool) : begR s p sg = begB b.toNat sg := by unfold begR; rw [h]
theorem begR_none {s : List UInt8} {p : Nat} (h : s.length ≤ p) (sg : Bool) : begR s p sg = false := by unfold begR; rw [List.getElem?_eq_none h]
def moreR (s : List UInt8) (sg : Bool) (p : Nat) : Bool × Nat :=
  if isC (s.drop (p + blk (s.drop p))) = true then (true, p + blk (s.drop p) + 1 + blk (s.drop (p + blk (s.drop p) + 1))) else (begR s (p + blk (s.drop p)) sg, p + blk (s.drop p))
def nextC (c : UInt8) : UInt8 := if c = 77 then 76 else if c = 109 then 108 else c
noncomputable def runR (s : List UInt8) (args : List UInt8) : Nat → UInt8 → Nat → List (UInt8 × List Int) × Int × Nat
  | 0, _, p => ([], 0, p)
  | n + 1, c, p =>
    let g := grpR s args 0 p []
    if g.2.1 ≠ 0 then ([], g.2.1, g.2.2)
    else
      let m := moreR s (args.head? == some 110) g.2.2
      if m.1 = true then ((c, g.1) :: (runR s args n (nextC c) m.2).1, (runR s args n (nextC c) m.2).2.1, (runR s args n (nextC c) m.2).2.2) else ([(c, g.1)], 0, m.2)
noncomputable def walkR (s : List UInt8) : Nat → Bool → Nat → List (UInt8 × List Int) × Int × Nat
  | 0, _, p => ([], 0, p)
  | n + 1, first, p => match s[p]? with
    | none => ([], 0, p)
    | some c => match ofN c.toNat with
      | none => ([], 3, p)
      | some x =>
        if first = true ∧ x.1 ≠ 77 then ([], 3, p)
        else
          let p1 := p + 1 + blk (s.drop (p + 1))
          if x.2 = [] then ((c, []) :: (walkR s n false p1).1, (walkR s n false p1).2)
          else
            let r := runR s x.2 (s.length + 1) c p1
            if r.2.1 ≠ 0 then (r.1, r.2.1, r.2.2) else (r.1 ++ (walkR s n false r.2.2).1, (walkR s n false r.2.2).2)
noncomputable def pathR (s : List UInt8) : List (UInt8 × List Int) × Int × Nat := walkR s (s.length + 1) true (blk s)
end Go.Proofs.YteicdddheaajlaaDoor
namespace Go.Proofs.YteicdddheaajlaaDoor
open Go.Abs
theorem signI_some {c : Int} {x : Int × List UInt8} : ∀ {l : List (Int × List UInt8)}, signI c l = some x → ∃ i, l[i]? = some x ∧ x.1 = capN c ∧ ∀ (j : Nat) (y : Int × List UInt8), j < i → l[j]? = some y → y.1 ≠ capN c
  | y :: l, h => by
    unfold signI at h
    split at h
    · rename_i hy; cases h; exact ⟨0, rfl, hy, fun j y hj => absurd hj (by omega)⟩
    · rename_i hy
      obtain ⟨i, h1, h2, h3⟩ := signI_some h
      refine ⟨i + 1, h1, h2, fun j z hj hz => ?_⟩
      cases j with
      | zero => cases hz; exact hy
      | succ j => exact h3 j z (by omega) hz
theorem signI_none {c : Int} : ∀ {l : List (Int × List UInt8)}, signI c l = none → ∀ (j : Nat) (y : Int × List UInt8), l[j]? = some y → y.1 ≠ capN c
  | [], _, j, y, h => by cases h
  | x :: l, h, j, y, hj => by
    unfold signI at h
    split at h
    · cases h
    · rename_i hy
      cases j with
      | zero => cases hj; exact hy
      | succ j => exact signI_none h j y hj
def signC : List AV := [.int .u8 77, .str [110, 110], .int .u8 76, .str [110, 110], .int .u8 72, .str [110], .int .u8 86, .str [110], .int .u8 67, .str [110, 110, 110, 110, 110, 110], .int .u8 83, .str [110, 110, 110, 110], .int .u8 81, .str [110, 110, 110, 110], .int .u8 84, .str [110, 110], .int .u8 65, .str [117, 117, 110, 103, 102, 110, 110], .int .u8 90, .str []]
theorem sign_ld : ∀ {i : Nat} {x : Int × List UInt8}, signL[i]? = some x → sub signC (i * 2) 2 = some [.int .u8 x.1, .str x.2]
  | 0, _, h => by cases h; rfl
  | 1, _, h => by cases h; rfl
  | 2, _, h => by cases h; rfl
  | 3, _, h => by cases h; rfl
  | 4, _, h => by cases h; rfl
  | 5, _, h => by cases h; rfl
  | 6, _, h => by cases h; rfl
  | 7, _, h => by cases h; rfl
  | 8, _, h => by cases h; rfl
  | 9, _, h => by cases h; rfl
  | i + 10, _, h => by cases h
theorem sign_ld2 : ∀ {i : Nat} {x : Int × List UInt8}, signL[i]? = some x → partK true (dropL signC (i * 2)) 0 2 = some (.agg [.int .u8 x.1, .str x.2])
  | 0, _, h => by cases h; rfl
  | 1, _, h => by cases h; rfl
  | 2, _, h => by cases h; rfl
  | 3, _, h => by cases h; rfl
  | 4, _, h => by cases h; rfl
  | 5, _, h => by cases h; rfl
  | 6, _, h => by cases h; rfl
  | 7, _, h => by cases h; rfl
  | 8, _, h => by cases h; rfl
  | 9, _, h => by cases h; rfl
  | i + 10, _, h => by cases h
theorem signL_lt {i : Nat} {x : Int × List UInt8} (h : signL[i]? = some x) : i < 10 := (List.getElem?_eq_some_iff.1 h).1
theorem c_capital (c : Int) (hc : 0 ≤ c ∧ c < 256) : ACalls seat 56 [.int .u8 c] [] (fun x _ => x = .ret (.int .u8 (capN c))) := by
  refine ACalls.body seat_ok Tryd.func56 rfl rfl ?_
  unfold capN
  by_cases h1 : 97 ≤ c
  · by_cases h2 : c ≤ 122
    · rw [if_pos ⟨h1, h2⟩, show c - 32 = c - 97 + 65 by omega]
      conv => whnf
      repeat' (first | exact rfl | (refine WrapH.is _ (wrap_u8 (by omega) (by omega)) ?_; conv => whnf) | ((first | refine zs (by omega) ?_ | refine zq6 ?_ | refine zs (by dsimp only; omega) ?_ | refine zs (show pendP _ _ by repeat' constructor) ?_ | (with_reducible first | refine brT ‹_› ?_ | refine brF ‹_› ?_ | refine zt (by omega) ?_ | refine zf (by omega) ?_ | refine brNot ?_)); conv => whnf))
    · rw [if_neg (fun h => h2 h.2)]
      conv => whnf
      repeat' (first | exact rfl | ((first | refine zs (by omega) ?_ | refine zq6 ?_ | refine zs (by dsimp only; omega) ?_ | refine zs (show pendP _ _ by repeat' constructor) ?_ | (with_reducible first | refine brT ‹_› ?_ | refine brF ‹_› ?_ | refine zt (by omega) ?_ | refine zf (by omega) ?_ | refine brNot ?_)); conv => whnf))
  · rw [if_neg (fun h => h1 h.1)]
    conv => whnf
    repeat' (first | exact rfl | ((first | refine zs (by omega) ?_ | refine zq6 ?_ | refine zs (by dsimp only; omega) ?_ | refine zs (show pendP _ _ by repeat' constructor) ?_ | (with_reducible first | refine brT ‹_› ?_ | refine brF ‹_› ?_ | refine zt (by omega) ?_ | refine zf (by omega) ?_ | refine brNot ?_)); conv => whnf))
theorem c_of1 (a c : Int) (r : List UInt8) (hc : 0 ≤ c ∧ c < 256) : ACalls seat 55 [.agg [.int .u8 a, .str r], .ptr 0 0] [.var [.int .u8 c] 5] (fun x h => x = .ret (.bool (a == capN c)) ∧ h = [.var [.int .u8 c] 5]) := by
  refine ACalls.take seat_g 1 (Nat.le_refl _) (by simp [Ids]) (by simp [IdsH, IdsC, IdsL, Ids]) ?_
  have cc := c_capital c hc
  refine ACalls.body seat_ok Tryd.func55 rfl rfl ?_
  conv => whnf
  refine DrawH.plan seat_ok (.take 0 (.take 1 (.take 2 (.perform 3 none (.take 4 (.take 5 Plan.done)))))) 0 (by kernel_rfl) ?_
  conv => whnf
  repeat' (first | exact ⟨rfl, rfl⟩ | (refine lf seat_g cc ?_; conv => whnf) | ((first | refine zs (by omega) ?_ | refine zq6 ?_ | refine zs (by dsimp only; omega) ?_ | refine zs (show pendP _ _ by repeat' constructor) ?_ | (with_reducible first | refine brT ‹_› ?_ | refine brF ‹_› ?_ | refine zt (by omega) ?_ | refine zf (by omega) ?_ | refine brNot ?_)); conv => whnf))
set_option maxRecDepth 20000 in
theorem c_idx (c : Int) (hc : 0 ≤ c ∧ c < 256) (R : Int) (hR : (∃ i x, signL[i]? = some x ∧ x.1 = capN c ∧ (∀ (j : Nat) (y : Int × List UInt8), j < i → signL[j]? = some y → y.1 ≠ capN c) ∧ R = (i : Nat)) ∨ ((∀ (j : Nat) (y : Int × List UInt8), signL[j]? = some y → y.1 ≠ capN c) ∧ R = -1)) :
    ACalls seat 54 [.vec signC 10 none, .fn 55 [] [.ptr 0 0]] [.var [.int .u8 c] 5] (fun x h => x = .ret (.int .i64 R) ∧ h = [.var [.int .u8 c] 5]) := by
  refine ACalls.body seat_ok Tryd.func54 rfl rfl ?_
  conv => whnf
  refine Sat.cut (fun x t h => ((x = .ret ∧ t = (uu::uu::uu::uu::.int .i64 R::uu::uu::uu::uu::uu::uu::uu::uu::uu::uu::uu::uu::uu::uu::[])) ∨ (x = .exit 0 ∧ R = -1 ∧ t = (uu::.fn 55 [] [.ptr 0 0]::uu::uu::uu::uu::uu::uu::uu::uu::uu::uu::uu::uu::uu::uu::uu::uu::uu::[]))) ∧ h = [.var [.int .u8 c] 5]) ?_ ?_
  · refine Sat.invP seat_ok seat_g (maskOf 19 [0, 1, 7, 8]) 1 (fun μ t h => ∃ (i : Nat) (z : Int), z = i ∧ i ≤ 10 ∧ (∀ (j : Nat) (y : Int × List UInt8), j < i → signL[j]? = some y → y.1 ≠ capN c) ∧ μ = 10 - i ∧ t = (.vec signC 10 none::.fn 55 [] [.ptr 0 0]::uu::uu::uu::uu::uu::.int .i64 10::.int .i64 z::uu::uu::uu::uu::uu::uu::uu::uu::uu::uu::[]) ∧ h = [.var [.int .u8 c] 5])
      ?_ ⟨_, _, WeakL.of_eq rfl, 0, 0, rfl, by omega, fun j y hj => absurd hj (by omega), rfl, rfl, rfl⟩ ?_
    · rintro _ _ _ ⟨i, z, -, -, -, -, rfl, rfl⟩
      exact ⟨rfl, by simp [IdsL, Ids, signC], by simp [IdsH, IdsC, IdsL, Ids]⟩
    rintro _ _ _ ⟨i, z, hz, hi, hb, rfl, rfl, rfl⟩
    by_cases g : i < 10
    · obtain ⟨⟨a, r⟩, hx⟩ : ∃ x, signL[i]? = some x := ⟨_, List.getElem?_eq_getElem g⟩
      have hld := sign_ld hx
      have hzi : z.toNat = i := by omega
      rw [← hzi] at hld
      have gz : z < 10 := by omega
      have c1 := c_of1 a c r hc
      by_cases he : a = capN c
      · have hRz : R = z := by
          rcases hR with ⟨i2, x2, h1, h2, h3, h4⟩ | ⟨h1, -⟩
          · have : i2 = i := by
              apply Classical.byContradiction; intro hne
              rcases Nat.lt_or_gt_of_ne hne with h5 | h5
              · exact hb i2 x2 h5 h1 h2
              · exact h3 i _ h5 hx he
            omega
          · exact absurd he (h1 i _ hx)
        rw [show (a == capN c) = true by simpa using he] at c1
        rw [hRz]
        clear hb hR
        conv => whnf
        repeat' (first | exact ⟨_, keepT_weak (maskOf 19 [4]) _, .inl ⟨rfl, rfl⟩, rfl⟩ | (refine ldI _ hld ?_; conv => whnf) | (refine CallH.mem1 seat_g 0 c1 rfl (by simp [Closed, ClosedL]) (by simp [Closed, ClosedL]) (by simp [Closed, ClosedL]) rfl ?_; conv => whnf) | ((first | refine zs (by omega) ?_ | refine zq6 ?_ | refine zs (by dsimp only; omega) ?_ | refine zs (show pendP _ _ by repeat' constructor) ?_ | (with_reducible first | refine brT ‹_› ?_ | refine brF ‹_› ?_ | refine zt (by omega) ?_ | refine zf (by omega) ?_ | refine brNot ?_)); conv => whnf))
      · rw [show (a == capN c) = false by simpa using he] at c1
        have hb2 : ∀ (j : Nat) (y : Int × List UInt8), j < i + 1 → signL[j]? = some y → y.1 ≠ capN c := fun j y hj hy => by
          by_cases h : j = i
          · subst h; rw [hx] at hy; cases hy; exact he
          · exact hb j y (by omega) hy
        clear hb hR
        conv => whnf
        repeat' (first | exact ⟨_, _, show 10 - (i + 1) < 10 - i by omega, WeakL.of_eq rfl, i + 1, z + 1, by omega, by omega, hb2, rfl, rfl, rfl⟩ | (refine ldI _ hld ?_; conv => whnf) | (refine CallH.mem1 seat_g 0 c1 rfl (by simp [Closed, ClosedL]) (by simp [Closed, ClosedL]) (by simp [Closed, ClosedL]) rfl ?_; conv => whnf) | ((first | refine zs (by omega) ?_ | refine zq6 ?_ | refine zs (by dsimp only; omega) ?_ | refine zs (show pendP _ _ by repeat' constructor) ?_ | (with_reducible first | refine brT ‹_› ?_ | refine brF ‹_› ?_ | refine zt (by omega) ?_ | refine zf (by omega) ?_ | refine brNot ?_)); conv => whnf))
    · have gz : ¬ (z < 10) := by omega
      have hR1 : R = -1 := by
        rcases hR with ⟨i2, x2, h1, h2, -, -⟩ | ⟨-, h⟩
        · exact absurd h2 (hb i2 x2 (by have := signL_lt h1; omega) h1)
        · exact h
      clear hb hR
      conv => whnf
      repeat' (first | exact ⟨_, keepT_weak (maskOf 19 [1]) _, .inr ⟨rfl, hR1, rfl⟩, rfl⟩ | ((first | refine zs (by omega) ?_ | refine zq6 ?_ | refine zs (by dsimp only; omega) ?_ | refine zs (show pendP _ _ by repeat' constructor) ?_ | (with_reducible first | refine brT ‹_› ?_ | refine brF ‹_› ?_ | refine zt (by omega) ?_ | refine zf (by omega) ?_ | refine brNot ?_)); conv => whnf))
  · rintro _ _ _ ⟨⟨rfl, rfl⟩ | ⟨rfl, hR1, rfl⟩, rfl⟩
    · conv => whnf
      exact ⟨rfl, rfl⟩
    · subst hR1
      conv => whnf
      exact ⟨rfl, rfl⟩
def pofV (c : Int) : AV := match ofN c with
  | some x => .tup [.agg [.int .u8 x.1, .str x.2], .bool true]
  | none => .tup [.agg [.int .u8 0, .str []], .bool false]
theorem c_pof (c : Int) (hc : 0 ≤ c ∧ c < 256) : ACalls seat 37 [.int .u8 c] [] (fun x _ => x = .ret (pofV c)) := by
  refine ACalls.body seat_ok Tryd.func37 rfl rfl ?_
  unfold pofV ofN
  cases h : signI c signL with
  | none =>
    have ci := c_idx c hc (-1) (.inr ⟨signI_none h, rfl⟩)
    conv => whnf
    repeat' (first | exact rfl | (refine Req.mk (by decide) ?_; conv => whnf) | (refine CallH.mem1 seat_g 0 ci rfl (by simp [Closed, ClosedL]) (by simp [Closed, ClosedL]) (by simp [Closed, ClosedL]) rfl ?_; conv => whnf) | ((first | refine zs (by omega) ?_ | refine zq6 ?_ | refine zs (by dsimp only; omega) ?_ | refine zs (show pendP _ _ by repeat' constructor) ?_ | (with_reducible first | refine brT ‹_› ?_ | refine brF ‹_› ?_ | refine zt (by omega) ?_ | refine zf (by omega) ?_ | refine brNot ?_)); conv => whnf))
  | some x =>
    obtain ⟨i, h1, h2, h3⟩ := signI_some h
    have ci := c_idx c hc i (.inl ⟨i, x, h1, h2, h3, rfl⟩)
    have hi := signL_lt h1
    have hld := sign_ld2 h1
    have hi0 : ¬ ((i : Int) < 0) := by omega
    conv => whnf
    repeat' (first | exact rfl | (refine Req.mk (by decide) ?_; conv => whnf) | (refine CallH.mem1 seat_g 0 ci rfl (by simp [Closed, ClosedL]) (by simp [Closed, ClosedL]) (by simp [Closed, ClosedL]) rfl ?_; conv => whnf) | (refine ldI _ hld ?_; conv => whnf) | ((first | refine zs (by omega) ?_ | refine zq6 ?_ | refine zs (by dsimp only; omega) ?_ | refine zs (show pendP _ _ by repeat' constructor) ?_ | (with_reducible first | refine brT ‹_› ?_ | refine brF ‹_› ?_ | refine zt (by omega) ?_ | refine zf (by omega) ?_ | refine brNot ?_)); conv => whnf))
end Go.Proofs.YteicdddheaajlaaDoor
namespace Go.Proofs.YteicdddheaajlaaDoor
open Go.Abs
theorem c_begins (n k : Int) (sg : Bool) (hk : sg = decide (k ≠ 117)) : ACalls seat 59 [.int .u8 n, .int .u8 k] [] (fun x _ => x = .ret (.bool (begB n sg))) := by
  refine ACalls.body seat_ok Tryd.func59 rfl rfl ?_
  by_cases h1 : 48 ≤ n ∧ n ≤ 57
  · have e : begB n sg = true := by simp [begB, h1.1, h1.2]
    have h2 := h1.1
    have h3 := h1.2
    rw [e]
    conv => whnf
    repeat' (first | exact rfl | ((first | refine zs (by omega) ?_ | refine zq6 ?_ | refine zs (by dsimp only; omega) ?_ | refine zs (show pendP _ _ by repeat' constructor) ?_ | (with_reducible first | refine brT ‹_› ?_ | refine brF ‹_› ?_ | refine zt (by omega) ?_ | refine zf (by omega) ?_ | refine brNot ?_)); conv => whnf))
  · have e0 : begB n sg = (n == 46 || (sg && (n == 43 || n == 45))) := by
      unfold begB
      by_cases h2 : 48 ≤ n
      · rw [decide_eq_true h2, decide_eq_false (fun h => h1 ⟨h2, h⟩)]; rfl
      · rw [decide_eq_false h2]; rfl
    have htail : ∀ b : Bool, b = begB n sg → AEnd.ret (.bool b) = AEnd.ret (.bool (begB n sg)) := fun b h => by rw [h]
    by_cases h4 : n = 46
    · have e : begB n sg = true := by rw [e0, h4]; rfl
      have h5 : ¬ (n ≥ 48) := by omega
      rw [e]
      conv => whnf
      repeat' (first | exact rfl | ((first | refine zs (by omega) ?_ | refine zq6 ?_ | refine zs (by dsimp only; omega) ?_ | refine zs (show pendP _ _ by repeat' constructor) ?_ | (with_reducible first | refine brT ‹_› ?_ | refine brF ‹_› ?_ | refine zt (by omega) ?_ | refine zf (by omega) ?_ | refine brNot ?_)); conv => whnf))
    · have e1 : begB n sg = (sg && (n == 43 || n == 45)) := by rw [e0, show (n == 46) = false by simpa using h4]; rfl
      by_cases h6 : k = 117
      · have e : begB n sg = false := by rw [e1, hk, decide_eq_false (fun h => h h6)]; rfl
        rw [e]
        by_cases h7 : n ≥ 48
        · have h8 : ¬ (n ≤ 57) := fun h => h1 ⟨h7, h⟩
          conv => whnf
          repeat' (first | exact rfl | ((first | refine zs (by omega) ?_ | refine zq6 ?_ | refine zs (by dsimp only; omega) ?_ | refine zs (show pendP _ _ by repeat' constructor) ?_ | (with_reducible first | refine brT ‹_› ?_ | refine brF ‹_› ?_ | refine zt (by omega) ?_ | refine zf (by omega) ?_ | refine brNot ?_)); conv => whnf))
        · conv => whnf
          repeat' (first | exact rfl | ((first | refine zs (by omega) ?_ | refine zq6 ?_ | refine zs (by dsimp only; omega) ?_ | refine zs (show pendP _ _ by repeat' constructor) ?_ | (with_reducible first | refine brT ‹_› ?_ | refine brF ‹_› ?_ | refine zt (by omega) ?_ | refine zf (by omega) ?_ | refine brNot ?_)); conv => whnf))
      · have e2 : begB n sg = (n == 43 || n == 45) := by rw [e1, hk, decide_eq_true h6]; rfl
        by_cases h9 : n = 43
        · have e : begB n sg = true := by rw [e2, h9]; rfl
          have h7 : ¬ (n ≥ 48) := by omega
          rw [e]
          conv => whnf
          repeat' (first | exact rfl | ((first | refine zs (by omega) ?_ | refine zq6 ?_ | refine zs (by dsimp only; omega) ?_ | refine zs (show pendP _ _ by repeat' constructor) ?_ | (with_reducible first | refine brT ‹_› ?_ | refine brF ‹_› ?_ | refine zt (by omega) ?_ | refine zf (by omega) ?_ | refine brNot ?_)); conv => whnf))
        · have e : begB n sg = (n == 45) := by rw [e2, show (n == 43) = false by simpa using h9]; rfl
          rw [e]
          by_cases h7 : n ≥ 48
          · have h8 : ¬ (n ≤ 57) := fun h => h1 ⟨h7, h⟩
            conv => whnf
            repeat' (first | exact rfl | ((first | refine zs (by omega) ?_ | refine zq6 ?_ | refine zs (by dsimp only; omega) ?_ | refine zs (show pendP _ _ by repeat' constructor) ?_ | (with_reducible first | refine brT ‹_› ?_ | refine brF ‹_› ?_ | refine zt (by omega) ?_ | refine zf (by omega) ?_ | refine brNot ?_)); conv => whnf))
          · conv => whnf
            repeat' (first | exact rfl | ((first | refine zs (by omega) ?_ | refine zq6 ?_ | refine zs (by dsimp only; omega) ?_ | refine zs (show pendP _ _ by repeat' constructor) ?_ | (with_reducible first | refine brT ‹_› ?_ | refine brF ‹_› ?_ | refine zt (by omega) ?_ | refine zf (by omega) ?_ | refine brNot ?_)); conv => whnf))
theorem c_arg (s : List UInt8) (k : UInt8) (p : Nat) (hp : p ≤ s.length) (hl : s.length ≤ 400) (hk : k = 110 ∨ k = 117 ∨ k = 103 ∨ k = 102) : ACalls seat 58 [.ptr 0 0, .int .u8 k.toNat] [.var (rdr s p) 107] (fun x h => x = .ret (.tup [.int .i64 (argR s k p).1, .int .i64 (argR s k p).2.1]) ∧ h = [.var (rdr s (argR s k p).2.2) 107]) := by
  have cf := c_flag s p hp (by omega)
  have n1 := (numR_spec s p true hp hl).2.2.2.2.1
  have n0 := (numR_spec s p false hp hl).2.2.2.2.1
  refine ACalls.body seat_ok Tryd.func58 rfl rfl ?_
  rcases hk with rfl | rfl | rfl | rfl
  · rw [show argR s 110 p = numR s p true from if_neg (by decide)]
    unfold rdr at *
    conv => whnf
    repeat' (first | exact ⟨rfl, rfl⟩ | (refine CallH.mem1 seat_g 0 n1 rfl (by simp [Closed, ClosedL]) (by simp [Closed, ClosedL]) (by simp [Closed, ClosedL]) rfl ?_; conv => whnf) | ((first | refine zs (by omega) ?_ | refine zq6 ?_ | refine zs (by dsimp only; omega) ?_ | refine zs (show pendP _ _ by repeat' constructor) ?_ | (with_reducible first | refine brT ‹_› ?_ | refine brF ‹_› ?_ | refine zt (by omega) ?_ | refine zf (by omega) ?_ | refine brNot ?_)); conv => whnf))
  · rw [show argR s 117 p = numR s p false from if_neg (by decide)]
    unfold rdr at *
    conv => whnf
    repeat' (first | exact ⟨rfl, rfl⟩ | (refine CallH.mem1 seat_g 0 n0 rfl (by simp [Closed, ClosedL]) (by simp [Closed, ClosedL]) (by simp [Closed, ClosedL]) rfl ?_; conv => whnf) | ((first | refine zs (by omega) ?_ | refine zq6 ?_ | refine zs (by dsimp only; omega) ?_ | refine zs (show pendP _ _ by repeat' constructor) ?_ | (with_reducible first | refine brT ‹_› ?_ | refine brF ‹_› ?_ | refine zt (by omega) ?_ | refine zf (by omega) ?_ | refine brNot ?_)); conv => whnf))
  · rw [show argR s 103 p = flR s p from if_pos (by decide)]
    unfold rdr at *
    conv => whnf
    repeat' (first | exact ⟨rfl, rfl⟩ | (refine CallH.mem1 seat_g 0 cf rfl (by simp [Closed, ClosedL]) (by simp [Closed, ClosedL]) (by simp [Closed, ClosedL]) rfl ?_; conv => whnf) | ((first | refine zs (by omega) ?_ | refine zq6 ?_ | refine zs (by dsimp only; omega) ?_ | refine zs (show pendP _ _ by repeat' constructor) ?_ | (with_reducible first | refine brT ‹_› ?_ | refine brF ‹_› ?_ | refine zt (by omega) ?_ | refine zf (by omega) ?_ | refine brNot ?_)); conv => whnf))
  · rw [show argR s 102 p = flR s p from if_pos (by decide)]
    unfold rdr at *
    conv => whnf
    repeat' (first | exact ⟨rfl, rfl⟩ | (refine CallH.mem1 seat_g 0 cf rfl (by simp [Closed, ClosedL]) (by simp [Closed, ClosedL]) (by simp [Closed, ClosedL]) rfl ?_; conv => whnf) | ((first | refine zs (by omega) ?_ | refine zq6 ?_ | refine zs (by dsimp only; omega) ?_ | refine zs (show pendP _ _ by repeat' constructor) ?_ | (with_reducible first | refine brT ‹_› ?_ | refine brF ‹_› ?_ | refine zt (by omega) ?_ | refine zf (by omega) ?_ | refine brNot ?_)); conv => whnf))
theorem argR_bd (s : List UInt8) (k : UInt8) (p : Nat) (hp : p ≤ s.length) (hl : s.length ≤ 400) : (p ≤ (argR s k p).2.2 ∧ (argR s k p).2.2 ≤ s.length) ∧ ((argR s k p).2.1 = 0 → p < (argR s k p).2.2) := by
  unfold argR
  split
  · by_cases g : p < s.length
    · rw [flR_some (List.getElem?_eq_getElem g)]
      split
      · exact ⟨⟨by simp only; omega, by simp only; omega⟩, fun _ => by simp only; omega⟩
      · exact ⟨⟨Nat.le_refl _, hp⟩, fun h => by simp only at h; omega⟩
    · rw [flR_none (by omega)]
      exact ⟨⟨Nat.le_refl _, hp⟩, fun h => by simp only at h; omega⟩
  · have h := numR_spec s p (k == 110) hp hl
    exact ⟨h.1, h.2.1⟩
set_option maxRecDepth 20000 in
theorem c_more (s : List UInt8) (k : UInt8) (r : List UInt8) (p : Nat) (hp : p ≤ s.length) (hl : s.length ≤ 900000) (hr : r.length ≤ 100) (hk : k = 110 ∨ k = 117) : ACalls seat 46 [.ptr 0 0, .str (k :: r)] [.var (rdr s p) 107] (fun x h => x = .ret (.bool (moreR s (k == 110) p).1) ∧ h = [.var (rdr s (moreR s (k == 110) p).2) 107]) := by
  have c1 := c_blanks s p hp hl
  have hin := blk_in s p hp
  unfold moreR
  obtain ⟨q, hq⟩ : ∃ q, q = p + blk (s.drop p) := ⟨_, rfl⟩
  rw [← hq] at c1 hin ⊢
  have hlk : (0 : Int) < (k :: r).length := by simp only [List.length_cons]; omega
  have hgk : ((k :: r).length : Int) > 0 := hlk
  have hk0 : (k :: r)[(0 : Int).toNat]? = some k := rfl
  refine ACalls.body seat_ok Tryd.func46 rfl rfl ?_
  by_cases g : q < s.length
  · obtain ⟨b, hb⟩ : ∃ b, s[q]? = some b := ⟨_, List.getElem?_eq_getElem g⟩
    have cp := c_peekS s q b hb hl
    rw [isC_some hb]
    by_cases h : (b.toNat : Int) = 44
    · rw [if_pos (by simpa using h)]
      have cs := c_skip s q (by omega) hl
      rw [Nat.min_eq_left (by omega)] at cs
      have c2 := c_blanks s (q + 1) (by omega) hl
      clear hq
      unfold rdr at *
      conv => whnf
      repeat' (first | exact ⟨rfl, rfl⟩ | (refine CallH.mem1 seat_g 0 c1 rfl (by simp [Closed, ClosedL]) (by simp [Closed, ClosedL]) (by simp [Closed, ClosedL]) rfl ?_; conv => whnf) | (refine CallH.mem1 seat_g 0 cp rfl (by simp [Closed, ClosedL]) (by simp [Closed, ClosedL]) (by simp [Closed, ClosedL]) rfl ?_; conv => whnf) | (refine CallH.mem1 seat_g 0 cs rfl (by simp [Closed, ClosedL]) (by simp [Closed, ClosedL]) (by simp [Closed, ClosedL]) rfl ?_; conv => whnf) | (refine CallH.mem1 seat_g 0 c2 rfl (by simp [Closed, ClosedL]) (by simp [Closed, ClosedL]) (by simp [Closed, ClosedL]) rfl ?_; conv => whnf) | ((first | refine zs (by omega) ?_ | refine zq6 ?_ | refine zs (by dsimp only; omega) ?_ | refine zs (show pendP _ _ by repeat' constructor) ?_ | (with_reducible first | refine brT ‹_› ?_ | refine brF ‹_› ?_ | refine zt (by omega) ?_ | refine zf (by omega) ?_ | refine brNot ?_)); conv => whnf))
    · rw [if_neg (by simpa using h), begR_some hb]
      have cb := c_begins b.toNat k.toNat (k == 110) (by rcases hk with rfl | rfl <;> rfl)
      clear hq
      unfold rdr at *
      conv => whnf
      repeat' (first | exact ⟨rfl, rfl⟩ | (refine CallH.mem1 seat_g 0 c1 rfl (by simp [Closed, ClosedL]) (by simp [Closed, ClosedL]) (by simp [Closed, ClosedL]) rfl ?_; conv => whnf) | (refine CallH.mem1 seat_g 0 cp rfl (by simp [Closed, ClosedL]) (by simp [Closed, ClosedL]) (by simp [Closed, ClosedL]) rfl ?_; conv => whnf) | (refine ldI _ hk0 ?_; conv => whnf) | (refine lf seat_g cb ?_; conv => whnf) | ((first | refine zs (by omega) ?_ | refine zq6 ?_ | refine zs (by dsimp only; omega) ?_ | refine zs (show pendP _ _ by repeat' constructor) ?_ | (with_reducible first | refine brT ‹_› ?_ | refine brF ‹_› ?_ | refine zt (by omega) ?_ | refine zf (by omega) ?_ | refine brNot ?_)); conv => whnf))
  · have hqe : q = s.length := by omega
    have cp := c_peekN s hl
    rw [← hqe] at cp
    rw [List.drop_eq_nil_of_le (by omega), if_neg (by decide), begR_none (by omega)]
    clear hq
    unfold rdr at *
    conv => whnf
    repeat' (first | exact ⟨rfl, rfl⟩ | (refine CallH.mem1 seat_g 0 c1 rfl (by simp [Closed, ClosedL]) (by simp [Closed, ClosedL]) (by simp [Closed, ClosedL]) rfl ?_; conv => whnf) | (refine CallH.mem1 seat_g 0 cp rfl (by simp [Closed, ClosedL]) (by simp [Closed, ClosedL]) (by simp [Closed, ClosedL]) rfl ?_; conv => whnf) | ((first | refine zs (by omega) ?_ | refine zq6 ?_ | refine zs (by dsimp only; omega) ?_ | refine zs (show pendP _ _ by repeat' constructor) ?_ | (with_reducible first | refine brT ‹_› ?_ | refine brF ‹_› ?_ | refine zt (by omega) ?_ | refine zf (by omega) ?_ | refine brNot ?_)); conv => whnf))
end Go.Proofs.YteicdddheaajlaaDoor
namespace Go.Proofs.YteicdddheaajlaaDoor
open Go.Abs
def kindsOK (args : List UInt8) : Prop := ∀ k ∈ args, k = 110 ∨ k = 117 ∨ k = 103 ∨ k = 102
theorem grpR_cons (s : List UInt8) (k : UInt8) (ks : List UInt8) (i p : Nat) (acc : List Int) (p1 : Nat) (h1 : p1 = if 0 < i then p + gapN (s.drop p) else p) :
    grpR s (k :: ks) i p acc = if k = 103 ∧ p1 = p then ([], 3, p) else if (argR s k p1).2.1 ≠ 0 then ([], (argR s k p1).2.1, (argR s k p1).2.2) else grpR s ks (i + 1) (argR s k p1).2.2 (acc ++ [(argR s k p1).1]) := by
  subst h1; rfl
theorem grpR_bd (s : List UInt8) (hl : s.length ≤ 400) : ∀ (ks : List UInt8) (i p : Nat) (acc : List Int), p ≤ s.length → (p ≤ (grpR s ks i p acc).2.2 ∧ (grpR s ks i p acc).2.2 ≤ s.length) ∧ (ks ≠ [] → (grpR s ks i p acc).2.1 = 0 → p < (grpR s ks i p acc).2.2)
  | [], i, p, acc, hp => ⟨⟨Nat.le_refl _, hp⟩, fun h => absurd rfl h⟩
  | k :: ks, i, p, acc, hp => by
    obtain ⟨p1, h1⟩ : ∃ p1, p1 = if 0 < i then p + gapN (s.drop p) else p := ⟨_, rfl⟩
    have hp1 : p ≤ p1 ∧ p1 ≤ s.length := by
      have := gap_in s p hp
      rw [h1]; split <;> omega
    have ha := argR_bd s k p1 hp1.2 hl
    rw [grpR_cons s k ks i p acc p1 h1]
    split
    · exact ⟨⟨Nat.le_refl _, hp⟩, fun _ h => by simp only at h; omega⟩
    · split
      · rename_i h2; exact ⟨⟨by simp only; omega, ha.1.2⟩, fun _ h => absurd h h2⟩
      · rename_i h2
        have h3 := ha.2 (by omega)
        have ih := grpR_bd s hl ks (i + 1) (argR s k p1).2.2 (acc ++ [(argR s k p1).1]) ha.1.2
        exact ⟨⟨by omega, ih.1.2⟩, fun _ _ => by omega⟩
set_option maxRecDepth 20000 in
set_option maxHeartbeats 2000000 in
theorem c_group (s args : List UInt8) (p : Nat) (hp : p ≤ s.length) (hl : s.length ≤ 400) (hk : kindsOK args) (hal : args.length ≤ 10) :
    ACalls seat 45 [.ptr 0 0, .str args] [.var (rdr s p) 107] (fun x h => x = .ret (.tup [lv (grpR s args 0 p []).1, .int .i64 (grpR s args 0 p []).2.1]) ∧ h = [.var (rdr s (grpR s args 0 p []).2.2) 107]) := by
  refine ACalls.take seat_g 1 (Nat.le_refl _) (by simp [Ids, IdsL, lv_ids]) (by simp [rdr, IdsH, IdsC, IdsL, Ids]) ?_
  have hw : ACalls seat 45 [.ptr 0 0, .str args] [.var (rdr s p) 107] (fun r h' => (∃ v v', r = .ret v ∧ Weak v v' ∧ (AEnd.ret v' = .ret (.tup [lv (grpR s args 0 p []).1, .int .i64 (grpR s args 0 p []).2.1]) ∧ takeH 1 h' = [.var (rdr s (grpR s args 0 p []).2.2) 107])) ∨ (∃ v, r = .pan v ∧ (r = .ret (.tup [lv (grpR s args 0 p []).1, .int .i64 (grpR s args 0 p []).2.1]) ∧ takeH 1 h' = [.var (rdr s (grpR s args 0 p []).2.2) 107]))) := by
    obtain ⟨R, hR⟩ : ∃ R, grpR s args 0 p [] = R := ⟨_, rfl⟩
    rw [hR]
    refine ACalls.body seat_ok Tryd.func45 rfl rfl ?_
    conv => whnf
    refine Sat.nilTok 6 2 1 rfl ?_
    refine Sat.cut (fun x t h => (∃ tok, h = [.var (rdr s R.2.2) 107, tok]) ∧ ((x = .ret ∧ R.1 = [] ∧ t = (uu::uu::uu::uu::.nils::.int .i64 R.2.1::uu::uu::uu::uu::uu::uu::uu::uu::uu::uu::uu::uu::uu::uu::uu::uu::uu::uu::uu::uu::uu::uu::uu::uu::uu::uu::uu::uu::uu::uu::uu::uu::uu::uu::uu::uu::uu::uu::uu::uu::uu::[])) ∨ (x = .exit 0 ∧ R.2.1 = 0 ∧ t = (uu::uu::uu::uu::uu::uu::.vec (ci .i64 R.1) R.1.length (some 1)::uu::uu::uu::uu::uu::uu::uu::uu::uu::uu::uu::uu::uu::uu::uu::uu::uu::uu::uu::uu::uu::uu::uu::uu::uu::uu::uu::uu::uu::uu::uu::uu::uu::uu::uu::uu::uu::uu::uu::uu::[])))) ?_ ?_
    · refine Sat.invP seat_ok seat_g (maskOf 47 [0, 1, 6, 11, 12, 13]) 2 (fun μ t h => ∃ (i p : Nat) (z : Int) (acc : List Int), z = i ∧ i ≤ args.length ∧ p ≤ s.length ∧ acc.length = i ∧ grpR s (args.drop i) i p acc = R ∧ μ = args.length - i ∧
          t = (.ptr 0 0::.str args::uu::uu::uu::uu::.vec (ci .i64 acc) acc.length (some 1)::uu::uu::uu::uu::.str args::.int .i64 args.length::.int .i64 z::uu::uu::uu::uu::uu::uu::uu::uu::uu::uu::uu::uu::uu::uu::uu::uu::uu::uu::uu::uu::uu::uu::uu::uu::uu::uu::uu::uu::uu::uu::uu::uu::uu::[]) ∧ h = [.var (rdr s p) 107, .tok acc.length 2 1])
        ?_ ⟨_, _, WeakL.of_eq rfl, 0, p, 0, [], rfl, by omega, hp, rfl, by rw [List.drop_zero]; exact hR, rfl, rfl, rfl⟩ ?_
      · rintro _ _ _ ⟨i, p, z, acc, -, -, -, -, -, -, rfl, rfl⟩
        exact ⟨rfl, (by simp [IdsL, Ids, IdsH, IdsC, lv_ids, ci_ids]), by simp [rdr, IdsH, IdsC, IdsL, Ids]⟩
      rintro _ _ _ ⟨i, p, z, acc, hz, hi, hp, hal2, hG, rfl, rfl, rfl⟩
      by_cases g : i < args.length
      · obtain ⟨k, hki⟩ : ∃ k, args[z.toNat]? = some k := ⟨_, List.getElem?_eq_getElem (by omega)⟩
        have hki2 : args[i]? = some k := by rw [← hki]; congr 1; omega
        have hkk := hk k (List.mem_of_getElem? hki)
        have gz : z < args.length := by omega
        rw [drop_cons' hki2] at hG
        have hcl : (ci .i64 acc).length = acc.length * 1 := by rw [ci_length]; omega
        have hcp : ∀ v, ci .i64 (acc ++ [v]) = ci .i64 acc ++ [.int .i64 v] := fun v => by simp [ci]
        have hll : ∀ v : Int, (acc ++ [v]).length = acc.length + 1 := fun v => by simp
        have hi0 : i = 0 ∨ 0 < i := by omega
        obtain ⟨p1, h1⟩ : ∃ p1, p1 = if 0 < i then p + gapN (s.drop p) else p := ⟨_, rfl⟩
        rw [grpR_cons s k _ i p acc p1 h1] at hG
        rcases hi0 with h0 | h0
        · have gz0 : ¬ (z > 0) := by omega
          rw [if_neg (by omega)] at h1
          subst h1
          by_cases hg : k = 103
          · rw [if_pos ⟨hg, rfl⟩] at hG
            subst hG
            subst hg
            conv => whnf
            repeat' (first | exact ⟨_, keepT_weak (maskOf 47 [4, 5]) _, ⟨_, rfl⟩, .inl ⟨rfl, rfl, rfl⟩⟩ | (refine ldI _ hki ?_; conv => whnf) | ((first | refine zs (by omega) ?_ | refine zq6 ?_ | refine zs (by dsimp only; omega) ?_ | refine zs (show pendP _ _ by repeat' constructor) ?_ | (with_reducible first | refine brT ‹_› ?_ | refine brF ‹_› ?_ | refine zt (by omega) ?_ | refine zf (by omega) ?_ | refine brNot ?_)); conv => whnf))
          · rw [if_neg (fun h => hg h.1)] at hG
            have hgn : ((k.toNat : Nat) : Int) ≠ 103 := fun h => hg (UInt8.toNat_inj.1 (by show k.toNat = 103; omega))
            have ca := c_arg s k p1 hp hl hkk
            have hb := argR_bd s k p1 hp hl
            obtain ⟨⟨v, e, q⟩, hA⟩ : ∃ r, argR s k p1 = r := ⟨_, rfl⟩
            rw [hA] at ca hb hG
            simp only at ca hb hG
            by_cases he : e = 0
            · subst he
              rw [if_neg (by simp)] at hG
              unfold rdr at *
              conv => whnf
              repeat' (first | exact ⟨_, _, show args.length - (i + 1) < args.length - i by omega, WeakL.of_eq (by rw [hcp, hll]; rfl), i + 1, q, z + 1, acc ++ [v], by omega, by omega, hb.1.2, by rw [hll]; omega, hG, rfl, rfl, by rw [hll]; rfl⟩ | (refine ldI _ hki ?_; conv => whnf) | (refine CallH.mem1 seat_g 0 ca rfl (by simp [Closed, ClosedL]) (by simp [Closed, ClosedL]) (by simp [Closed, ClosedL]) rfl ?_; conv => whnf) | (refine Req.mk ⟨rfl, rfl, rfl, hcl, rfl, by simp [okCell], by dsimp only; omega, by omega, by decide⟩ ?_; conv => whnf) | ((first | refine zs (by omega) ?_ | refine zq6 ?_ | refine zs (by dsimp only; omega) ?_ | refine zs (show pendP _ _ by repeat' constructor) ?_ | (with_reducible first | refine brT ‹_› ?_ | refine brF ‹_› ?_ | refine zt (by omega) ?_ | refine zf (by omega) ?_ | refine brNot ?_)); conv => whnf))
            · rw [if_pos he] at hG
              subst hG
              unfold rdr at *
              conv => whnf
              repeat' (first | exact ⟨_, keepT_weak (maskOf 47 [4, 5]) _, ⟨_, rfl⟩, .inl ⟨rfl, rfl, rfl⟩⟩ | (refine ldI _ hki ?_; conv => whnf) | (refine CallH.mem1 seat_g 0 ca rfl (by simp [Closed, ClosedL]) (by simp [Closed, ClosedL]) (by simp [Closed, ClosedL]) rfl ?_; conv => whnf) | ((first | refine zs (by omega) ?_ | refine zq6 ?_ | refine zs (by dsimp only; omega) ?_ | refine zs (show pendP _ _ by repeat' constructor) ?_ | (with_reducible first | refine brT ‹_› ?_ | refine brF ‹_› ?_ | refine zt (by omega) ?_ | refine zf (by omega) ?_ | refine brNot ?_)); conv => whnf))
        · have gz0 : z > 0 := by omega
          rw [if_pos h0] at h1
          have cg := c_gap s p hp (by omega)
          have hin := gap_in s p hp
          rw [← h1] at cg hin
          by_cases hm : 0 < gapN (s.drop p)
          · rw [decide_eq_true hm] at cg
            rw [if_neg (fun h => by omega)] at hG
            have ca := c_arg s k p1 hin hl hkk
            have hb := argR_bd s k p1 hin hl
            obtain ⟨⟨v, e, q⟩, hA⟩ : ∃ r, argR s k p1 = r := ⟨_, rfl⟩
            rw [hA] at ca hb hG
            simp only at ca hb hG
            by_cases hg : k = 103
            · subst hg
              by_cases he : e = 0
              · subst he
                rw [if_neg (by simp)] at hG
                unfold rdr at *
                conv => whnf
                repeat' (first | exact ⟨_, _, show args.length - (i + 1) < args.length - i by omega, WeakL.of_eq (by rw [hcp, hll]; rfl), i + 1, q, z + 1, acc ++ [v], by omega, by omega, hb.1.2, by rw [hll]; omega, hG, rfl, rfl, by rw [hll]; rfl⟩ | (refine ldI _ hki ?_; conv => whnf) | (refine CallH.mem1 seat_g 0 cg rfl (by simp [Closed, ClosedL]) (by simp [Closed, ClosedL]) (by simp [Closed, ClosedL]) rfl ?_; conv => whnf) | (refine CallH.mem1 seat_g 0 ca rfl (by simp [Closed, ClosedL]) (by simp [Closed, ClosedL]) (by simp [Closed, ClosedL]) rfl ?_; conv => whnf) | (refine Req.mk ⟨rfl, rfl, rfl, hcl, rfl, by simp [okCell], by dsimp only; omega, by omega, by decide⟩ ?_; conv => whnf) | ((first | refine zs (by omega) ?_ | refine zq6 ?_ | refine zs (by dsimp only; omega) ?_ | refine zs (show pendP _ _ by repeat' constructor) ?_ | (with_reducible first | refine brT ‹_› ?_ | refine brF ‹_› ?_ | refine zt (by omega) ?_ | refine zf (by omega) ?_ | refine brNot ?_)); conv => whnf))
              · rw [if_pos he] at hG
                subst hG
                unfold rdr at *
                conv => whnf
                repeat' (first | exact ⟨_, keepT_weak (maskOf 47 [4, 5]) _, ⟨_, rfl⟩, .inl ⟨rfl, rfl, rfl⟩⟩ | (refine ldI _ hki ?_; conv => whnf) | (refine CallH.mem1 seat_g 0 cg rfl (by simp [Closed, ClosedL]) (by simp [Closed, ClosedL]) (by simp [Closed, ClosedL]) rfl ?_; conv => whnf) | (refine CallH.mem1 seat_g 0 ca rfl (by simp [Closed, ClosedL]) (by simp [Closed, ClosedL]) (by simp [Closed, ClosedL]) rfl ?_; conv => whnf) | ((first | refine zs (by omega) ?_ | refine zq6 ?_ | refine zs (by dsimp only; omega) ?_ | refine zs (show pendP _ _ by repeat' constructor) ?_ | (with_reducible first | refine brT ‹_› ?_ | refine brF ‹_› ?_ | refine zt (by omega) ?_ | refine zf (by omega) ?_ | refine brNot ?_)); conv => whnf))
            · have hgn : ((k.toNat : Nat) : Int) ≠ 103 := fun h => hg (UInt8.toNat_inj.1 (by show k.toNat = 103; omega))
              by_cases he : e = 0
              · subst he
                rw [if_neg (by simp)] at hG
                unfold rdr at *
                conv => whnf
                repeat' (first | exact ⟨_, _, show args.length - (i + 1) < args.length - i by omega, WeakL.of_eq (by rw [hcp, hll]; rfl), i + 1, q, z + 1, acc ++ [v], by omega, by omega, hb.1.2, by rw [hll]; omega, hG, rfl, rfl, by rw [hll]; rfl⟩ | (refine ldI _ hki ?_; conv => whnf) | (refine CallH.mem1 seat_g 0 cg rfl (by simp [Closed, ClosedL]) (by simp [Closed, ClosedL]) (by simp [Closed, ClosedL]) rfl ?_; conv => whnf) | (refine CallH.mem1 seat_g 0 ca rfl (by simp [Closed, ClosedL]) (by simp [Closed, ClosedL]) (by simp [Closed, ClosedL]) rfl ?_; conv => whnf) | (refine Req.mk ⟨rfl, rfl, rfl, hcl, rfl, by simp [okCell], by dsimp only; omega, by omega, by decide⟩ ?_; conv => whnf) | ((first | refine zs (by omega) ?_ | refine zq6 ?_ | refine zs (by dsimp only; omega) ?_ | refine zs (show pendP _ _ by repeat' constructor) ?_ | (with_reducible first | refine brT ‹_› ?_ | refine brF ‹_› ?_ | refine zt (by omega) ?_ | refine zf (by omega) ?_ | refine brNot ?_)); conv => whnf))
              · rw [if_pos he] at hG
                subst hG
                unfold rdr at *
                conv => whnf
                repeat' (first | exact ⟨_, keepT_weak (maskOf 47 [4, 5]) _, ⟨_, rfl⟩, .inl ⟨rfl, rfl, rfl⟩⟩ | (refine ldI _ hki ?_; conv => whnf) | (refine CallH.mem1 seat_g 0 cg rfl (by simp [Closed, ClosedL]) (by simp [Closed, ClosedL]) (by simp [Closed, ClosedL]) rfl ?_; conv => whnf) | (refine CallH.mem1 seat_g 0 ca rfl (by simp [Closed, ClosedL]) (by simp [Closed, ClosedL]) (by simp [Closed, ClosedL]) rfl ?_; conv => whnf) | ((first | refine zs (by omega) ?_ | refine zq6 ?_ | refine zs (by dsimp only; omega) ?_ | refine zs (show pendP _ _ by repeat' constructor) ?_ | (with_reducible first | refine brT ‹_› ?_ | refine brF ‹_› ?_ | refine zt (by omega) ?_ | refine zf (by omega) ?_ | refine brNot ?_)); conv => whnf))
          · rw [decide_eq_false hm] at cg
            have hpp : p1 = p := by omega
            subst hpp
            by_cases hg : k = 103
            · rw [if_pos ⟨hg, rfl⟩] at hG
              subst hG
              subst hg
              unfold rdr at *
              conv => whnf
              repeat' (first | exact ⟨_, keepT_weak (maskOf 47 [4, 5]) _, ⟨_, rfl⟩, .inl ⟨rfl, rfl, rfl⟩⟩ | (refine ldI _ hki ?_; conv => whnf) | (refine CallH.mem1 seat_g 0 cg rfl (by simp [Closed, ClosedL]) (by simp [Closed, ClosedL]) (by simp [Closed, ClosedL]) rfl ?_; conv => whnf) | ((first | refine zs (by omega) ?_ | refine zq6 ?_ | refine zs (by dsimp only; omega) ?_ | refine zs (show pendP _ _ by repeat' constructor) ?_ | (with_reducible first | refine brT ‹_› ?_ | refine brF ‹_› ?_ | refine zt (by omega) ?_ | refine zf (by omega) ?_ | refine brNot ?_)); conv => whnf))
            · rw [if_neg (fun h => hg h.1)] at hG
              have hgn : ((k.toNat : Nat) : Int) ≠ 103 := fun h => hg (UInt8.toNat_inj.1 (by show k.toNat = 103; omega))
              have ca := c_arg s k p1 hp hl hkk
              have hb := argR_bd s k p1 hp hl
              obtain ⟨⟨v, e, q⟩, hA⟩ : ∃ r, argR s k p1 = r := ⟨_, rfl⟩
              rw [hA] at ca hb hG
              simp only at ca hb hG
              by_cases he : e = 0
              · subst he
                rw [if_neg (by simp)] at hG
                unfold rdr at *
                conv => whnf
                repeat' (first | exact ⟨_, _, show args.length - (i + 1) < args.length - i by omega, WeakL.of_eq (by rw [hcp, hll]; rfl), i + 1, q, z + 1, acc ++ [v], by omega, by omega, hb.1.2, by rw [hll]; omega, hG, rfl, rfl, by rw [hll]; rfl⟩ | (refine ldI _ hki ?_; conv => whnf) | (refine CallH.mem1 seat_g 0 cg rfl (by simp [Closed, ClosedL]) (by simp [Closed, ClosedL]) (by simp [Closed, ClosedL]) rfl ?_; conv => whnf) | (refine CallH.mem1 seat_g 0 ca rfl (by simp [Closed, ClosedL]) (by simp [Closed, ClosedL]) (by simp [Closed, ClosedL]) rfl ?_; conv => whnf) | (refine Req.mk ⟨rfl, rfl, rfl, hcl, rfl, by simp [okCell], by dsimp only; omega, by omega, by decide⟩ ?_; conv => whnf) | ((first | refine zs (by omega) ?_ | refine zq6 ?_ | refine zs (by dsimp only; omega) ?_ | refine zs (show pendP _ _ by repeat' constructor) ?_ | (with_reducible first | refine brT ‹_› ?_ | refine brF ‹_› ?_ | refine zt (by omega) ?_ | refine zf (by omega) ?_ | refine brNot ?_)); conv => whnf))
              · rw [if_pos he] at hG
                subst hG
                unfold rdr at *
                conv => whnf
                repeat' (first | exact ⟨_, keepT_weak (maskOf 47 [4, 5]) _, ⟨_, rfl⟩, .inl ⟨rfl, rfl, rfl⟩⟩ | (refine ldI _ hki ?_; conv => whnf) | (refine CallH.mem1 seat_g 0 cg rfl (by simp [Closed, ClosedL]) (by simp [Closed, ClosedL]) (by simp [Closed, ClosedL]) rfl ?_; conv => whnf) | (refine CallH.mem1 seat_g 0 ca rfl (by simp [Closed, ClosedL]) (by simp [Closed, ClosedL]) (by simp [Closed, ClosedL]) rfl ?_; conv => whnf) | ((first | refine zs (by omega) ?_ | refine zq6 ?_ | refine zs (by dsimp only; omega) ?_ | refine zs (show pendP _ _ by repeat' constructor) ?_ | (with_reducible first | refine brT ‹_› ?_ | refine brF ‹_› ?_ | refine zt (by omega) ?_ | refine zf (by omega) ?_ | refine brNot ?_)); conv => whnf))
      · obtain rfl : i = args.length := by omega
        rw [List.drop_length] at hG
        have hG : (acc, 0, p) = R := hG
        subst hG
        have gz : ¬ (z < args.length) := by omega
        conv => whnf
        repeat' (first | exact ⟨_, keepT_weak (maskOf 47 [6]) _, ⟨_, rfl⟩, .inr ⟨rfl, rfl, rfl⟩⟩ | ((first | refine zs (by omega) ?_ | refine zq6 ?_ | refine zs (by dsimp only; omega) ?_ | refine zs (show pendP _ _ by repeat' constructor) ?_ | (with_reducible first | refine brT ‹_› ?_ | refine brF ‹_› ?_ | refine zt (by omega) ?_ | refine zf (by omega) ?_ | refine brNot ?_)); conv => whnf))
    · rintro _ _ _ ⟨⟨tok, rfl⟩, ⟨rfl, h1, rfl⟩ | ⟨rfl, h1, rfl⟩⟩
      · rw [h1]
        conv => whnf
        exact .inl ⟨_, _, rfl, Weak.tup (.cons Weak.nils (WeakL.refl _)), rfl, rfl⟩
      · rw [h1]
        conv => whnf
        exact .inl ⟨_, _, rfl, Weak.tup (.cons Weak.tok (WeakL.refl _)), rfl, rfl⟩
  exact ACalls.weakR hw
end Go.Proofs.YteicdddheaajlaaDoor
namespace Go.Proofs.YteicdddheaajlaaDoor
open Go.Abs
def cmdC (x : UInt8 × List Int) : List AV := [.int .u8 x.1.toNat, lv x.2]
theorem cmdC_len (x : UInt8 × List Int) : (cmdC x).length = 2 := rfl
theorem cmd_snoc (L : List (UInt8 × List Int)) (x : UInt8 × List Int) : cs cmdC (L ++ [x]) = cs cmdC L ++ [.int .u8 x.1.toNat, lv x.2] := by simp [cs, cmdC]
theorem cmd_length (L : List (UInt8 × List Int)) : (cs cmdC L).length = L.length * 2 := cs_length cmdC_len L
theorem cmd_closed : ∀ L : List (UInt8 × List Int), ClosedL (cs cmdC L)
  | [] => trivial
  | x :: L => by
    have := cmd_closed L
    simp only [cs, List.flatMap_cons, cmdC, List.cons_append, List.nil_append, ClosedL, Closed] at *
    exact ⟨trivial, lv_closed _, this⟩
instance {G : List (UInt8 × List Int)} : Cw (cs cmdC G) := ⟨cmd_closed G⟩
theorem cmd_ids (p : Nat → Prop) (L : List (UInt8 × List Int)) : IdsL p (cs cmdC L) := ClosedL.ids _ (cmd_closed L)
theorem sign_ok {c : Int} {x : Int × List UInt8} (h : ofN c = some x) : kindsOK x.2 ∧ x.2.length ≤ 10 ∧ (x.2 = [] ∨ ∃ k r, x.2 = k :: r ∧ (k = 110 ∨ k = 117)) ∧ (0 ≤ x.1 ∧ x.1 < 256) := by
  have hm := (ofN_mem h).1
  have key : ∀ y ∈ signL, (∀ k ∈ y.2, k = 110 ∨ k = 117 ∨ k = 103 ∨ k = 102) ∧ y.2.length ≤ 10 ∧ (y.2 = [] ∨ y.2.head? = some 110 ∨ y.2.head? = some 117) ∧ (0 ≤ y.1 ∧ y.1 < 256) := by decide
  obtain ⟨h1, h2, h3, h4⟩ := key x hm
  refine ⟨h1, h2, ?_, h4⟩
  cases hx : x.2 with
  | nil => exact .inl rfl
  | cons k r =>
    rw [hx] at h3
    refine .inr ⟨k, r, rfl, ?_⟩
    rcases h3 with h | h | h
    · cases h
    · exact .inl (by cases h; rfl)
    · exact .inr (by cases h; rfl)
theorem more_bd (s : List UInt8) (sg : Bool) (p : Nat) (hp : p ≤ s.length) : p ≤ (moreR s sg p).2 ∧ (moreR s sg p).2 ≤ s.length := by
  have h1 := blk_in s p hp
  unfold moreR
  split
  · rename_i hc
    have h2 := isC_lt hc
    have h3 := blk_in s (p + blk (s.drop p) + 1) (by omega)
    exact ⟨by simp only; omega, by simp only; omega⟩
  · exact ⟨by simp only; omega, by simp only; omega⟩
def Fin6 (G : List (UInt8 × List Int)) (e : Int) (q : Nat) (L : List (UInt8 × List Int)) (w : List (UInt8 × List Int) × Int × Nat) : Prop := L ++ w.1 = G ∧ w.2.1 = e ∧ (e ≠ 0 → w.2.2 = q)
theorem Fin6.fin {G e q L s fuel first p} (h : Fin6 G e q L (walkR s (fuel + 1) first p)) (hs : s[p]? = none) : G = L ∧ e = 0 := by
  unfold walkR at h; rw [hs] at h
  exact ⟨by have := h.1; simpa using this.symm, h.2.1.symm⟩
theorem Fin6.bad {G e q L s fuel first p c} (h : Fin6 G e q L (walkR s (fuel + 1) first p)) (hs : s[p]? = some c) (hb : ofN c.toNat = none ∨ ∃ x, ofN c.toNat = some x ∧ first = true ∧ x.1 ≠ 77) : G = L ∧ e = 3 ∧ q = p := by
  unfold walkR at h; rw [hs] at h
  simp only at h
  rcases hb with hb | ⟨x, hb, hf⟩
  · rw [hb] at h
    have h2 : (3 : Int) = e := h.2.1
    exact ⟨by have := h.1; simpa using this.symm, h2.symm, (h.2.2 (by omega)).symm⟩
  · rw [hb] at h
    simp only at h
    rw [if_pos hf] at h
    have h2 : (3 : Int) = e := h.2.1
    exact ⟨by have := h.1; simpa using this.symm, h2.symm, (h.2.2 (by omega)).symm⟩
theorem Fin6.alone {G e q L s fuel first p c x} (h : Fin6 G e q L (walkR s (fuel + 1) first p)) (hs : s[p]? = some c) (hx : ofN c.toNat = some x) (hf : ¬ (first = true ∧ x.1 ≠ 77)) (ha : x.2 = []) :
    Fin6 G e q (L ++ [(c, [])]) (walkR s fuel false (p + 1 + blk (s.drop (p + 1)))) := by
  unfold walkR at h; rw [hs] at h
  simp only at h
  rw [hx] at h
  simp only at h
  rw [if_neg hf, if_pos ha] at h
  exact ⟨by rw [List.append_assoc]; exact h.1, h.2⟩
def FinG (G : List (UInt8 × List Int)) (e : Int) (q : Nat) (L : List (UInt8 × List Int)) (s : List UInt8) (fuel : Nat) (r : List (UInt8 × List Int) × Int × Nat) : Prop :=
  if r.2.1 ≠ 0 then L ++ r.1 = G ∧ r.2.1 = e ∧ r.2.2 = q else Fin6 G e q (L ++ r.1) (walkR s fuel false r.2.2)
theorem Fin6.runs {G e q L s fuel first p c x} (h : Fin6 G e q L (walkR s (fuel + 1) first p)) (hs : s[p]? = some c) (hx : ofN c.toNat = some x) (hf : ¬ (first = true ∧ x.1 ≠ 77)) (ha : x.2 ≠ []) :
    FinG G e q L s fuel (runR s x.2 (s.length + 1) c (p + 1 + blk (s.drop (p + 1)))) := by
  unfold walkR at h; rw [hs] at h
  simp only at h
  rw [hx] at h
  simp only at h
  rw [if_neg hf, if_neg ha] at h
  unfold FinG
  by_cases h2 : (runR s x.2 (s.length + 1) c (p + 1 + blk (s.drop (p + 1)))).2.1 ≠ 0
  · rw [if_pos h2] at h ⊢
    exact ⟨h.1, h.2.1, h.2.2 (by have := h.2.1; simp only at this; rw [← this]; exact h2)⟩
  · rw [if_neg h2] at h ⊢
    exact ⟨by rw [List.append_assoc]; exact h.1, h.2⟩
theorem FinG.err {G e q L s fuel args n c p} (h : FinG G e q L s fuel (runR s args (n + 1) c p)) (he : (grpR s args 0 p []).2.1 ≠ 0) : G = L ∧ e = (grpR s args 0 p []).2.1 ∧ q = (grpR s args 0 p []).2.2 := by
  unfold FinG runR at h
  simp only [if_pos he] at h
  exact ⟨by have := h.1; simpa using this.symm, h.2.1.symm, h.2.2.symm⟩
theorem FinG.last {G e q L s fuel args n c p} (h : FinG G e q L s fuel (runR s args (n + 1) c p)) (he : (grpR s args 0 p []).2.1 = 0) (hm : (moreR s (args.head? == some 110) (grpR s args 0 p []).2.2).1 = false) :
    Fin6 G e q (L ++ [(c, (grpR s args 0 p []).1)]) (walkR s fuel false (moreR s (args.head? == some 110) (grpR s args 0 p []).2.2).2) := by
  unfold FinG runR at h
  simp only [he, ne_eq, not_true_eq_false, if_false, hm, Bool.false_eq_true] at h
  exact h
theorem FinG.more {G e q L s fuel args n c p} (h : FinG G e q L s fuel (runR s args (n + 1) c p)) (he : (grpR s args 0 p []).2.1 = 0) (hm : (moreR s (args.head? == some 110) (grpR s args 0 p []).2.2).1 = true) :
    FinG G e q (L ++ [(c, (grpR s args 0 p []).1)]) s fuel (runR s args n (nextC c) (moreR s (args.head? == some 110) (grpR s args 0 p []).2.2).2) := by
  unfold FinG at h ⊢
  rw [runR] at h
  simp only [he, ne_eq, not_true_eq_false, if_false, hm, if_true] at h
  rw [List.append_assoc]
  exact h
end Go.Proofs.YteicdddheaajlaaDoor
namespace Go.Proofs.YteicdddheaajlaaDoor
open Go.Abs
theorem runR_pos (s : List UInt8) (hl : s.length ≤ 400) (args : List UInt8) (ha : args ≠ []) : ∀ (n : Nat) (c : UInt8) (p : Nat), p ≤ s.length → (runR s args n c p).1.length + p ≤ (runR s args n c p).2.2 ∧ (runR s args n c p).2.2 ≤ s.length
  | 0, _, p, hp => by simp [runR, hp]
  | n + 1, c, p, hp => by
    have ih := fun c p hp => runR_pos s hl args ha n c p hp
    have hg := grpR_bd s hl args 0 p [] hp
    rw [runR]
    dsimp only
    split
    · exact ⟨by simp only [List.length_nil]; omega, hg.1.2⟩
    · rename_i he
      have hq := hg.2 ha (Classical.not_not.1 he)
      have hm := more_bd s (args.head? == some 110) _ hg.1.2
      split
      · have h1 := ih (nextC c) _ hm.2
        exact ⟨by simp only [List.length_cons]; omega, h1.2⟩
      · exact ⟨by simp only [List.length_cons, List.length_nil]; omega, hm.2⟩
theorem walkR_pos (s : List UInt8) (hl : s.length ≤ 400) : ∀ (n : Nat) (f : Bool) (p : Nat), p ≤ s.length → (walkR s n f p).1.length + p ≤ s.length
  | 0, _, p, hp => by simp [walkR, hp]
  | n + 1, f, p, hp => by
    have ih := fun f p hp => walkR_pos s hl n f p hp
    rw [walkR]
    cases hc : s[p]? with
    | none => simpa using hp
    | some c =>
      have hps : p < s.length := (List.getElem?_eq_some_iff.1 hc).1
      have hb := blk_in s (p + 1) (by omega)
      simp only
      cases ho : ofN c.toNat with
      | none => simpa using hp
      | some y =>
        simp only
        split
        · simpa using hp
        · split
          · have h1 := ih false _ hb
            simp only [List.length_cons]; omega
          · rename_i hy
            have hr := runR_pos s hl y.2 hy (s.length + 1) c _ hb
            split
            · simp only; omega
            · have h1 := ih false _ hr.2
              simp only [List.length_append]; omega
end Go.Proofs.YteicdddheaajlaaDoor
namespace Go.Proofs.YteicdddheaajlaaDoor
open Go.Abs
def CmdOk (x : UInt8 × List Int) : Prop := ∃ y, ofN x.1.toNat = some y ∧ x.2.length = y.2.length ∧ ∀ v ∈ x.2, -4294967296 < v ∧ v < 4294967296
theorem argR_val (s : List UInt8) (k : UInt8) (p : Nat) (hl : s.length ≤ 400) : -4294967296 < (argR s k p).1 ∧ (argR s k p).1 < 4294967296 := by
  unfold argR
  split
  · unfold flR
    split
    · split
      · dsimp only; omega
      · dsimp only; decide
    · dsimp only; decide
  · exact numR_bd s p _ hl
theorem grpR_val (s : List UInt8) (hl : s.length ≤ 400) : ∀ (ks : List UInt8) (i p : Nat) (acc : List Int), (∀ v ∈ acc, -4294967296 < v ∧ v < 4294967296) → (∀ v ∈ (grpR s ks i p acc).1, -4294967296 < v ∧ v < 4294967296) ∧ ((grpR s ks i p acc).2.1 = 0 → (grpR s ks i p acc).1.length = acc.length + ks.length)
  | [], _, _, acc, h => ⟨h, fun _ => rfl⟩
  | k :: ks, i, p, acc, h => by
    obtain ⟨p1, h1⟩ : ∃ p1, p1 = if 0 < i then p + gapN (s.drop p) else p := ⟨_, rfl⟩
    rw [grpR_cons s k ks i p acc p1 h1]
    split
    · exact ⟨fun v hv => (by cases hv), fun h => absurd h (show ¬ ((3 : Int) = 0) by decide)⟩
    · split
      · rename_i h2; exact ⟨fun v hv => (by cases hv), fun h => absurd h h2⟩
      · have ih := grpR_val s hl ks (i + 1) (argR s k p1).2.2 (acc ++ [(argR s k p1).1]) (fun v hv => by
          rcases List.mem_append.1 hv with hv | hv
          · exact h v hv
          · rw [List.mem_singleton.1 hv]; exact argR_val s k p1 hl)
        refine ⟨ih.1, fun h => ?_⟩
        rw [ih.2 h]
        simp only [List.length_append, List.length_cons, List.length_nil]; omega
theorem nextC_of (c : UInt8) (y : Int × List UInt8) (h : ofN c.toNat = some y) : ∃ z, ofN (nextC c).toNat = some z ∧ z.2 = y.2 := by
  unfold nextC
  split
  · rename_i h1; subst h1; exact ⟨_, rfl, by cases h; rfl⟩
  · split
    · rename_i h1; subst h1; exact ⟨_, rfl, by cases h; rfl⟩
    · exact ⟨y, h, rfl⟩
theorem runR_ok (s : List UInt8) (hl : s.length ≤ 400) (args : List UInt8) : ∀ (n : Nat) (c : UInt8) (p : Nat), (∃ y, ofN c.toNat = some y ∧ y.2 = args) → ∀ x ∈ (runR s args n c p).1, CmdOk x
  | 0, _, _, _, x, h => by cases h
  | n + 1, c, p, hc, x, h => by
    obtain ⟨y, hy, hya⟩ := hc
    have hg := grpR_val s hl args 0 p [] (fun v hv => by cases hv)
    have ih := runR_ok s hl args n (nextC c) (moreR s (args.head? == some 110) (grpR s args 0 p []).2.2).2 (by
      obtain ⟨z, h1, h2⟩ := nextC_of c y hy
      exact ⟨z, h1, h2.trans hya⟩) x
    rw [runR] at h
    dsimp only at h
    split at h
    · cases h
    · rename_i g
      have hx : CmdOk (c, (grpR s args 0 p []).1) := ⟨y, hy, by rw [hya]; have := hg.2 (Classical.not_not.1 g); simp only [List.length_nil] at this; dsimp only; omega, hg.1⟩
      split at h
      · rcases List.mem_cons.1 h with h | h
        · rw [h]; exact hx
        · exact ih h
      · rw [List.mem_singleton.1 h]; exact hx
theorem walkR_ok (s : List UInt8) (hl : s.length ≤ 400) : ∀ (n : Nat) (f : Bool) (p : Nat), ∀ x ∈ (walkR s n f p).1, CmdOk x
  | 0, _, _, x, h => by cases h
  | n + 1, f, p, x, h => by
    have ih := fun f p => walkR_ok s hl n f p x
    rw [walkR] at h
    cases hc : s[p]? with
    | none => rw [hc] at h; cases h
    | some c =>
      rw [hc] at h
      simp only at h
      cases ho : ofN c.toNat with
      | none => rw [ho] at h; cases h
      | some y =>
        rw [ho] at h
        simp only at h
        split at h
        · cases h
        · split at h
          · rename_i h2
            rcases List.mem_cons.1 h with h | h
            · rw [h]; exact ⟨y, ho, by rw [h2]; rfl, fun v hv => (by cases hv)⟩
            · exact ih _ _ h
          · have hr := runR_ok s hl y.2 (s.length + 1) c (p + 1 + blk (s.drop (p + 1))) ⟨y, ho, rfl⟩ x
            split at h
            · exact hr h
            · rcases List.mem_append.1 h with h | h
              · exact hr h
              · exact ih _ _ h
theorem pathR_ok (s : List UInt8) (hl : s.length ≤ 400) : ∀ x ∈ (pathR s).1, CmdOk x := walkR_ok s hl _ _ _
theorem numR_e (s : List UInt8) (p : Nat) (sg : Bool) (hl : s.length ≤ 400) : (numR s p sg).2.1 ≠ 4 := by
  unfold numR
  split
  · have := (valT_all ((s.drop p).take ((scR sg s p).1 - p)) (by rw [List.length_take, List.length_drop]; omega)).1
    dsimp only; omega
  · dsimp only; decide
theorem argR_e (s : List UInt8) (k : UInt8) (p : Nat) (hl : s.length ≤ 400) : (argR s k p).2.1 ≠ 4 := by
  unfold argR
  split
  · unfold flR
    split
    · split
      · dsimp only; decide
      · dsimp only; decide
    · dsimp only; decide
  · exact numR_e s p _ hl
theorem grpR_e (s : List UInt8) (hl : s.length ≤ 400) : ∀ (ks : List UInt8) (i p : Nat) (acc : List Int), (grpR s ks i p acc).2.1 ≠ 4
  | [], _, _, _ => show (0 : Int) ≠ 4 by decide
  | k :: ks, i, p, acc => by
    obtain ⟨p1, h1⟩ : ∃ p1, p1 = if 0 < i then p + gapN (s.drop p) else p := ⟨_, rfl⟩
    rw [grpR_cons s k ks i p acc p1 h1]
    split
    · exact show (3 : Int) ≠ 4 by decide
    · split
      · exact argR_e s k p1 hl
      · exact grpR_e s hl ks _ _ _
theorem runR_e (s : List UInt8) (hl : s.length ≤ 400) (args : List UInt8) : ∀ (n : Nat) (c : UInt8) (p : Nat), (runR s args n c p).2.1 ≠ 4
  | 0, _, _ => show (0 : Int) ≠ 4 by decide
  | n + 1, c, p => by
    have hg := grpR_e s hl args 0 p []
    have ih := fun c p => runR_e s hl args n c p
    rw [runR]
    dsimp only
    split
    · exact hg
    · split
      · exact ih _ _
      · exact show (0 : Int) ≠ 4 by decide
theorem walkR_e (s : List UInt8) (hl : s.length ≤ 400) : ∀ (n : Nat) (f : Bool) (p : Nat), (walkR s n f p).2.1 ≠ 4
  | 0, _, _ => show (0 : Int) ≠ 4 by decide
  | n + 1, f, p => by
    have ih := fun f p => walkR_e s hl n f p
    rw [walkR]
    split
    · exact show (0 : Int) ≠ 4 by decide
    · split
      · exact show (3 : Int) ≠ 4 by decide
      · dsimp only
        split
        · exact show (3 : Int) ≠ 4 by decide
        · split
          · exact ih _ _
          · split
            · exact runR_e s hl _ _ _ _
            · exact ih _ _
theorem pathR_e (s : List UInt8) (hl : s.length ≤ 400) : (pathR s).2.1 ≠ 4 := walkR_e s hl _ _ _
end Go.Proofs.YteicdddheaajlaaDoor
namespace Go.Proofs.YteicdddheaajlaaDoor
open Go.Abs
def rulesV : AV := .agg [.int .u8 77, .fn 60 [] [], .int .u8 76, .fn 61 [] [], .int .u8 72, .fn 62 [] [], .int .u8 86, .fn 63 [] [], .int .u8 67, .fn 64 [] [], .int .u8 83, .fn 65 [] [], .int .u8 81, .fn 66 [] [], .int .u8 84, .fn 67 [] [], .int .u8 65, .fn 68 [] [], .int .u8 90, .fn 69 [] []]
set_option maxRecDepth 20000 in
theorem c_rules : ACalls seat 48 [] [] (fun x _ => x = .ret rulesV) := by
  refine ACalls.body seat_ok Tryd.func48 rfl rfl ?_
  conv => whnf
  repeat' ((first | refine zs (by omega) ?_ | refine zq6 ?_ | refine zs (by dsimp only; omega) ?_ | refine zs (show pendP _ _ by repeat' constructor) ?_ | (with_reducible first | refine brT ‹_› ?_ | refine brF ‹_› ?_ | refine zt (by omega) ?_ | refine zf (by omega) ?_ | refine brNot ?_)); conv => whnf)
  rfl
def capL : List (Int × Nat) := [(77, 2), (76, 2), (72, 1), (86, 1), (67, 6), (83, 4), (81, 4), (84, 2), (65, 7), (90, 0)]
theorem cmd_cap {x : UInt8 × List Int} (h : CmdOk x) : (bigI x.1.toNat, x.2.length) ∈ capL ∧ (x.1.toNat : Int) ≤ 122 := by
  obtain ⟨y, hy, hl, -⟩ := h
  obtain ⟨hm, hc⟩ := ofN_mem hy
  have hs : ∀ y ∈ signL, (y.1, y.2.length) ∈ capL ∧ y.1 ≤ 90 := by decide
  obtain ⟨h1, h2⟩ := hs y hm
  have hb : 0 ≤ (x.1.toNat : Int) ∧ (x.1.toNat : Int) < 256 := by have := UInt8.toNat_lt x.1; omega
  unfold capN at hc
  unfold bigI
  rw [hl]
  by_cases g : 97 ≤ (x.1.toNat : Int) ∧ (x.1.toNat : Int) ≤ 122
  · rw [if_pos g] at hc
    rw [if_pos g.1, ← hc]
    exact ⟨h1, g.2⟩
  · rw [if_neg g] at hc
    rw [if_neg (by omega), ← hc]
    exact ⟨h1, by omega⟩
theorem opS_out (c : Int) (s : St) : (opS c s).out.length ≤ s.out.length + 1 := by
  unfold opS; split
  · show (s.out ++ [_]).length ≤ _; simp
  · omega
theorem opS_in (c : Int) (s : St) (hp : inP s.pos) (hc : inP s.ct) : inP (opS c s).pos ∧ inP (opS c s).ct := by
  unfold opS; split
  · exact ⟨hp, hc⟩
  · exact ⟨hp, hc⟩
set_option maxRecDepth 20000 in
set_option maxHeartbeats 2000000 in
theorem c_do (s : St) (c : UInt8) (n : List Int) (hk : CmdOk (c, n)) (hp : inP s.pos) (hc : inP s.ct) (hl : s.out.length ≤ 800000) : ACalls seat 30 [.ptr 0 0, .agg [.int .u8 c.toNat, lv n]] (stH s) (fun r h => r = .ret (.tup []) ∧ h = stH (doS s c.toNat n)) := by
  obtain ⟨hcap, h122⟩ := cmd_cap hk
  obtain ⟨-, -, -, hv⟩ := hk
  simp only at hcap h122 hv
  have hv : ∀ v ∈ n, IB v := hv
  refine ACalls.take seat_g 2 (by simp [stH]) (by simp [Ids, IdsL]) (stH_ids _) ?_
  refine ACalls.bodyS seat_ok Tryd.func30 rfl rfl ?_
  have hcb : 0 ≤ (c.toNat : Int) := Int.natCast_nonneg _
  have hin := opS_in (bigI c.toNat) s hp hc
  have hout := opS_out (bigI c.toNat) s
  have hfr : inP (frS c.toNat s) := by unfold frS; split; exact hp; exact inP0
  unfold doS
  generalize hC : (c.toNat : Int) = C at *
  refine Sat.splitAt seat_ok (fun t h => t = (.ptr 0 0::uu::uu::.ptr 2 0::.int .u8 (bigI C)::.ptr 3 0::uu::uu::uu::uu::uu::uu::uu::uu::uu::uu::uu::uu::uu::uu::uu::uu::uu::uu::uu::uu::uu::uu::uu::uu::uu::uu::uu::uu::uu::uu::uu::uu::uu::uu::uu::uu::uu::uu::uu::uu::uu::uu::uu::uu::uu::uu::uu::uu::uu::uu::uu::uu::uu::[]) ∧ h = stH s ++ [.var [.int .u8 C, lv n] 37, .var (frS C s).c 41]) 3 ?_ ?_
  · by_cases g : 97 ≤ C
    · have e1 : bigI C = C - 32 := if_pos g
      have e2 : frS C s = s.pos := if_pos g
      rw [e1, e2]
      have w1 : IntKind.wrap .u8 (C - 97) = C - 97 := wrap_u8 (by omega) (by omega)
      have w2 : IntKind.wrap .u8 (C - 97 + 65) = C - 32 := by rw [wrap_u8 (by omega) (by omega)]; omega
      clear e1 e2 hv hcap
      conv => whnf
      repeat' ((first | refine zs (by omega) ?_ | refine zq6 ?_ | refine zs (by dsimp only; omega) ?_ | refine zs (show pendP _ _ by repeat' constructor) ?_ | (with_reducible first | refine brT ‹_› ?_ | refine brF ‹_› ?_ | refine zt (by omega) ?_ | refine zf (by omega) ?_ | refine brNot ?_)); conv => whnf)
      refine DrawH.plan seat_ok (.take 0 (.take 1 (.take 2 (.take 3 (.take 4 (.take 5 (.take 6 (.perform 7 none (.perform 8 none Plan.done))))))))) 0 (by kernel_rfl) ?_
      conv => whnf
      repeat' (first | exact ⟨_, keepT_weak (maskOf 59 [0, 3, 4, 5]) _, rfl, rfl⟩ | (refine WrapH.is _ w1 ?_; conv => whnf) | (refine WrapH.is _ w2 ?_; conv => whnf) | ((first | refine zs (by omega) ?_ | refine zq6 ?_ | refine zs (by dsimp only; omega) ?_ | refine zs (show pendP _ _ by repeat' constructor) ?_ | (with_reducible first | refine brT ‹_› ?_ | refine brF ‹_› ?_ | refine zt (by omega) ?_ | refine zf (by omega) ?_ | refine brNot ?_)); conv => whnf))
    · have e1 : bigI C = C := if_neg g
      have e2 : frS C s = p0 := if_neg g
      rw [e1, e2]
      clear e1 e2 hv hcap
      conv => whnf
      repeat' (first | exact ⟨_, keepT_weak (maskOf 59 [0, 3, 4, 5]) _, rfl, rfl⟩ | ((first | refine zs (by omega) ?_ | refine zq6 ?_ | refine zs (by dsimp only; omega) ?_ | refine zs (show pendP _ _ by repeat' constructor) ?_ | (with_reducible first | refine brT ‹_› ?_ | refine brF ‹_› ?_ | refine zt (by omega) ?_ | refine zf (by omega) ?_ | refine brNot ?_)); conv => whnf))
  rintro _ _ ⟨rfl, rfl⟩
  generalize frS C s = F at *
  generalize hB : bigI C = B at *
  refine Sat.splitAt seat_ok (fun t h => t = (.ptr 0 0::uu::uu::.ptr 2 0::.int .u8 B::.ptr 3 0::uu::uu::uu::uu::uu::uu::uu::uu::uu::uu::uu::uu::uu::uu::uu::uu::uu::uu::uu::uu::uu::uu::uu::uu::uu::uu::uu::uu::uu::uu::uu::uu::uu::uu::uu::uu::uu::uu::uu::uu::uu::uu::uu::uu::uu::uu::uu::uu::uu::uu::uu::uu::uu::[]) ∧ h = stH (opS B s) ++ [.var [.int .u8 C, lv n] 37, .var F.c 41]) 1 ?_ ?_
  · clear hcap hv hin hout
    by_cases g : B = 77
    · have e : opS B s = s := if_neg (fun h => h.1 g)
      rw [e]
      clear e
      conv => whnf
      repeat' (first | exact ⟨_, keepT_weak (maskOf 59 [0, 3, 4, 5]) _, rfl, rfl⟩ | ((first | refine zs (by omega) ?_ | refine zq6 ?_ | refine zs (by dsimp only; omega) ?_ | refine zs (show pendP _ _ by repeat' constructor) ?_ | (with_reducible first | refine brT ‹_› ?_ | refine brF ‹_› ?_ | refine zt (by omega) ?_ | refine zf (by omega) ?_ | refine brNot ?_)); conv => whnf))
    · cases ho : s.opn with
      | false =>
        have e : opS B s = { putS s (lnS 1 s.pos) with opn := true } := if_pos ⟨g, ho⟩
        rw [e]
        clear e
        have cq := c_put s (lnS 1 s.pos) (by omega)
        have hb : (!s.opn) = true := by rw [ho]; rfl
        conv => whnf
        repeat' (first | exact ⟨_, keepT_weak (maskOf 59 [0, 3, 4, 5]) _, rfl, rfl⟩ | (refine CallH.st cq (by simp [IdsL, Ids, sgC]) (by simp [Ids, IdsL]) rfl ?_; conv => whnf) | ((first | refine zs (by omega) ?_ | refine zq6 ?_ | refine zs (by dsimp only; omega) ?_ | refine zs (show pendP _ _ by repeat' constructor) ?_ | (with_reducible first | refine brT ‹_› ?_ | refine brF ‹_› ?_ | refine zt (by omega) ?_ | refine zf (by omega) ?_ | refine brNot ?_)); conv => whnf))
      | true =>
        have e : opS B s = s := if_neg (fun h => by rw [ho] at h; cases h.2)
        rw [e]
        clear e
        have hb : (!s.opn) = false := by rw [ho]; rfl
        conv => whnf
        repeat' (first | exact ⟨_, keepT_weak (maskOf 59 [0, 3, 4, 5]) _, rfl, rfl⟩ | ((first | refine zs (by omega) ?_ | refine zq6 ?_ | refine zs (by dsimp only; omega) ?_ | refine zs (show pendP _ _ by repeat' constructor) ?_ | (with_reducible first | refine brT ‹_› ?_ | refine brF ‹_› ?_ | refine zt (by omega) ?_ | refine zf (by omega) ?_ | refine brNot ?_)); conv => whnf))
  rintro _ _ ⟨rfl, rfl⟩
  generalize opS B s = u at *
  refine Sat.splitAt seat_ok (fun t h => t = (.ptr 0 0::uu::uu::uu::.int .u8 B::uu::uu::uu::uu::uu::uu::uu::uu::uu::uu::uu::uu::uu::uu::uu::uu::uu::uu::uu::uu::uu::uu::uu::uu::uu::uu::uu::uu::uu::uu::uu::uu::uu::uu::uu::uu::uu::uu::uu::uu::uu::uu::uu::uu::uu::uu::uu::uu::uu::uu::uu::uu::uu::uu::[]) ∧ ∃ r, h = stH (actS B F n u) ++ r) 2 ?_ ?_
  · have cr := c_rules
    unfold rulesV at cr
    have hl2 : u.out.length ≤ 900000 := by omega
    clear hl hout hp hc
    simp only [capL, List.mem_cons, List.not_mem_nil, or_false, Prod.mk.injEq] at hcap
    rcases hcap with ⟨rfl, hn⟩ | ⟨rfl, hn⟩ | ⟨rfl, hn⟩ | ⟨rfl, hn⟩ | ⟨rfl, hn⟩ | ⟨rfl, hn⟩ | ⟨rfl, hn⟩ | ⟨rfl, hn⟩ | ⟨rfl, hn⟩ | ⟨rfl, hn⟩
    · obtain ⟨a, b, rfl⟩ : ∃ a b : Int, n = [a, b] := by
        match n, hn with
        | [a, b], _ => exact ⟨a, b, rfl⟩
      have cm := c_move u F a b hl2 hfr (hv _ (by simp)) (hv _ (by simp))
      clear hv
      conv => whnf
      repeat' (first | (refine lf seat_g cr ?_; conv => whnf) | ((first | refine zs (by omega) ?_ | refine zq6 ?_ | refine zs (by dsimp only; omega) ?_ | refine zs (show pendP _ _ by repeat' constructor) ?_ | (with_reducible first | refine brT ‹_› ?_ | refine brF ‹_› ?_ | refine zt (by omega) ?_ | refine zf (by omega) ?_ | refine brNot ?_)); conv => whnf))
      refine Sat.unroll seat_ok 11 ?_
      conv => whnf
      repeat' (first | exact ⟨_, keepT_weak (maskOf 59 [0, 4]) _, rfl, _, rfl⟩ | (refine CallH.st cm (by simp [IdsL, Ids, Pt.a, Pt.c, lv_ids]) (by simp [Ids, IdsL]) rfl ?_; conv => whnf) | ((first | refine zs (by omega) ?_ | refine zq6 ?_ | refine zs (by dsimp only; omega) ?_ | refine zs (show pendP _ _ by repeat' constructor) ?_ | (with_reducible first | refine brT ‹_› ?_ | refine brF ‹_› ?_ | refine zt (by omega) ?_ | refine zf (by omega) ?_ | refine brNot ?_)); conv => whnf))
    · obtain ⟨a, b, rfl⟩ : ∃ a b : Int, n = [a, b] := by
        match n, hn with
        | [a, b], _ => exact ⟨a, b, rfl⟩
      have cm := c_line u F a b hl2 hfr (hv _ (by simp)) (hv _ (by simp))
      clear hv
      conv => whnf
      repeat' (first | (refine lf seat_g cr ?_; conv => whnf) | ((first | refine zs (by omega) ?_ | refine zq6 ?_ | refine zs (by dsimp only; omega) ?_ | refine zs (show pendP _ _ by repeat' constructor) ?_ | (with_reducible first | refine brT ‹_› ?_ | refine brF ‹_› ?_ | refine zt (by omega) ?_ | refine zf (by omega) ?_ | refine brNot ?_)); conv => whnf))
      refine Sat.unroll seat_ok 11 ?_
      conv => whnf
      repeat' (first | exact ⟨_, keepT_weak (maskOf 59 [0, 4]) _, rfl, _, rfl⟩ | (refine CallH.st cm (by simp [IdsL, Ids, Pt.a, Pt.c, lv_ids]) (by simp [Ids, IdsL]) rfl ?_; conv => whnf) | ((first | refine zs (by omega) ?_ | refine zq6 ?_ | refine zs (by dsimp only; omega) ?_ | refine zs (show pendP _ _ by repeat' constructor) ?_ | (with_reducible first | refine brT ‹_› ?_ | refine brF ‹_› ?_ | refine zt (by omega) ?_ | refine zf (by omega) ?_ | refine brNot ?_)); conv => whnf))
    · obtain ⟨a, rfl⟩ : ∃ a : Int, n = [a] := by
        match n, hn with
        | [a], _ => exact ⟨a, rfl⟩
      have cm := c_across u F a hl2 hfr (hv _ (by simp)) hin.1
      clear hv
      conv => whnf
      repeat' (first | (refine lf seat_g cr ?_; conv => whnf) | ((first | refine zs (by omega) ?_ | refine zq6 ?_ | refine zs (by dsimp only; omega) ?_ | refine zs (show pendP _ _ by repeat' constructor) ?_ | (with_reducible first | refine brT ‹_› ?_ | refine brF ‹_› ?_ | refine zt (by omega) ?_ | refine zf (by omega) ?_ | refine brNot ?_)); conv => whnf))
      refine Sat.unroll seat_ok 11 ?_
      conv => whnf
      repeat' (first | exact ⟨_, keepT_weak (maskOf 59 [0, 4]) _, rfl, _, rfl⟩ | (refine CallH.st cm (by simp [IdsL, Ids, Pt.a, Pt.c, lv_ids]) (by simp [Ids, IdsL]) rfl ?_; conv => whnf) | ((first | refine zs (by omega) ?_ | refine zq6 ?_ | refine zs (by dsimp only; omega) ?_ | refine zs (show pendP _ _ by repeat' constructor) ?_ | (with_reducible first | refine brT ‹_› ?_ | refine brF ‹_› ?_ | refine zt (by omega) ?_ | refine zf (by omega) ?_ | refine brNot ?_)); conv => whnf))
    · obtain ⟨a, rfl⟩ : ∃ a : Int, n = [a] := by
        match n, hn with
        | [a], _ => exact ⟨a, rfl⟩
      have cm := c_down u F a hl2 hfr (hv _ (by simp)) hin.1
      clear hv
      conv => whnf
      repeat' (first | (refine lf seat_g cr ?_; conv => whnf) | ((first | refine zs (by omega) ?_ | refine zq6 ?_ | refine zs (by dsimp only; omega) ?_ | refine zs (show pendP _ _ by repeat' constructor) ?_ | (with_reducible first | refine brT ‹_› ?_ | refine brF ‹_› ?_ | refine zt (by omega) ?_ | refine zf (by omega) ?_ | refine brNot ?_)); conv => whnf))
      refine Sat.unroll seat_ok 11 ?_
      conv => whnf
      repeat' (first | exact ⟨_, keepT_weak (maskOf 59 [0, 4]) _, rfl, _, rfl⟩ | (refine CallH.st cm (by simp [IdsL, Ids, Pt.a, Pt.c, lv_ids]) (by simp [Ids, IdsL]) rfl ?_; conv => whnf) | ((first | refine zs (by omega) ?_ | refine zq6 ?_ | refine zs (by dsimp only; omega) ?_ | refine zs (show pendP _ _ by repeat' constructor) ?_ | (with_reducible first | refine brT ‹_› ?_ | refine brF ‹_› ?_ | refine zt (by omega) ?_ | refine zf (by omega) ?_ | refine brNot ?_)); conv => whnf))
    · obtain ⟨a, b, c, d, e, g, rfl⟩ : ∃ a b c d e g : Int, n = [a, b, c, d, e, g] := by
        match n, hn with
        | [a, b, c, d, e, g], _ => exact ⟨a, b, c, d, e, g, rfl⟩
      have cm := c_cubic u F a b c d e g hl2 hfr (hv _ (by simp)) (hv _ (by simp)) (hv _ (by simp)) (hv _ (by simp)) (hv _ (by simp)) (hv _ (by simp))
      clear hv
      conv => whnf
      repeat' (first | (refine lf seat_g cr ?_; conv => whnf) | ((first | refine zs (by omega) ?_ | refine zq6 ?_ | refine zs (by dsimp only; omega) ?_ | refine zs (show pendP _ _ by repeat' constructor) ?_ | (with_reducible first | refine brT ‹_› ?_ | refine brF ‹_› ?_ | refine zt (by omega) ?_ | refine zf (by omega) ?_ | refine brNot ?_)); conv => whnf))
      refine Sat.unroll seat_ok 11 ?_
      conv => whnf
      repeat' (first | exact ⟨_, keepT_weak (maskOf 59 [0, 4]) _, rfl, _, rfl⟩ | (refine CallH.st cm (by simp [IdsL, Ids, Pt.a, Pt.c, lv_ids]) (by simp [Ids, IdsL]) rfl ?_; conv => whnf) | ((first | refine zs (by omega) ?_ | refine zq6 ?_ | refine zs (by dsimp only; omega) ?_ | refine zs (show pendP _ _ by repeat' constructor) ?_ | (with_reducible first | refine brT ‹_› ?_ | refine brF ‹_› ?_ | refine zt (by omega) ?_ | refine zf (by omega) ?_ | refine brNot ?_)); conv => whnf))
    · obtain ⟨a, b, c, d, rfl⟩ : ∃ a b c d : Int, n = [a, b, c, d] := by
        match n, hn with
        | [a, b, c, d], _ => exact ⟨a, b, c, d, rfl⟩
      have cm := c_smooth u F a b c d hl2 hfr (hv _ (by simp)) (hv _ (by simp)) (hv _ (by simp)) (hv _ (by simp)) hin.1 hin.2
      clear hv
      conv => whnf
      repeat' (first | (refine lf seat_g cr ?_; conv => whnf) | ((first | refine zs (by omega) ?_ | refine zq6 ?_ | refine zs (by dsimp only; omega) ?_ | refine zs (show pendP _ _ by repeat' constructor) ?_ | (with_reducible first | refine brT ‹_› ?_ | refine brF ‹_› ?_ | refine zt (by omega) ?_ | refine zf (by omega) ?_ | refine brNot ?_)); conv => whnf))
      refine Sat.unroll seat_ok 11 ?_
      conv => whnf
      repeat' (first | exact ⟨_, keepT_weak (maskOf 59 [0, 4]) _, rfl, _, rfl⟩ | (refine CallH.st cm (by simp [IdsL, Ids, Pt.a, Pt.c, lv_ids]) (by simp [Ids, IdsL]) rfl ?_; conv => whnf) | ((first | refine zs (by omega) ?_ | refine zq6 ?_ | refine zs (by dsimp only; omega) ?_ | refine zs (show pendP _ _ by repeat' constructor) ?_ | (with_reducible first | refine brT ‹_› ?_ | refine brF ‹_› ?_ | refine zt (by omega) ?_ | refine zf (by omega) ?_ | refine brNot ?_)); conv => whnf))
    · obtain ⟨a, b, c, d, rfl⟩ : ∃ a b c d : Int, n = [a, b, c, d] := by
        match n, hn with
        | [a, b, c, d], _ => exact ⟨a, b, c, d, rfl⟩
      have cm := c_quad u F a b c d hl2 hfr (hv _ (by simp)) (hv _ (by simp)) (hv _ (by simp)) (hv _ (by simp))
      clear hv
      conv => whnf
      repeat' (first | (refine lf seat_g cr ?_; conv => whnf) | ((first | refine zs (by omega) ?_ | refine zq6 ?_ | refine zs (by dsimp only; omega) ?_ | refine zs (show pendP _ _ by repeat' constructor) ?_ | (with_reducible first | refine brT ‹_› ?_ | refine brF ‹_› ?_ | refine zt (by omega) ?_ | refine zf (by omega) ?_ | refine brNot ?_)); conv => whnf))
      refine Sat.unroll seat_ok 11 ?_
      conv => whnf
      repeat' (first | exact ⟨_, keepT_weak (maskOf 59 [0, 4]) _, rfl, _, rfl⟩ | (refine CallH.st cm (by simp [IdsL, Ids, Pt.a, Pt.c, lv_ids]) (by simp [Ids, IdsL]) rfl ?_; conv => whnf) | ((first | refine zs (by omega) ?_ | refine zq6 ?_ | refine zs (by dsimp only; omega) ?_ | refine zs (show pendP _ _ by repeat' constructor) ?_ | (with_reducible first | refine brT ‹_› ?_ | refine brF ‹_› ?_ | refine zt (by omega) ?_ | refine zf (by omega) ?_ | refine brNot ?_)); conv => whnf))
    · obtain ⟨a, b, rfl⟩ : ∃ a b : Int, n = [a, b] := by
        match n, hn with
        | [a, b], _ => exact ⟨a, b, rfl⟩
      have cm := c_again u F a b hl2 hfr (hv _ (by simp)) (hv _ (by simp)) hin.1 hin.2
      clear hv
      conv => whnf
      repeat' (first | (refine lf seat_g cr ?_; conv => whnf) | ((first | refine zs (by omega) ?_ | refine zq6 ?_ | refine zs (by dsimp only; omega) ?_ | refine zs (show pendP _ _ by repeat' constructor) ?_ | (with_reducible first | refine brT ‹_› ?_ | refine brF ‹_› ?_ | refine zt (by omega) ?_ | refine zf (by omega) ?_ | refine brNot ?_)); conv => whnf))
      refine Sat.unroll seat_ok 11 ?_
      conv => whnf
      repeat' (first | exact ⟨_, keepT_weak (maskOf 59 [0, 4]) _, rfl, _, rfl⟩ | (refine CallH.st cm (by simp [IdsL, Ids, Pt.a, Pt.c, lv_ids]) (by simp [Ids, IdsL]) rfl ?_; conv => whnf) | ((first | refine zs (by omega) ?_ | refine zq6 ?_ | refine zs (by dsimp only; omega) ?_ | refine zs (show pendP _ _ by repeat' constructor) ?_ | (with_reducible first | refine brT ‹_› ?_ | refine brF ‹_› ?_ | refine zt (by omega) ?_ | refine zf (by omega) ?_ | refine brNot ?_)); conv => whnf))
    · obtain ⟨a, b, c, d, e, g, i, rfl⟩ : ∃ a b c d e g i : Int, n = [a, b, c, d, e, g, i] := by
        match n, hn with
        | [a, b, c, d, e, g, i], _ => exact ⟨a, b, c, d, e, g, i, rfl⟩
      have cm := c_arc u F a b c d e g i hl2 hfr (hv _ (by simp)) (hv _ (by simp)) (hv _ (by simp)) (hv _ (by simp)) (hv _ (by simp)) (hv _ (by simp)) (hv _ (by simp))
      clear hv
      conv => whnf
      repeat' (first | (refine lf seat_g cr ?_; conv => whnf) | ((first | refine zs (by omega) ?_ | refine zq6 ?_ | refine zs (by dsimp only; omega) ?_ | refine zs (show pendP _ _ by repeat' constructor) ?_ | (with_reducible first | refine brT ‹_› ?_ | refine brF ‹_› ?_ | refine zt (by omega) ?_ | refine zf (by omega) ?_ | refine brNot ?_)); conv => whnf))
      refine Sat.unroll seat_ok 11 ?_
      conv => whnf
      repeat' (first | exact ⟨_, keepT_weak (maskOf 59 [0, 4]) _, rfl, _, rfl⟩ | (refine CallH.st cm (by simp [IdsL, Ids, Pt.a, Pt.c, lv_ids]) (by simp [Ids, IdsL]) rfl ?_; conv => whnf) | ((first | refine zs (by omega) ?_ | refine zq6 ?_ | refine zs (by dsimp only; omega) ?_ | refine zs (show pendP _ _ by repeat' constructor) ?_ | (with_reducible first | refine brT ‹_› ?_ | refine brF ‹_› ?_ | refine zt (by omega) ?_ | refine zf (by omega) ?_ | refine brNot ?_)); conv => whnf))
    · obtain rfl : n = [] := List.eq_nil_of_length_eq_zero hn
      have cm := c_end u F (lv []) (lv_closed _) hl2
      clear hv
      conv => whnf
      repeat' (first | (refine lf seat_g cr ?_; conv => whnf) | ((first | refine zs (by omega) ?_ | refine zq6 ?_ | refine zs (by dsimp only; omega) ?_ | refine zs (show pendP _ _ by repeat' constructor) ?_ | (with_reducible first | refine brT ‹_› ?_ | refine brF ‹_› ?_ | refine zt (by omega) ?_ | refine zf (by omega) ?_ | refine brNot ?_)); conv => whnf))
      refine Sat.unroll seat_ok 11 ?_
      conv => whnf
      repeat' (first | exact ⟨_, keepT_weak (maskOf 59 [0, 4]) _, rfl, _, rfl⟩ | (refine CallH.st cm (by simp [IdsL, Ids, Pt.a, Pt.c, lv_ids]) (by simp [Ids, IdsL]) rfl ?_; conv => whnf) | ((first | refine zs (by omega) ?_ | refine zq6 ?_ | refine zs (by dsimp only; omega) ?_ | refine zs (show pendP _ _ by repeat' constructor) ?_ | (with_reducible first | refine brT ‹_› ?_ | refine brF ‹_› ?_ | refine zt (by omega) ?_ | refine zf (by omega) ?_ | refine brNot ?_)); conv => whnf))
  rintro _ _ ⟨rfl, r, rfl⟩
  generalize actS B F n u = w at *
  refine codeR_sound seat_ok _ _ _ _ ?_
  conv => whnf
  repeat' (first | exact ⟨rfl, rfl⟩ | ((first | refine zs (by omega) ?_ | refine zq6 ?_ | refine zs (by dsimp only; omega) ?_ | refine zs (show pendP _ _ by repeat' constructor) ?_ | (with_reducible first | refine brT ‹_› ?_ | refine brF ‹_› ?_ | refine zt (by omega) ?_ | refine zf (by omega) ?_ | refine brNot ?_)); conv => whnf))
end Go.Proofs.YteicdddheaajlaaDoor
namespace Go.Proofs.YteicdddheaajlaaDoor
open Go.Abs
def atR (l : List Sg) : Pt := match l.getLast? with
  | some x => x.to
  | none => p0
def shutR (l : List Sg) : Bool := match l.getLast? with
  | some x => decide (x.kind = 6)
  | none => true
def beginR (l : List Sg) : Pt := match l.reverse.find? (fun x => decide (x.kind = 1)) with
  | some x => x.to
  | none => p0
theorem atR_snoc (l : List Sg) (x : Sg) : atR (l ++ [x]) = x.to := by simp [atR]
theorem shutR_snoc (l : List Sg) (x : Sg) : shutR (l ++ [x]) = decide (x.kind = 6) := by simp [shutR]
theorem beginR_snoc (l : List Sg) (x : Sg) : beginR (l ++ [x]) = if x.kind = 1 then x.to else beginR l := by
  unfold beginR
  rw [List.reverse_append, List.reverse_cons, List.reverse_nil, List.nil_append, List.singleton_append, List.find?_cons]
  by_cases h : x.kind = 1
  · simp [h]
  · simp [h]
def lastC (l : List Sg) (f : Sg → Pt) : Pt := match l.getLast? with
  | some x => f x
  | none => p0
def mirR (p c : Pt) : Pt := ⟨2 * p.x - c.x, 2 * p.y - c.y⟩
def sgR (c : Int) (n : List Int) (pos : Pt) (l : List Sg) (was : Int) : Sg :=
  let f : Pt := if 97 ≤ c then pos else p0
  let a := fun i => n.getD i 0
  if bigI c = 77 then lnS 1 (adP f (a 0) (a 1))
  else if bigI c = 76 then lnS 2 (adP f (a 0) (a 1))
  else if bigI c = 72 then lnS 2 ⟨f.x + a 0, pos.y⟩
  else if bigI c = 86 then lnS 2 ⟨pos.x, f.y + a 0⟩
  else if bigI c = 67 then ⟨3, adP f (a 4) (a 5), adP f (a 0) (a 1), adP f (a 2) (a 3), 0, 0, 0, false, false⟩
  else if bigI c = 83 then ⟨3, adP f (a 2) (a 3), if was = 67 ∨ was = 83 then mirR pos (lastC l Sg.c2) else pos, adP f (a 0) (a 1), 0, 0, 0, false, false⟩
  else if bigI c = 81 then ⟨4, adP f (a 2) (a 3), adP f (a 0) (a 1), p0, 0, 0, 0, false, false⟩
  else if bigI c = 84 then ⟨4, adP f (a 0) (a 1), if was = 81 ∨ was = 84 then mirR pos (lastC l Sg.c1) else pos, p0, 0, 0, 0, false, false⟩
  else if bigI c = 65 then ⟨5, adP f (a 5) (a 6), p0, p0, a 0, a 1, a 2, a 3 == 1, a 4 == 1⟩
  else lnS 6 (beginR l)
def kR (c : Int) (l : List Sg) : List Sg := if shutR l = true ∧ bigI c ≠ 77 then l ++ [lnS 1 (atR l)] else l
def sgIn (x : Sg) : Prop := inP x.to ∧ inP x.c1 ∧ inP x.c2
instance (x : Sg) : Decidable (sgIn x) := by unfold sgIn; infer_instance
structure Rel (s : St) (l : List Sg) (w : Int) : Prop where
  out : s.out = l
  was : s.was = w
  pos : s.pos = atR l
  opn : s.opn = !shutR l
  bg : s.bg = beginR l
  ct1 : w = 67 ∨ w = 83 → shutR l = false ∧ lastC l Sg.c2 = s.ct
  ct2 : w = 81 ∨ w = 84 → shutR l = false ∧ lastC l Sg.c1 = s.ct
  shut : shutR l = true → s.pos = s.bg
theorem rel0 : Rel st0 [] 0 := ⟨rfl, rfl, rfl, rfl, rfl, fun h => absurd h (by decide), fun h => absurd h (by decide), fun _ => rfl⟩
theorem adP_eq {p c : Pt} : adP p (p.x - c.x) (p.y - c.y) = mirR p c := by
  unfold adP mirR; congr 1 <;> omega
theorem inP_p0 : inP p0 := by decide
theorem lastC_snoc (l : List Sg) (x : Sg) (f : Sg → Pt) : lastC (l ++ [x]) f = f x := by simp [lastC]
structure Mid (t : St) (k : List Sg) (w : Int) (q d : Pt) : Prop where
  out : t.out = k
  was : t.was = w
  pos : t.pos = q
  bg : t.bg = beginR k
  ct : t.ct = d
  bad : t.bad = false
  m1 : w = 67 ∨ w = 83 → lastC k Sg.c2 = d
  m2 : w = 81 ∨ w = 84 → lastC k Sg.c1 = d
  iq : inP q
  ib : inP t.bg
  ic : inP d
theorem op_mid {s : St} {l : List Sg} {w : Int} (c : Int) (hs : StOk s) (hr : Rel s l w) : Mid (opS (bigI c) s) (kR c l) w (atR l) s.ct ∧ (bigI c ≠ 77 → (opS (bigI c) s).opn = true) := by
  unfold opS kR
  by_cases h : bigI c = 77
  · rw [if_neg (fun g => g.1 h), if_neg (fun g => g.2 h)]
    exact ⟨⟨hr.out, hr.was, hr.pos, hr.bg, rfl, hs.bad, fun g => (hr.ct1 g).2, fun g => (hr.ct2 g).2, hr.pos ▸ hs.pos, hs.bg, hs.ct⟩, fun g => absurd h g⟩
  · by_cases g : shutR l = true
    · have ho : s.opn = false := by rw [hr.opn, g]; rfl
      rw [if_pos ⟨h, ho⟩, if_pos ⟨g, h⟩]
      have n1 : ¬ (w = 67 ∨ w = 83) := fun e => by have := (hr.ct1 e).1; rw [g] at this; cases this
      have n2 : ¬ (w = 81 ∨ w = 84) := fun e => by have := (hr.ct2 e).1; rw [g] at this; cases this
      refine ⟨⟨?_, hr.was, hr.pos, ?_, rfl, hs.bad, fun e => absurd e n1, fun e => absurd e n2, hr.pos ▸ hs.pos, hs.bg, hs.ct⟩, fun _ => rfl⟩
      · show s.out ++ [lnS 1 s.pos] = _; rw [hr.out, hr.pos]
      · rw [beginR_snoc, if_pos (show (lnS 1 (atR l)).kind = 1 from rfl)]
        show s.bg = atR l
        rw [← hr.shut g, hr.pos]
    · have ho : s.opn = true := by rw [hr.opn, Bool.eq_false_iff.2 g]; rfl
      rw [if_neg (fun e => by rw [ho] at e; cases e.2), if_neg (fun e => g e.1)]
      exact ⟨⟨hr.out, hr.was, hr.pos, hr.bg, rfl, hs.bad, fun g => (hr.ct1 g).2, fun g => (hr.ct2 g).2, hr.pos ▸ hs.pos, hs.bg, hs.ct⟩, fun _ => ho⟩
theorem mir_eq {t : St} {k : List Sg} {w : Int} {q ct : Pt} (h : Mid t k w q ct) : mirP t 67 83 = (if w = 67 ∨ w = 83 then mirR q (lastC k Sg.c2) else q) ∧ mirP t 81 84 = (if w = 81 ∨ w = 84 then mirR q (lastC k Sg.c1) else q) := by
  unfold mirP
  rw [h.was, h.pos, h.ct]
  constructor
  · by_cases g : w = 67 ∨ w = 83
    · rw [if_pos g, if_pos g, h.m1 g, adP_eq]
    · rw [if_neg g, if_neg g]
  · by_cases g : w = 81 ∨ w = 84
    · rw [if_pos g, if_pos g, h.m2 g, adP_eq]
    · rw [if_neg g, if_neg g]
structure Aft (u : St) (k : List Sg) (o : Sg) (c : Int) : Prop where
  out : u.out = k ++ [o]
  pos : u.pos = o.to
  bg : u.bg = beginR (k ++ [o])
  opn : u.opn = !decide (o.kind = 6)
  c1 : c = 67 ∨ c = 83 → o.kind ≠ 6 ∧ o.c2 = u.ct
  c2 : c = 81 ∨ c = 84 → o.kind ≠ 6 ∧ o.c1 = u.ct
  shut : o.kind = 6 → u.pos = u.bg
  bad : u.bad = false ↔ sgIn o
  ok : sgIn o → inP u.bg ∧ inP u.ct
theorem act_aft {t : St} {k : List Sg} {w : Int} {q ct : Pt} (c : Int) (n : List Int) (h : Mid t k w q ct) (ho : bigI c ≠ 77 → t.opn = true) : Aft (actS (bigI c) (if 97 ≤ c then q else p0) n t) k (sgR c n q k w) (bigI c) := by
  obtain ⟨e1, e2⟩ := mir_eq h
  have hib := h.ib
  have hic := h.ic
  have hiq := h.iq
  have mb : ∀ a b, (mirS t a b).out = t.out ∧ (mirS t a b).bg = t.bg ∧ (mirS t a b).opn = t.opn ∧ ((mirS t a b).bad = false ↔ inP (mirP t a b)) := fun a b => by
    unfold mirS
    split
    · exact ⟨rfl, rfl, rfl, by simp [tell, h.bad]⟩
    · rename_i g; exact ⟨rfl, rfl, rfl, by unfold mirP; rw [if_neg g, h.pos, h.bad]; simp [hiq]⟩
  unfold actS sgR
  generalize (if 97 ≤ c then q else p0) = f
  generalize bigI c = b at *
  by_cases h1 : b = 77
  · simp only [if_pos h1]
    subst h1
    exact ⟨by simp [mvS, putS, tell, h.out], rfl, by rw [beginR_snoc]; rfl, rfl, fun g => absurd g (by decide), fun g => absurd g (by decide), fun g => absurd g (show ¬ ((1 : Int) = 6) by decide), by simp [mvS, putS, tell, h.bad, sgIn, lnS, inP_p0], fun g => ⟨g.1, by simpa [mvS, putS, tell, h.ct] using hic⟩⟩
  simp only [if_neg h1]
  have ho := ho h1
  by_cases h2 : b = 76
  · simp only [if_pos h2]
    subst h2
    exact ⟨by simp [liS, putS, tell, h.out], rfl, by rw [beginR_snoc]; simp [lnS, liS, putS, tell, h.bg], by simp [liS, putS, tell, ho, lnS], fun g => absurd g (by decide), fun g => absurd g (by decide), fun g => absurd g (show ¬ ((2 : Int) = 6) by decide), by simp [liS, putS, tell, h.bad, sgIn, lnS, inP_p0], fun g => ⟨by simpa [liS, putS, tell] using hib, by simpa [liS, putS, tell, h.ct] using hic⟩⟩
  simp only [if_neg h2]
  by_cases h3 : b = 72
  · simp only [if_pos h3]
    subst h3
    have e : adP ⟨f.x, t.pos.y⟩ (n.getD 0 0) 0 = ⟨f.x + n.getD 0 0, q.y⟩ := by simp [adP, h.pos]
    rw [e.symm]
    unfold liS
    generalize adP ⟨f.x, t.pos.y⟩ (n.getD 0 0) 0 = z
    show Aft (putS (tell t z) (lnS 2 z)) k (lnS 2 z) 72
    exact ⟨by simp [liS, putS, tell, h.out], by simp [putS, lnS], by rw [beginR_snoc]; simp [lnS, liS, putS, tell, h.bg], by simp [liS, putS, tell, ho, lnS], fun g => absurd g (by decide), fun g => absurd g (by decide), fun g => absurd g (show ¬ ((2 : Int) = 6) by decide), by simp [liS, putS, tell, h.bad, sgIn, lnS, inP_p0], fun g => ⟨by simpa [liS, putS, tell] using hib, by simpa [liS, putS, tell, h.ct] using hic⟩⟩
  simp only [if_neg h3]
  by_cases h4 : b = 86
  · simp only [if_pos h4]
    subst h4
    have e : adP ⟨t.pos.x, f.y⟩ 0 (n.getD 0 0) = ⟨q.x, f.y + n.getD 0 0⟩ := by simp [adP, h.pos]
    rw [e.symm]
    unfold liS
    generalize adP ⟨t.pos.x, f.y⟩ 0 (n.getD 0 0) = z
    show Aft (putS (tell t z) (lnS 2 z)) k (lnS 2 z) 86
    exact ⟨by simp [liS, putS, tell, h.out], by simp [putS, lnS], by rw [beginR_snoc]; simp [lnS, liS, putS, tell, h.bg], by simp [liS, putS, tell, ho, lnS], fun g => absurd g (by decide), fun g => absurd g (by decide), fun g => absurd g (show ¬ ((2 : Int) = 6) by decide), by simp [liS, putS, tell, h.bad, sgIn, lnS, inP_p0], fun g => ⟨by simpa [liS, putS, tell] using hib, by simpa [liS, putS, tell, h.ct] using hic⟩⟩
  simp only [if_neg h4]
  by_cases h5 : b = 67
  · simp only [if_pos h5]
    subst h5
    exact ⟨by simp [cuS, putS, tell, h.out], rfl, by rw [beginR_snoc]; simp [cuS, putS, tell, h.bg], by simp [cuS, putS, tell, ho], fun _ => ⟨show ¬ ((3 : Int) = 6) by decide, rfl⟩, fun g => absurd g (by decide), fun g => absurd g (show ¬ ((3 : Int) = 6) by decide), by simp [cuS, putS, tell, h.bad, sgIn]; exact ⟨fun g => ⟨g.2, g.1.2, g.1.1⟩, fun g => ⟨⟨g.2.2, g.2.1⟩, g.1⟩⟩, fun g => ⟨by simpa [cuS, putS, tell] using hib, g.2.2⟩⟩
  simp only [if_neg h5]
  by_cases h6 : b = 83
  · simp only [if_pos h6]
    subst h6
    rw [← e1]
    have m := mb 67 83
    exact ⟨by simp [smS, putS, tell, h.out, m.1], rfl, by rw [beginR_snoc]; simp [smS, putS, tell, h.bg, m.2.1], by simp [smS, putS, tell, ho, m.2.2.1], fun _ => ⟨show ¬ ((3 : Int) = 6) by decide, rfl⟩, fun g => absurd g (by decide), fun g => absurd g (show ¬ ((3 : Int) = 6) by decide), by simp [smS, putS, tell, sgIn, m.2.2.2]; exact ⟨fun g => ⟨g.2, g.1.1, g.1.2⟩, fun g => ⟨⟨g.2.1, g.2.2⟩, g.1⟩⟩, fun g => ⟨by simpa [smS, putS, tell, m.2.1] using hib, g.2.2⟩⟩
  simp only [if_neg h6]
  by_cases h7 : b = 81
  · simp only [if_pos h7]
    subst h7
    exact ⟨by simp [quS, putS, tell, h.out], rfl, by rw [beginR_snoc]; simp [quS, putS, tell, h.bg], by simp [quS, putS, tell, ho], fun g => absurd g (by decide), fun _ => ⟨show ¬ ((4 : Int) = 6) by decide, rfl⟩, fun g => absurd g (show ¬ ((4 : Int) = 6) by decide), by simp [quS, putS, tell, h.bad, sgIn, inP_p0]; exact ⟨fun g => ⟨g.2, g.1⟩, fun g => ⟨g.2, g.1⟩⟩, fun g => ⟨by simpa [quS, putS, tell] using hib, g.2.1⟩⟩
  simp only [if_neg h7]
  by_cases h8 : b = 84
  · simp only [if_pos h8]
    subst h8
    rw [← e2]
    have m := mb 81 84
    exact ⟨by simp [agS, putS, tell, h.out, m.1], rfl, by rw [beginR_snoc]; simp [agS, putS, tell, h.bg, m.2.1], by simp [agS, putS, tell, ho, m.2.2.1], fun g => absurd g (by decide), fun _ => ⟨show ¬ ((4 : Int) = 6) by decide, rfl⟩, fun g => absurd g (show ¬ ((4 : Int) = 6) by decide), by simp [agS, putS, tell, sgIn, m.2.2.2, inP_p0]; exact ⟨fun g => ⟨g.2, g.1⟩, fun g => ⟨g.2, g.1⟩⟩, fun g => ⟨by simpa [agS, putS, tell, m.2.1] using hib, g.2.1⟩⟩
  simp only [if_neg h8]
  by_cases h9 : b = 65
  · simp only [if_pos h9]
    subst h9
    exact ⟨by simp [arS, putS, tell, h.out], rfl, by rw [beginR_snoc]; simp [arS, putS, tell, h.bg], by simp [arS, putS, tell, ho], fun g => absurd g (by decide), fun g => absurd g (by decide), fun g => absurd g (show ¬ ((5 : Int) = 6) by decide), by simp [arS, putS, tell, h.bad, sgIn, inP_p0], fun g => ⟨by simpa [arS, putS, tell] using hib, by simpa [arS, putS, tell, h.ct] using hic⟩⟩
  simp only [if_neg h9]
  exact ⟨by simp [enS, putS, h.out, h.bg], by simp [enS, putS, lnS, h.bg], by rw [beginR_snoc]; simp [lnS, enS, putS, h.bg], rfl, fun g => by omega, fun g => by omega, fun _ => rfl, by simp [enS, putS, h.bad, sgIn, lnS, inP_p0]; rw [← h.bg]; exact hib, fun g => ⟨by simpa [enS, putS] using hib, by simpa [enS, putS, h.ct] using hic⟩⟩
theorem rel_step {s : St} {l : List Sg} {w : Int} (c : Int) (n : List Int) (hs : StOk s) (hr : Rel s l w) :
    ((doS s c n).bad = false ↔ sgIn (sgR c n (atR l) (kR c l) w)) ∧ (sgIn (sgR c n (atR l) (kR c l) w) → StOk (doS s c n) ∧ Rel (doS s c n) (kR c l ++ [sgR c n (atR l) (kR c l) w]) (bigI c)) := by
  obtain ⟨hm, ho⟩ := op_mid c hs hr
  have ha := act_aft c n hm ho
  have ef : frS c s = (if 97 ≤ c then atR l else p0) := by unfold frS; rw [hr.pos]
  rw [← ef] at ha
  refine ⟨ha.bad, fun hg => ⟨⟨?_, (ha.ok hg).1, (ha.ok hg).2, ha.bad.2 hg⟩, ⟨ha.out, rfl, ?_, ?_, ha.bg, ?_, ?_, ?_⟩⟩⟩
  · show inP (actS (bigI c) (frS c s) n (opS (bigI c) s)).pos
    rw [ha.pos]; exact hg.1
  · rw [atR_snoc]; exact ha.pos
  · rw [shutR_snoc]; exact ha.opn
  · rw [shutR_snoc, lastC_snoc]; intro e; have := ha.c1 e; exact ⟨decide_eq_false this.1, this.2⟩
  · rw [shutR_snoc, lastC_snoc]; intro e; have := ha.c2 e; exact ⟨decide_eq_false this.1, this.2⟩
  · rw [shutR_snoc]; intro e; exact ha.shut (of_decide_eq_true e)
theorem do_out {s : St} {l : List Sg} {w : Int} (c : Int) (n : List Int) (hs : StOk s) (hr : Rel s l w) : (doS s c n).out = kR c l ++ [sgR c n (atR l) (kR c l) w] := by
  obtain ⟨hm, ho⟩ := op_mid c hs hr
  have ha := act_aft c n hm ho
  have ef : frS c s = (if 97 ≤ c then atR l else p0) := by unfold frS; rw [hr.pos]
  rw [← ef] at ha
  exact ha.out
theorem kR_pre (c : Int) (l : List Sg) : ∃ m, kR c l = l ++ m ∧ m.length ≤ 1 := by
  unfold kR; split
  · exact ⟨_, rfl, by simp⟩
  · exact ⟨[], (List.append_nil _).symm, by simp⟩
end Go.Proofs.YteicdddheaajlaaDoor
