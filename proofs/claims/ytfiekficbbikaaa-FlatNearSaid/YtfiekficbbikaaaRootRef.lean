/- The document's root, and its squares. Conditions: the bounds that each line names. -/
import Derived.Test.YtfiekficbbikaaaNum
set_option linter.unusedSimpArgs false
set_option linter.unusedVariables false
set_option linter.deprecated false
namespace Go.Proofs.Ytfiekficbbikaaa
open Go.Abs

theorem dl8 {n : Nat} (h : n < 340282366920938463463374607431768211456) : (dig n).length ≤ 8 := dig_length_lt (by simpa using h)
theorem dig_step (m : Nat) (h : m ≠ 0) (o : List Int) (D : List Int) (ho : o ++ dig m = D) : (o ++ [((m % 65536 : Nat) : Int)]) ++ dig (m / 65536) = D := by
  rw [← ho, dig_pos h]; simp
theorem c_of2 (n : Nat) (hn : n < 18446744073709551616) : ACalls seat 39 [.int .u64 n] [] (fun x _ => x = .ret (nv false n)) := by
  refine ACalls.weakR ?_
  refine ACalls.body seat_ok Try.func39 rfl rfl ?_
  conv => whnf
  refine Sat.nilTok 3 3 1 rfl ?_
  refine Sat.cut (fun x t h => x = .exit 0 ∧ t = (AV.undef :: AV.undef :: .ptr 0 0 :: .vec (ci .i64 (dig n)) (dig n).length (some 1) :: AV.undef :: AV.undef :: AV.undef :: AV.undef :: AV.undef :: AV.undef :: AV.undef :: AV.undef :: AV.undef :: AV.undef :: AV.undef :: AV.undef :: []) ∧ h = [.var [.bool false, .nils] 61, .tok (dig n).length 3 1]) ?_ ?_
  · refine Sat.invP seat_ok seat_g (maskOf 16 [0, 2, 3]) 2 (fun μ t h => ∃ (m : Nat) (o : List Int), m ≤ n ∧ o ++ dig m = dig n ∧ μ = m ∧ t = (.int .u64 m :: AV.undef :: .ptr 0 0 :: .vec (ci .i64 o) o.length (some 1) :: AV.undef :: AV.undef :: AV.undef :: AV.undef :: AV.undef :: AV.undef :: AV.undef :: AV.undef :: AV.undef :: AV.undef :: AV.undef :: AV.undef :: []) ∧ h = [.var [.bool false, .nils] 61, .tok o.length 3 1])
      ?_ ⟨_, _, WeakL.of_eq rfl, n, [], Nat.le_refl _, rfl, rfl, rfl, rfl⟩ ?_
    · rintro _ _ _ ⟨m, o, -, -, rfl, rfl, rfl⟩
      exact ⟨rfl, (by simp [IdsL, Ids, IdsH, IdsC, lv_ids, ci_ids]), (by simp [IdsL, Ids, IdsH, IdsC, lv_ids, ci_ids])⟩
    rintro m _ _ ⟨_, o, hm, ho, rfl, rfl, rfl⟩
    by_cases g : m = 0
    · subst g
      obtain rfl : o = dig n := by simpa [dig_zero] using ho
      conv => whnf
      repeat' (first | (refine WrapH.quo (by omega) (by omega) (by omega) ?_; conv => whnf) | (refine WrapH.quoU (by omega) (by omega) (by omega) ?_; conv => whnf) | (refine NumH.rem (by omega) ?_; conv => whnf) | (refine WrapH.is _ (wrap_i64 (by omega) (by omega)) ?_; conv => whnf) | (refine WrapH.is _ (wrap_u64 (by omega) (by omega)) ?_; conv => whnf) | (refine WrapH.is _ wrap_u64m ?_; conv => whnf) | (refine Req.mk (by omega) ?_; conv => whnf) | (refine Req.mk (by dsimp only; omega) ?_; conv => whnf) | (refine Req.mk ⟨rfl, rfl, rfl, by simp [ci_length, *], rfl, by simp [okCell], by dsimp only; omega, by omega, by decide⟩ ?_; conv => whnf) | (refine Req.mk (show pendP _ _ by repeat' constructor) ?_; conv => whnf) | ((with_reducible refine brT ?_ ?_); (next => assumption); (conv => whnf)) | ((with_reducible refine brF ?_ ?_); (next => assumption); (conv => whnf)) | ((with_reducible refine brDT ?_ ?_); (next => omega); (conv => whnf)) | ((with_reducible refine brDF ?_ ?_); (next => omega); (conv => whnf)) | ((with_reducible refine brET ?_ ?_); (next => omega); (conv => whnf)) | ((with_reducible refine brEF ?_ ?_); (next => omega); (conv => whnf)) | ((with_reducible refine brNET ?_ ?_); (next => omega); (conv => whnf)) | ((with_reducible refine brNEF ?_ ?_); (next => omega); (conv => whnf)) | (with_reducible refine brNot ?_))
      exact ⟨_, keepT_weak (maskOf 16 [2, 3]) _, rfl, rfl, rfl⟩
    · have hst := dig_step m g o _ ho
      have hle : o.length ≤ 8 := by
        have := dl8 (n := n) (by omega)
        rw [← ho] at this; simp at this; omega
      conv => whnf
      repeat' (first | (refine WrapH.quo (by omega) (by omega) (by omega) ?_; conv => whnf) | (refine WrapH.quoU (by omega) (by omega) (by omega) ?_; conv => whnf) | (refine NumH.rem (by omega) ?_; conv => whnf) | (refine WrapH.is _ (wrap_i64 (by omega) (by omega)) ?_; conv => whnf) | (refine WrapH.is _ (wrap_u64 (by omega) (by omega)) ?_; conv => whnf) | (refine WrapH.is _ wrap_u64m ?_; conv => whnf) | (refine Req.mk (by omega) ?_; conv => whnf) | (refine Req.mk (by dsimp only; omega) ?_; conv => whnf) | (refine Req.mk ⟨rfl, rfl, rfl, by simp [ci_length, *], rfl, by simp [okCell], by dsimp only; omega, by omega, by decide⟩ ?_; conv => whnf) | (refine Req.mk (show pendP _ _ by repeat' constructor) ?_; conv => whnf) | ((with_reducible refine brT ?_ ?_); (next => assumption); (conv => whnf)) | ((with_reducible refine brF ?_ ?_); (next => assumption); (conv => whnf)) | ((with_reducible refine brDT ?_ ?_); (next => omega); (conv => whnf)) | ((with_reducible refine brDF ?_ ?_); (next => omega); (conv => whnf)) | ((with_reducible refine brET ?_ ?_); (next => omega); (conv => whnf)) | ((with_reducible refine brEF ?_ ?_); (next => omega); (conv => whnf)) | ((with_reducible refine brNET ?_ ?_); (next => omega); (conv => whnf)) | ((with_reducible refine brNEF ?_ ?_); (next => omega); (conv => whnf)) | (with_reducible refine brNot ?_))
      refine ⟨_, _, Nat.div_lt_self (by omega) (by omega), WeakL.of_eq rfl, m / 65536, o ++ [((m % 65536 : Nat) : Int)], by omega, hst, rfl, ?_, ?_⟩
      · rw [← ci_append, List.length_append]; rfl
      · rw [List.length_append]; rfl
  · rintro _ _ _ ⟨rfl, rfl, rfl⟩
    conv => whnf
    repeat' (first | (refine WrapH.quo (by omega) (by omega) (by omega) ?_; conv => whnf) | (refine WrapH.quoU (by omega) (by omega) (by omega) ?_; conv => whnf) | (refine NumH.rem (by omega) ?_; conv => whnf) | (refine WrapH.is _ (wrap_i64 (by omega) (by omega)) ?_; conv => whnf) | (refine WrapH.is _ (wrap_u64 (by omega) (by omega)) ?_; conv => whnf) | (refine WrapH.is _ wrap_u64m ?_; conv => whnf) | (refine Req.mk (by omega) ?_; conv => whnf) | (refine Req.mk (by dsimp only; omega) ?_; conv => whnf) | (refine Req.mk ⟨rfl, rfl, rfl, by simp [ci_length, *], rfl, by simp [okCell], by dsimp only; omega, by omega, by decide⟩ ?_; conv => whnf) | (refine Req.mk (show pendP _ _ by repeat' constructor) ?_; conv => whnf) | ((with_reducible refine brT ?_ ?_); (next => assumption); (conv => whnf)) | ((with_reducible refine brF ?_ ?_); (next => assumption); (conv => whnf)) | ((with_reducible refine brDT ?_ ?_); (next => omega); (conv => whnf)) | ((with_reducible refine brDF ?_ ?_); (next => omega); (conv => whnf)) | ((with_reducible refine brET ?_ ?_); (next => omega); (conv => whnf)) | ((with_reducible refine brEF ?_ ?_); (next => omega); (conv => whnf)) | ((with_reducible refine brNET ?_ ?_); (next => omega); (conv => whnf)) | ((with_reducible refine brNEF ?_ ?_); (next => omega); (conv => whnf)) | (with_reducible refine brNot ?_))
    exact .inl ⟨_, _, rfl, Weak.agg (WeakL.cons (Weak.refl _) (WeakL.cons Weak.tok WeakL.nil)), rfl⟩
theorem c_above (m n : Nat) (hm : m < 340282366920938463463374607431768211456) (hn : n < 340282366920938463463374607431768211456) : ACalls seat 40 [nv false m, nv false n] [] (fun x _ => x = .ret (.bool (decide (n < m)))) := by
  refine ACalls.body seat_ok Try.func40 rfl rfl ?_
  have c1 := c_add false true m n (Nat.le_trans (dl8 hm) (by decide)) (Nat.le_trans (dl8 hn) (by decide))
  have e1 : addS false m true n = decide (m < n) := by unfold addS; rw [if_neg (by decide)]; split <;> simp [*]
  have e2 : addM false m true n = if m < n then n - m else m - n := by unfold addM; rw [if_neg (by decide)]
  rw [e1, e2] at c1
  by_cases g : m < n
  · rw [decide_eq_true g, if_pos g] at c1
    rw [decide_eq_false (show ¬ n < m by omega)]
    conv => whnf
    refine CallH.lift seat_g c1 ⟨nv_closed _ _, nv_closed _ _, trivial⟩ (nv_closed _ _) ?_
    conv => whnf
    repeat' (first | (refine WrapH.quo (by omega) (by omega) (by omega) ?_; conv => whnf) | (refine WrapH.quoU (by omega) (by omega) (by omega) ?_; conv => whnf) | (refine NumH.rem (by omega) ?_; conv => whnf) | (refine WrapH.is _ (wrap_i64 (by omega) (by omega)) ?_; conv => whnf) | (refine WrapH.is _ (wrap_u64 (by omega) (by omega)) ?_; conv => whnf) | (refine WrapH.is _ wrap_u64m ?_; conv => whnf) | (refine Req.mk (by omega) ?_; conv => whnf) | (refine Req.mk (by dsimp only; omega) ?_; conv => whnf) | (refine Req.mk ⟨rfl, rfl, rfl, by simp [ci_length, *], rfl, by simp [okCell], by dsimp only; omega, by omega, by decide⟩ ?_; conv => whnf) | (refine Req.mk (show pendP _ _ by repeat' constructor) ?_; conv => whnf) | ((with_reducible refine brT ?_ ?_); (next => assumption); (conv => whnf)) | ((with_reducible refine brF ?_ ?_); (next => assumption); (conv => whnf)) | ((with_reducible refine brDT ?_ ?_); (next => omega); (conv => whnf)) | ((with_reducible refine brDF ?_ ?_); (next => omega); (conv => whnf)) | ((with_reducible refine brET ?_ ?_); (next => omega); (conv => whnf)) | ((with_reducible refine brEF ?_ ?_); (next => omega); (conv => whnf)) | ((with_reducible refine brNET ?_ ?_); (next => omega); (conv => whnf)) | ((with_reducible refine brNEF ?_ ?_); (next => omega); (conv => whnf)) | (with_reducible refine brNot ?_))
    rfl
  · rw [decide_eq_false g, if_neg g] at c1
    have hz : (dig (m - n)).length = 0 ↔ m - n = 0 := by rw [List.length_eq_zero_iff]; exact dig_nil
    conv => whnf
    refine CallH.lift seat_g c1 ⟨nv_closed _ _, nv_closed _ _, trivial⟩ (nv_closed _ _) ?_
    conv => whnf
    repeat' (first | (refine WrapH.quo (by omega) (by omega) (by omega) ?_; conv => whnf) | (refine WrapH.quoU (by omega) (by omega) (by omega) ?_; conv => whnf) | (refine NumH.rem (by omega) ?_; conv => whnf) | (refine WrapH.is _ (wrap_i64 (by omega) (by omega)) ?_; conv => whnf) | (refine WrapH.is _ (wrap_u64 (by omega) (by omega)) ?_; conv => whnf) | (refine WrapH.is _ wrap_u64m ?_; conv => whnf) | (refine Req.mk (by omega) ?_; conv => whnf) | (refine Req.mk (by dsimp only; omega) ?_; conv => whnf) | (refine Req.mk ⟨rfl, rfl, rfl, by simp [ci_length, *], rfl, by simp [okCell], by dsimp only; omega, by omega, by decide⟩ ?_; conv => whnf) | (refine Req.mk (show pendP _ _ by repeat' constructor) ?_; conv => whnf) | ((with_reducible refine brT ?_ ?_); (next => assumption); (conv => whnf)) | ((with_reducible refine brF ?_ ?_); (next => assumption); (conv => whnf)) | ((with_reducible refine brDT ?_ ?_); (next => omega); (conv => whnf)) | ((with_reducible refine brDF ?_ ?_); (next => omega); (conv => whnf)) | ((with_reducible refine brET ?_ ?_); (next => omega); (conv => whnf)) | ((with_reducible refine brEF ?_ ?_); (next => omega); (conv => whnf)) | ((with_reducible refine brNET ?_ ?_); (next => omega); (conv => whnf)) | ((with_reducible refine brNEF ?_ ?_); (next => omega); (conv => whnf)) | (with_reducible refine brNot ?_))
    refine congrArg AEnd.ret (congrArg AV.bool ?_)
    exact decide_eq_decide.2 ⟨fun h => by omega, fun h => by omega⟩
def bitOf : Nat → Nat
  | 0 => 0
  | k + 1 => 2 ^ k
theorem bitOf_half (k : Nat) : bitOf (k + 1) / 2 = bitOf k := by
  cases k with
  | zero => rfl
  | succ k => simp only [bitOf]; rw [Nat.pow_succ]; omega
theorem bitOf_lt (k : Nat) (h : k ≤ 64) : bitOf k < 18446744073709551616 := by
  cases k with
  | zero => decide
  | succ k => exact Nat.lt_of_le_of_lt (Nat.pow_le_pow_right (by decide) (show k ≤ 63 by omega)) (by decide)
set_option maxRecDepth 20000 in
theorem c_root (n : Nat) (hn : n < 340282366920938463463374607431768211456) : ∃ r : Nat, r * r ≤ n ∧ n < (r + 1) * (r + 1) ∧ r < 18446744073709551616 ∧ ACalls seat 27 [nv false n] [] (fun x _ => x = .ret (.int .u64 r)) := by
  -- the root itself
  obtain ⟨R, h1, h2⟩ : ∃ R : Nat, R * R ≤ n ∧ n < (R + 1) * (R + 1) := by
    clear hn
    induction n with
    | zero => exact ⟨0, by decide, by decide⟩
    | succ n ih =>
      obtain ⟨R, a, b⟩ := ih
      by_cases g : n + 1 < (R + 1) * (R + 1)
      · exact ⟨R, by omega, g⟩
      · refine ⟨R + 1, by omega, ?_⟩
        have : (R + 1 + 1) * (R + 1 + 1) = (R + 1) * (R + 1) + 2 * (R + 1) + 1 := by simp only [Nat.add_mul, Nat.mul_add]; omega
        omega
  have hR : R < 18446744073709551616 := by
    apply Nat.lt_of_not_le; intro h
    have := Nat.mul_le_mul h h
    omega
  refine ⟨R, h1, h2, hR, ?_⟩
  -- which numbers' squares are not above n
  have key : ∀ x : Nat, n < x * x ↔ R < x := fun x => by
    constructor
    · intro h
      apply Nat.lt_of_not_le; intro hx
      have := Nat.mul_le_mul hx hx; omega
    · intro h
      have := Nat.mul_le_mul (show R + 1 ≤ x from h) (show R + 1 ≤ x from h); omega
  refine ACalls.body seat_ok Try.func27 rfl rfl ?_
  conv => whnf
  refine Sat.cut (fun x t h => x = .exit 0 ∧ t = (AV.undef :: AV.undef :: AV.undef :: .int .u64 R :: AV.undef :: AV.undef :: AV.undef :: AV.undef :: AV.undef :: AV.undef :: AV.undef :: AV.undef :: AV.undef :: AV.undef :: AV.undef :: AV.undef :: AV.undef :: AV.undef :: AV.undef :: AV.undef :: AV.undef :: AV.undef :: AV.undef :: AV.undef :: []) ∧ h = [.var [.bool false, lv (dig n)] 61]) ?_ ?_
  · refine Sat.invP seat_ok seat_g (maskOf 24 [1, 3, 4]) 1 (fun μ t h => ∃ (k r : Nat), k ≤ 64 ∧ r ≤ R ∧ R < r + 2 ^ k ∧ r + 2 ^ k ≤ 18446744073709551616 ∧ μ = k ∧ t = (AV.undef :: .ptr 0 0 :: AV.undef :: .int .u64 r :: .int .u64 (bitOf k : Nat) :: AV.undef :: AV.undef :: AV.undef :: AV.undef :: AV.undef :: AV.undef :: AV.undef :: AV.undef :: AV.undef :: AV.undef :: AV.undef :: AV.undef :: AV.undef :: AV.undef :: AV.undef :: AV.undef :: AV.undef :: AV.undef :: AV.undef :: []) ∧ h = [.var [.bool false, lv (dig n)] 61])
      ?_ ⟨_, _, WeakL.of_eq rfl, 64, 0, Nat.le_refl _, Nat.zero_le _, by simpa using hR, by decide, rfl, rfl, rfl⟩ ?_
    · rintro _ _ _ ⟨k, r, -, -, -, -, rfl, rfl, rfl⟩
      exact ⟨rfl, (by simp [IdsL, Ids, IdsH, IdsC, lv_ids, ci_ids]), (by simp [IdsL, Ids, IdsH, IdsC, lv_ids, ci_ids])⟩
    rintro k _ _ ⟨_, r, hk, hr1, hr2, hr3, rfl, rfl, rfl⟩
    cases k with
    | zero =>
      have : r = R := by simp at hr2; omega
      subst this
      conv => whnf
      repeat' (first | (refine WrapH.quo (by omega) (by omega) (by omega) ?_; conv => whnf) | (refine WrapH.quoU (by omega) (by omega) (by omega) ?_; conv => whnf) | (refine NumH.rem (by omega) ?_; conv => whnf) | (refine WrapH.is _ (wrap_i64 (by omega) (by omega)) ?_; conv => whnf) | (refine WrapH.is _ (wrap_u64 (by omega) (by omega)) ?_; conv => whnf) | (refine WrapH.is _ wrap_u64m ?_; conv => whnf) | (refine Req.mk (by omega) ?_; conv => whnf) | (refine Req.mk (by dsimp only; omega) ?_; conv => whnf) | (refine Req.mk ⟨rfl, rfl, rfl, by simp [ci_length, *], rfl, by simp [okCell], by dsimp only; omega, by omega, by decide⟩ ?_; conv => whnf) | (refine Req.mk (show pendP _ _ by repeat' constructor) ?_; conv => whnf) | ((with_reducible refine brT ?_ ?_); (next => assumption); (conv => whnf)) | ((with_reducible refine brF ?_ ?_); (next => assumption); (conv => whnf)) | ((with_reducible refine brDT ?_ ?_); (next => omega); (conv => whnf)) | ((with_reducible refine brDF ?_ ?_); (next => omega); (conv => whnf)) | ((with_reducible refine brET ?_ ?_); (next => omega); (conv => whnf)) | ((with_reducible refine brEF ?_ ?_); (next => omega); (conv => whnf)) | ((with_reducible refine brNET ?_ ?_); (next => omega); (conv => whnf)) | ((with_reducible refine brNEF ?_ ?_); (next => omega); (conv => whnf)) | (with_reducible refine brNot ?_))
      exact ⟨_, keepT_weak (maskOf 24 [3]) _, rfl, rfl, rfl⟩
    | succ k =>
      have hp : 2 ^ (k + 1) = 2 * 2 ^ k := by rw [Nat.pow_succ, Nat.mul_comm]
      have hpos : 0 < 2 ^ k := Nat.pow_pos (by decide)
      have hb := bitOf_half k
      have hbl := bitOf_lt k (by omega)
      have eb : bitOf (k + 1) = 2 ^ k := rfl
      rw [eb] at hb
      rw [eb]
      obtain ⟨x, hxe⟩ : ∃ x, x = r + 2 ^ k := ⟨_, rfl⟩
      have hx : x < 18446744073709551616 := by omega
      have c1 := c_of2 x hx
      have hsq : x * x < 340282366920938463463374607431768211456 := by
        have := Nat.mul_le_mul (show x ≤ 18446744073709551615 by omega) (show x ≤ 18446744073709551615 by omega); omega
      have c2 := c_mul false false x x (Nat.le_trans (dl8 (by omega)) (by decide)) (Nat.le_trans (dl8 (by omega)) (by decide))
      have c3 := c_above (x * x) n hsq hn
      have hkey := key x
      rw [hp] at hr2 hr3
      have hxi : (x : Int) = (r : Int) + (bitOf (k + 1) : Nat) := by rw [eb]; omega
      rw [hxi] at c1
      rw [eb] at c1
      generalize x * x = sq at *
      generalize hbe : 2 ^ k = b at *
      have hxi2 : (x : Int) = (r : Int) + b := by omega
      have hbi : (b : Int) / 2 = (bitOf k : Nat) := by omega
      by_cases g : R < x
      · rw [decide_eq_true (hkey.2 g)] at c3
        conv => whnf
        repeat' (first | (refine WrapH.quo (by omega) (by omega) (by omega) ?_; conv => whnf) | (refine WrapH.quoU (by omega) (by omega) (by omega) ?_; conv => whnf) | (refine NumH.rem (by omega) ?_; conv => whnf) | (refine WrapH.is _ (wrap_i64 (by omega) (by omega)) ?_; conv => whnf) | (refine WrapH.is _ (wrap_u64 (by omega) (by omega)) ?_; conv => whnf) | (refine WrapH.is _ wrap_u64m ?_; conv => whnf) | (refine Req.mk (by omega) ?_; conv => whnf) | (refine Req.mk (by dsimp only; omega) ?_; conv => whnf) | (refine Req.mk ⟨rfl, rfl, rfl, by simp [ci_length, *], rfl, by simp [okCell], by dsimp only; omega, by omega, by decide⟩ ?_; conv => whnf) | (refine Req.mk (show pendP _ _ by repeat' constructor) ?_; conv => whnf) | ((with_reducible refine brT ?_ ?_); (next => assumption); (conv => whnf)) | ((with_reducible refine brF ?_ ?_); (next => assumption); (conv => whnf)) | ((with_reducible refine brDT ?_ ?_); (next => omega); (conv => whnf)) | ((with_reducible refine brDF ?_ ?_); (next => omega); (conv => whnf)) | ((with_reducible refine brET ?_ ?_); (next => omega); (conv => whnf)) | ((with_reducible refine brEF ?_ ?_); (next => omega); (conv => whnf)) | ((with_reducible refine brNET ?_ ?_); (next => omega); (conv => whnf)) | ((with_reducible refine brNEF ?_ ?_); (next => omega); (conv => whnf)) | (with_reducible refine brNot ?_))
        refine CallH.lift seat_g c1 (by simp [ClosedL, Closed]) (nv_closed _ _) ?_
        conv => whnf
        refine DrawH.plan seat_ok (.take 0 (.take 1 (.take 3 (.perform 2 none (.perform 4 none (.take 5 Plan.done)))))) 0 (by kernel_rfl) ?_
        conv => whnf
        repeat' (first | exact ⟨_, _, Nat.lt_succ_self k, WeakL.of_eq rfl, k, r, by omega, hr1, by omega, by omega, rfl, by rw [← hbi]; rfl, rfl⟩ | (refine CallH.lift seat_g c2 ⟨nv_closed _ _, nv_closed _ _, trivial⟩ (nv_closed _ _) ?_; conv => whnf) | (refine CallH.lift seat_g c3 ⟨nv_closed _ _, nv_closed _ _, trivial⟩ (by simp [Closed]) ?_; conv => whnf) | (first | (refine WrapH.quo (by omega) (by omega) (by omega) ?_; conv => whnf) | (refine WrapH.quoU (by omega) (by omega) (by omega) ?_; conv => whnf) | (refine NumH.rem (by omega) ?_; conv => whnf) | (refine WrapH.is _ (wrap_i64 (by omega) (by omega)) ?_; conv => whnf) | (refine WrapH.is _ (wrap_u64 (by omega) (by omega)) ?_; conv => whnf) | (refine WrapH.is _ wrap_u64m ?_; conv => whnf) | (refine Req.mk (by omega) ?_; conv => whnf) | (refine Req.mk (by dsimp only; omega) ?_; conv => whnf) | (refine Req.mk ⟨rfl, rfl, rfl, by simp [ci_length, *], rfl, by simp [okCell], by dsimp only; omega, by omega, by decide⟩ ?_; conv => whnf) | (refine Req.mk (show pendP _ _ by repeat' constructor) ?_; conv => whnf) | ((with_reducible refine brT ?_ ?_); (next => assumption); (conv => whnf)) | ((with_reducible refine brF ?_ ?_); (next => assumption); (conv => whnf)) | ((with_reducible refine brDT ?_ ?_); (next => omega); (conv => whnf)) | ((with_reducible refine brDF ?_ ?_); (next => omega); (conv => whnf)) | ((with_reducible refine brET ?_ ?_); (next => omega); (conv => whnf)) | ((with_reducible refine brEF ?_ ?_); (next => omega); (conv => whnf)) | ((with_reducible refine brNET ?_ ?_); (next => omega); (conv => whnf)) | ((with_reducible refine brNEF ?_ ?_); (next => omega); (conv => whnf)) | (with_reducible refine brNot ?_)) | (refine ⟨?_, ?_⟩ <;> (conv => whnf)))
      · rw [decide_eq_false (fun h => g (hkey.1 h))] at c3
        conv => whnf
        repeat' (first | (refine WrapH.quo (by omega) (by omega) (by omega) ?_; conv => whnf) | (refine WrapH.quoU (by omega) (by omega) (by omega) ?_; conv => whnf) | (refine NumH.rem (by omega) ?_; conv => whnf) | (refine WrapH.is _ (wrap_i64 (by omega) (by omega)) ?_; conv => whnf) | (refine WrapH.is _ (wrap_u64 (by omega) (by omega)) ?_; conv => whnf) | (refine WrapH.is _ wrap_u64m ?_; conv => whnf) | (refine Req.mk (by omega) ?_; conv => whnf) | (refine Req.mk (by dsimp only; omega) ?_; conv => whnf) | (refine Req.mk ⟨rfl, rfl, rfl, by simp [ci_length, *], rfl, by simp [okCell], by dsimp only; omega, by omega, by decide⟩ ?_; conv => whnf) | (refine Req.mk (show pendP _ _ by repeat' constructor) ?_; conv => whnf) | ((with_reducible refine brT ?_ ?_); (next => assumption); (conv => whnf)) | ((with_reducible refine brF ?_ ?_); (next => assumption); (conv => whnf)) | ((with_reducible refine brDT ?_ ?_); (next => omega); (conv => whnf)) | ((with_reducible refine brDF ?_ ?_); (next => omega); (conv => whnf)) | ((with_reducible refine brET ?_ ?_); (next => omega); (conv => whnf)) | ((with_reducible refine brEF ?_ ?_); (next => omega); (conv => whnf)) | ((with_reducible refine brNET ?_ ?_); (next => omega); (conv => whnf)) | ((with_reducible refine brNEF ?_ ?_); (next => omega); (conv => whnf)) | (with_reducible refine brNot ?_))
        refine CallH.lift seat_g c1 (by simp [ClosedL, Closed]) (nv_closed _ _) ?_
        conv => whnf
        refine DrawH.plan seat_ok (.take 0 (.take 1 (.take 3 (.perform 2 none (.perform 4 none (.take 5 Plan.done)))))) 0 (by kernel_rfl) ?_
        conv => whnf
        repeat' (first | exact ⟨_, _, Nat.lt_succ_self k, WeakL.of_eq rfl, k, x, by omega, by omega, by omega, by omega, rfl, by rw [← hbi, hxi2]; rfl, rfl⟩ | (refine CallH.lift seat_g c2 ⟨nv_closed _ _, nv_closed _ _, trivial⟩ (nv_closed _ _) ?_; conv => whnf) | (refine CallH.lift seat_g c3 ⟨nv_closed _ _, nv_closed _ _, trivial⟩ (by simp [Closed]) ?_; conv => whnf) | (first | (refine WrapH.quo (by omega) (by omega) (by omega) ?_; conv => whnf) | (refine WrapH.quoU (by omega) (by omega) (by omega) ?_; conv => whnf) | (refine NumH.rem (by omega) ?_; conv => whnf) | (refine WrapH.is _ (wrap_i64 (by omega) (by omega)) ?_; conv => whnf) | (refine WrapH.is _ (wrap_u64 (by omega) (by omega)) ?_; conv => whnf) | (refine WrapH.is _ wrap_u64m ?_; conv => whnf) | (refine Req.mk (by omega) ?_; conv => whnf) | (refine Req.mk (by dsimp only; omega) ?_; conv => whnf) | (refine Req.mk ⟨rfl, rfl, rfl, by simp [ci_length, *], rfl, by simp [okCell], by dsimp only; omega, by omega, by decide⟩ ?_; conv => whnf) | (refine Req.mk (show pendP _ _ by repeat' constructor) ?_; conv => whnf) | ((with_reducible refine brT ?_ ?_); (next => assumption); (conv => whnf)) | ((with_reducible refine brF ?_ ?_); (next => assumption); (conv => whnf)) | ((with_reducible refine brDT ?_ ?_); (next => omega); (conv => whnf)) | ((with_reducible refine brDF ?_ ?_); (next => omega); (conv => whnf)) | ((with_reducible refine brET ?_ ?_); (next => omega); (conv => whnf)) | ((with_reducible refine brEF ?_ ?_); (next => omega); (conv => whnf)) | ((with_reducible refine brNET ?_ ?_); (next => omega); (conv => whnf)) | ((with_reducible refine brNEF ?_ ?_); (next => omega); (conv => whnf)) | (with_reducible refine brNot ?_)) | (refine ⟨?_, ?_⟩ <;> (conv => whnf)))
  · rintro _ _ _ ⟨rfl, rfl, rfl⟩
    conv => whnf
    rfl
set_option maxRecDepth 20000 in
theorem c_squares (x y : Int) (hx : -4294967296 ≤ x ∧ x ≤ 4294967296) (hy : -4294967296 ≤ y ∧ y ≤ 4294967296) : ACalls seat 28 [.int .i64 x, .int .i64 y] [] (fun r _ => r = .ret (nv false (x.natAbs * x.natAbs + y.natAbs * y.natAbs))) := by
  refine ACalls.body seat_ok Try.func28 rfl rfl ?_
  have a1 := c_of x (by unfold I64; omega)
  have a2 := c_of y (by unfold I64; omega)
  have hxl : x.natAbs ≤ 4294967296 := by omega
  have hyl : y.natAbs ≤ 4294967296 := by omega
  generalize x.natAbs = m at *
  generalize y.natAbs = n at *
  have m1 := Nat.mul_le_mul hxl hxl
  have m2 := Nat.mul_le_mul hyl hyl
  have b1 := c_mul (decide (x < 0)) (decide (x < 0)) m m (Nat.le_trans (dl8 (by omega)) (by decide)) (Nat.le_trans (dl8 (by omega)) (by decide))
  have b2 := c_mul (decide (y < 0)) (decide (y < 0)) n n (Nat.le_trans (dl8 (by omega)) (by decide)) (Nat.le_trans (dl8 (by omega)) (by decide))
  generalize decide (x < 0) = s1 at *
  generalize decide (y < 0) = s2 at *
  have e1 : (!(s1 == s1)) = false := by simp
  have e2 : (!(s2 == s2)) = false := by simp
  rw [e1] at b1
  rw [e2] at b2
  have c1 := c_add false false (m * m) (n * n) (Nat.le_trans (dl8 (by omega)) (by decide)) (Nat.le_trans (dl8 (by omega)) (by decide))
  rw [show addS false (m * m) false (n * n) = false from if_pos rfl, show addM false (m * m) false (n * n) = m * m + n * n from if_pos rfl] at c1
  generalize m * m = p at *
  generalize n * n = q at *
  conv => whnf
  refine CallH.lift seat_g a1 (by simp [Closed, ClosedL]) (nv_closed _ _) ?_
  conv => whnf
  refine CallH.lift seat_g a2 (by simp [Closed, ClosedL]) (nv_closed _ _) ?_
  conv => whnf
  refine DrawH.plan seat_ok (.take 0 (.take 1 (.take 3 (.take 4 (.perform 2 none (.perform 5 none (.perform 6 none (.perform 7 none Plan.done)))))))) 0 (by kernel_rfl) ?_
  conv => whnf
  repeat' (first | exact rfl | (refine CallH.lift seat_g b1 ⟨nv_closed _ _, nv_closed _ _, trivial⟩ (nv_closed _ _) ?_; conv => whnf) | (refine CallH.lift seat_g b2 ⟨nv_closed _ _, nv_closed _ _, trivial⟩ (nv_closed _ _) ?_; conv => whnf) | (refine CallH.lift seat_g c1 ⟨nv_closed _ _, nv_closed _ _, trivial⟩ (nv_closed _ _) ?_; conv => whnf) | (first | (refine WrapH.quo (by omega) (by omega) (by omega) ?_; conv => whnf) | (refine WrapH.quoU (by omega) (by omega) (by omega) ?_; conv => whnf) | (refine NumH.rem (by omega) ?_; conv => whnf) | (refine WrapH.is _ (wrap_i64 (by omega) (by omega)) ?_; conv => whnf) | (refine WrapH.is _ (wrap_u64 (by omega) (by omega)) ?_; conv => whnf) | (refine WrapH.is _ wrap_u64m ?_; conv => whnf) | (refine Req.mk (by omega) ?_; conv => whnf) | (refine Req.mk (by dsimp only; omega) ?_; conv => whnf) | (refine Req.mk ⟨rfl, rfl, rfl, by simp [ci_length, *], rfl, by simp [okCell], by dsimp only; omega, by omega, by decide⟩ ?_; conv => whnf) | (refine Req.mk (show pendP _ _ by repeat' constructor) ?_; conv => whnf) | ((with_reducible refine brT ?_ ?_); (next => assumption); (conv => whnf)) | ((with_reducible refine brF ?_ ?_); (next => assumption); (conv => whnf)) | ((with_reducible refine brDT ?_ ?_); (next => omega); (conv => whnf)) | ((with_reducible refine brDF ?_ ?_); (next => omega); (conv => whnf)) | ((with_reducible refine brET ?_ ?_); (next => omega); (conv => whnf)) | ((with_reducible refine brEF ?_ ?_); (next => omega); (conv => whnf)) | ((with_reducible refine brNET ?_ ?_); (next => omega); (conv => whnf)) | ((with_reducible refine brNEF ?_ ?_); (next => omega); (conv => whnf)) | (with_reducible refine brNot ?_)) | (refine ⟨?_, ?_⟩ <;> (conv => whnf)))
end Go.Proofs.Ytfiekficbbikaaa
