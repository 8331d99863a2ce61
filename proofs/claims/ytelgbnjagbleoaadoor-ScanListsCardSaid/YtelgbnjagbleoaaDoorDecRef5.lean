/- The document's number of a text that is one: the walk. Conditions: the text's length, the number of its digits and its power. -/
import Derived.Test.YtelgbnjagbleoaaDoorDecRef4
set_option linter.unusedSimpArgs false
set_option linter.unusedVariables false
set_option linter.deprecated false
namespace Go.Proofs.YtelgbnjagbleoaaDoor
open Go.Abs
def memP (bl : Bool) (N : Nat) (P : Int) (u d : Nat) : Heap := [.var [.bool bl, .bool false, lv (dig N), .int .i64 P] 73, .var [.bool false, lv (dig u)] 47, .var [.bool false, lv (dig d)] 47]
theorem dig_le16 {n k : Nat} (h : n < 10 ^ (4 * k)) (hk : k ≤ 400) : (dig n).length ≤ 400 := Nat.le_trans (dig_length_lt (Nat.lt_of_lt_of_le h (ten_le (Nat.le_refl _)))) hk
theorem pow_step {b e f : Nat} (hb : 0 < b) (h : e + 1 ≤ f) : b ^ e * b ≤ b ^ f := by rw [← Nat.pow_succ]; exact Nat.pow_le_pow_right hb h
set_option maxRecDepth 20000 in
set_option maxHeartbeats 2000000 in
theorem c_rparseV (s : List UInt8) (bl : Bool) (N : Nat) (P : Int) (hl : s.length ≤ 400) (hsc : scR true s 0 = (s.length, true)) (cr : ACalls seat 37 [.str s] [] (fun x _ => x = .ret (rV bl N P))) (hN : N < 10 ^ (4 * 100)) (hP : -(1400 : Int) ≤ P ∧ P ≤ 1000) :
    ACalls seat 28 [.str s] [] (fun x _ => x = .ret (outV (refV bl N P))) := by
  have c1 : ACalls seat 27 [.str s, .int .i64 0, .bool true] [] (fun x _ => x = .ret (.tup [.int .i64 (s.length : Nat), .bool true])) := by
    have := c_rscan s 0 true (by omega) (by omega)
    rw [hsc] at this; exact this
  have hdl10 : (dig 10).length ≤ 400 := Nat.le_trans (dig_length_lt (k := 1) (by decide)) (by decide)
  have s10 := c_small 10 (by decide)
  have hNU : ∀ k, k ≤ 1000 → N * 65536 * 10 ^ k < 10 ^ (4 * 352) := fun k hk => by
    obtain ⟨A, hA⟩ : ∃ A, A = 4 * 100 := ⟨_, rfl⟩
    rw [← hA] at hN
    have h1 : N * 65536 < 10 ^ A * 10 ^ 5 := Nat.mul_lt_mul'' hN (by decide)
    have h2 : N * 65536 * 10 ^ k < 10 ^ A * 10 ^ 5 * 10 ^ k := Nat.mul_lt_mul_of_pos_right h1 (Nat.pow_pos (by decide))
    refine Nat.lt_of_lt_of_le h2 ?_
    rw [← Nat.pow_add, ← Nat.pow_add]
    have h3 : A + 5 + k ≤ 4 * 352 := by omega
    generalize 4 * 352 = E at *
    exact Nat.pow_le_pow_right (by decide) h3
  have hND : ∀ k, k ≤ 1400 → 10 ^ k < 10 ^ (4 * 352) := fun k hk => by
    have h3 : k < 4 * 352 := by omega
    generalize 4 * 352 = E at *
    exact Nat.pow_lt_pow_right (by decide) h3
  refine ACalls.bodyS seat_ok Tryd.func28 rfl rfl ?_
  refine Sat.splitAt seat_ok (fun t h => t = (uu :: uu :: uu :: uu :: uu :: uu :: .ptr 0 0 :: .ptr 1 0 :: .ptr 2 0 :: uu :: uu :: uu :: uu :: uu :: uu :: uu :: uu :: uu :: uu :: uu :: uu :: uu :: uu :: uu :: uu :: uu :: uu :: uu :: uu :: uu :: uu :: uu :: uu :: uu :: uu :: uu :: uu :: uu :: uu :: uu :: uu :: uu :: uu :: uu :: uu :: uu :: uu :: uu :: uu :: uu :: uu :: uu :: uu :: uu :: uu :: uu :: uu :: uu :: uu :: uu :: uu :: uu :: uu :: uu :: uu :: uu :: uu :: uu :: uu :: uu :: uu :: uu :: uu :: uu :: uu :: uu :: uu :: uu :: []) ∧ h = memP bl N P (N * 65536) 1) 6 ?_ ?_
  · have s6 := c_small 65536 (by decide)
    have s1 := c_small 1 (by decide)
    have hdn : (dig N).length ≤ 400 := dig_le16 hN (by decide)
    have m1 : ACalls seat 38 [nv false N, nv false 65536] [] (fun x _ => x = .ret (nv false (N * 65536))) := c_mul false false N 65536 (by omega) (Nat.le_trans (dig_length_lt (k := 2) (by decide)) (by decide))
    conv => whnf
    repeat' (first | exact ⟨_, keepT_weak (maskOf 78 [6, 7, 8]) _, rfl, rfl⟩ | (refine CallH.lift seat_g c1 (by simp [Closed, ClosedL]) (by simp [Closed, ClosedL]) ?_; conv => whnf) | (refine CallH.lift seat_g cr (by simp [Closed, ClosedL]) (rV_closed _ _ _) ?_; conv => whnf) | (refine CallH.lift seat_g s6 (by simp [Closed, ClosedL]) (nv_closed _ _) ?_; conv => whnf) | (refine CallH.lift seat_g s1 (by simp [Closed, ClosedL]) (nv_closed _ _) ?_; conv => whnf) | (refine CallH.lift seat_g m1 ⟨nv_closed _ _, nv_closed _ _, trivial⟩ (nv_closed _ _) ?_; conv => whnf) | (refine DrawH.plan seat_ok (.take 0 (.take 1 (.both (.perform 2 none (.both (.perform 3 none (.perform 4 (some 1) (.perform 5 none Plan.done))) (.perform 4 (some 1) (.perform 3 none (.perform 5 none Plan.done))))) (.perform 4 (some 1) (.perform 2 none (.perform 3 none (.perform 5 none Plan.done))))))) 1 (by kernel_rfl) ?_; conv => whnf) | ((first | refine zq1 (by omega) ?_ | refine zq2 (by omega) ?_ | refine NumH.rem (by omega) ?_ | refine zq4 (by omega) ?_ | refine zq5 (by omega) ?_ | refine zq6 ?_ | refine Req.mk (by omega) ?_ | refine Req.mk (by dsimp only; omega) ?_ | refine Req.mk ⟨rfl, rfl, rfl, by simp [ci_length, *], rfl, by simp [okCell], by dsimp only; omega, by omega, by decide⟩ ?_ | refine Req.mk (show pendP _ _ by repeat' constructor) ?_ | (with_reducible refine brT ?_ ?_; next => assumption) | (with_reducible refine brF ?_ ?_; next => assumption) | (with_reducible refine brDT ?_ ?_; next => omega) | (with_reducible refine brDF ?_ ?_; next => omega) | (with_reducible refine brET ?_ ?_; next => omega) | (with_reducible refine brEF ?_ ?_; next => omega) | (with_reducible refine brNET ?_ ?_; next => omega) | (with_reducible refine brNEF ?_ ?_; next => omega) | with_reducible refine brNot ?_); conv => whnf) | (refine And.intro ?_ ?_ <;> (conv => whnf)))
  rintro _ _ ⟨rfl, rfl⟩
  clear cr c1 hsc
  refine Sat.splitAt seat_ok (fun t h => t = (uu :: uu :: uu :: uu :: uu :: uu :: .ptr 0 0 :: .ptr 1 0 :: .ptr 2 0 :: uu :: uu :: uu :: uu :: uu :: uu :: uu :: uu :: uu :: uu :: uu :: uu :: uu :: uu :: uu :: uu :: uu :: uu :: uu :: uu :: uu :: uu :: uu :: uu :: uu :: uu :: uu :: uu :: uu :: uu :: uu :: uu :: uu :: uu :: uu :: uu :: uu :: uu :: uu :: uu :: uu :: uu :: uu :: uu :: uu :: uu :: uu :: uu :: uu :: uu :: uu :: uu :: uu :: uu :: uu :: uu :: uu :: uu :: uu :: uu :: uu :: uu :: uu :: uu :: uu :: uu :: uu :: uu :: uu :: []) ∧ h = memP bl N P (upM N P) 1) 1 ?_ ?_
  · conv => whnf
    refine Sat.cut (fun x t h => x = .exit 0 ∧ t = (uu :: uu :: uu :: uu :: uu :: uu :: .ptr 0 0 :: .ptr 1 0 :: .ptr 2 0 :: uu :: uu :: uu :: uu :: uu :: uu :: uu :: uu :: uu :: uu :: uu :: uu :: uu :: uu :: uu :: uu :: uu :: uu :: uu :: uu :: uu :: uu :: uu :: uu :: uu :: uu :: uu :: uu :: uu :: uu :: uu :: uu :: uu :: uu :: uu :: uu :: uu :: uu :: uu :: uu :: uu :: uu :: uu :: uu :: uu :: uu :: uu :: uu :: uu :: uu :: uu :: uu :: uu :: uu :: uu :: uu :: uu :: uu :: uu :: uu :: uu :: uu :: uu :: uu :: uu :: uu :: uu :: uu :: uu :: []) ∧ h = memP bl N P (upM N P) 1) ?_ ?_
    · refine Sat.invP seat_ok seat_g (maskOf 78 [6, 7, 8, 9]) 3 (fun μ t h => ∃ (i : Nat) (n : Int) (u : Nat), i ≤ P.toNat ∧ n = i ∧ u = N * 65536 * 10 ^ i ∧ μ = P.toNat - i ∧ t = (uu :: uu :: uu :: uu :: uu :: uu :: .ptr 0 0 :: .ptr 1 0 :: .ptr 2 0 :: .int .i64 n :: uu :: uu :: uu :: uu :: uu :: uu :: uu :: uu :: uu :: uu :: uu :: uu :: uu :: uu :: uu :: uu :: uu :: uu :: uu :: uu :: uu :: uu :: uu :: uu :: uu :: uu :: uu :: uu :: uu :: uu :: uu :: uu :: uu :: uu :: uu :: uu :: uu :: uu :: uu :: uu :: uu :: uu :: uu :: uu :: uu :: uu :: uu :: uu :: uu :: uu :: uu :: uu :: uu :: uu :: uu :: uu :: uu :: uu :: uu :: uu :: uu :: uu :: uu :: uu :: uu :: uu :: uu :: uu :: []) ∧ h = memP bl N P u 1)
        ?_ ⟨_, _, WeakL.of_eq rfl, 0, 0, _, by omega, rfl, by rw [Nat.pow_zero, Nat.mul_one], rfl, rfl, rfl⟩ ?_
      · rintro _ _ _ ⟨i, n, u, -, -, -, -, rfl, rfl⟩
        exact ⟨rfl, (by simp [IdsL, Ids, IdsH, IdsC, lv_ids, ci_ids]), by simp [memP, IdsH, IdsC, IdsL, Ids, lv_ids]⟩
      rintro _ _ _ ⟨i, n, u, hi, hn, hu, rfl, rfl, rfl⟩
      have hub := hNU i (by omega)
      rw [← hu] at hub
      have hud := dig_le16 hub (by decide)
      by_cases g : n < P
      · have m1 : ACalls seat 38 [nv false u, nv false 10] [] (fun x _ => x = .ret (nv false (u * 10))) := c_mul false false u 10 (by omega) (by omega)
        have hu2 : u * 10 = N * 65536 * 10 ^ (i + 1) := by rw [hu, Nat.pow_succ, Nat.mul_assoc]
        clear hNU hND
        unfold memP
        conv => whnf
        repeat' (first | exact ⟨_, _, Nat.sub_lt_sub_left (by omega) (Nat.lt_succ_self i), WeakL.of_eq rfl, i + 1, n + 1, u * 10, by omega, by omega, hu2, rfl, rfl, rfl⟩ | (refine CallH.lift seat_g s10 (by simp [Closed, ClosedL]) (nv_closed _ _) ?_; conv => whnf) | (refine CallH.lift seat_g m1 ⟨nv_closed _ _, nv_closed _ _, trivial⟩ (nv_closed _ _) ?_; conv => whnf) | (refine DrawH.plan seat_ok (.take 0 (.perform 1 none (.perform 2 none (.perform 3 none Plan.done)))) 0 (by kernel_rfl) ?_; conv => whnf) | ((first | refine zq1 (by omega) ?_ | refine zq2 (by omega) ?_ | refine NumH.rem (by omega) ?_ | refine zq4 (by omega) ?_ | refine zq5 (by omega) ?_ | refine zq6 ?_ | refine Req.mk (by omega) ?_ | refine Req.mk (by dsimp only; omega) ?_ | refine Req.mk ⟨rfl, rfl, rfl, by simp [ci_length, *], rfl, by simp [okCell], by dsimp only; omega, by omega, by decide⟩ ?_ | refine Req.mk (show pendP _ _ by repeat' constructor) ?_ | (with_reducible refine brT ?_ ?_; next => assumption) | (with_reducible refine brF ?_ ?_; next => assumption) | (with_reducible refine brDT ?_ ?_; next => omega) | (with_reducible refine brDF ?_ ?_; next => omega) | (with_reducible refine brET ?_ ?_; next => omega) | (with_reducible refine brEF ?_ ?_; next => omega) | (with_reducible refine brNET ?_ ?_; next => omega) | (with_reducible refine brNEF ?_ ?_; next => omega) | with_reducible refine brNot ?_); conv => whnf))
      · have hu2 : u = upM N P := by rw [hu, show i = P.toNat by omega]; rfl
        rw [← hu2]
        unfold memP
        conv => whnf
        repeat' ((first | refine zq1 (by omega) ?_ | refine zq2 (by omega) ?_ | refine NumH.rem (by omega) ?_ | refine zq4 (by omega) ?_ | refine zq5 (by omega) ?_ | refine zq6 ?_ | refine Req.mk (by omega) ?_ | refine Req.mk (by dsimp only; omega) ?_ | refine Req.mk ⟨rfl, rfl, rfl, by simp [ci_length, *], rfl, by simp [okCell], by dsimp only; omega, by omega, by decide⟩ ?_ | refine Req.mk (show pendP _ _ by repeat' constructor) ?_ | (with_reducible refine brT ?_ ?_; next => assumption) | (with_reducible refine brF ?_ ?_; next => assumption) | (with_reducible refine brDT ?_ ?_; next => omega) | (with_reducible refine brDF ?_ ?_; next => omega) | (with_reducible refine brET ?_ ?_; next => omega) | (with_reducible refine brEF ?_ ?_; next => omega) | (with_reducible refine brNET ?_ ?_; next => omega) | (with_reducible refine brNEF ?_ ?_; next => omega) | with_reducible refine brNot ?_); conv => whnf)
        exact ⟨_, keepT_weak (maskOf 78 [6, 7, 8]) _, rfl, rfl, rfl⟩
    · rintro _ _ _ ⟨rfl, rfl, rfl⟩
      conv => whnf
      exact ⟨_, keepT_weak (maskOf 78 [6, 7, 8]) _, rfl, rfl⟩
  rintro _ _ ⟨rfl, rfl⟩
  have hUb : upM N P < 10 ^ (4 * 352) := hNU _ (by omega)
  have hDb : dnM P < 10 ^ (4 * 352) := hND _ (by omega)
  generalize hU : upM N P = U at *
  refine Sat.splitAt seat_ok (fun t h => t = (uu :: uu :: uu :: uu :: uu :: uu :: .ptr 0 0 :: .ptr 1 0 :: .ptr 2 0 :: uu :: uu :: uu :: uu :: uu :: uu :: uu :: uu :: uu :: uu :: uu :: uu :: uu :: uu :: uu :: uu :: uu :: uu :: uu :: uu :: uu :: uu :: uu :: uu :: uu :: uu :: uu :: uu :: uu :: uu :: uu :: uu :: uu :: uu :: uu :: uu :: uu :: uu :: uu :: uu :: uu :: uu :: uu :: uu :: uu :: uu :: uu :: uu :: uu :: uu :: uu :: uu :: uu :: uu :: uu :: uu :: uu :: uu :: uu :: uu :: uu :: uu :: uu :: uu :: uu :: uu :: uu :: uu :: uu :: []) ∧ h = memP bl N P U (dnM P)) 1 ?_ ?_
  · conv => whnf
    refine Sat.cut (fun x t h => x = .exit 2 ∧ t = (uu :: uu :: uu :: uu :: uu :: uu :: .ptr 0 0 :: .ptr 1 0 :: .ptr 2 0 :: uu :: uu :: uu :: uu :: uu :: uu :: uu :: uu :: uu :: uu :: uu :: uu :: uu :: uu :: uu :: uu :: uu :: uu :: uu :: uu :: uu :: uu :: uu :: uu :: uu :: uu :: uu :: uu :: uu :: uu :: uu :: uu :: uu :: uu :: uu :: uu :: uu :: uu :: uu :: uu :: uu :: uu :: uu :: uu :: uu :: uu :: uu :: uu :: uu :: uu :: uu :: uu :: uu :: uu :: uu :: uu :: uu :: uu :: uu :: uu :: uu :: uu :: uu :: uu :: uu :: uu :: uu :: uu :: uu :: []) ∧ h = memP bl N P U (dnM P)) ?_ ?_
    · refine Sat.invP seat_ok seat_g (maskOf 78 [6, 7, 8, 10]) 3 (fun μ t h => ∃ (i : Nat) (n : Int) (d : Nat), i ≤ (0 - P).toNat ∧ n = 0 - (i : Int) ∧ d = 10 ^ i ∧ μ = (0 - P).toNat - i ∧ t = (uu :: uu :: uu :: uu :: uu :: uu :: .ptr 0 0 :: .ptr 1 0 :: .ptr 2 0 :: uu :: .int .i64 n :: uu :: uu :: uu :: uu :: uu :: uu :: uu :: uu :: uu :: uu :: uu :: uu :: uu :: uu :: uu :: uu :: uu :: uu :: uu :: uu :: uu :: uu :: uu :: uu :: uu :: uu :: uu :: uu :: uu :: uu :: uu :: uu :: uu :: uu :: uu :: uu :: uu :: uu :: uu :: uu :: uu :: uu :: uu :: uu :: uu :: uu :: uu :: uu :: uu :: uu :: uu :: uu :: uu :: uu :: uu :: uu :: uu :: uu :: uu :: uu :: uu :: uu :: uu :: uu :: uu :: uu :: uu :: []) ∧ h = memP bl N P U d)
        ?_ ⟨_, _, WeakL.of_eq rfl, 0, 0, _, by omega, rfl, by rw [Nat.pow_zero], rfl, rfl, rfl⟩ ?_
      · rintro _ _ _ ⟨i, n, u, -, -, -, -, rfl, rfl⟩
        exact ⟨rfl, (by simp [IdsL, Ids, IdsH, IdsC, lv_ids, ci_ids]), by simp [memP, IdsH, IdsC, IdsL, Ids, lv_ids]⟩
      rintro _ _ _ ⟨i, n, u, hi, hn, hu, rfl, rfl, rfl⟩
      have hub := hND i (by omega)
      rw [← hu] at hub
      have hud := dig_le16 hub (by decide)
      by_cases g : n > P
      · have m1 : ACalls seat 38 [nv false u, nv false 10] [] (fun x _ => x = .ret (nv false (u * 10))) := c_mul false false u 10 (by omega) (by omega)
        have hu2 : u * 10 = 10 ^ (i + 1) := by rw [hu, Nat.pow_succ]
        clear hNU hND
        unfold memP
        conv => whnf
        repeat' (first | exact ⟨_, _, Nat.sub_lt_sub_left (by omega) (Nat.lt_succ_self i), WeakL.of_eq rfl, i + 1, n - 1, u * 10, by omega, by omega, hu2, rfl, rfl, rfl⟩ | (refine CallH.lift seat_g s10 (by simp [Closed, ClosedL]) (nv_closed _ _) ?_; conv => whnf) | (refine CallH.lift seat_g m1 ⟨nv_closed _ _, nv_closed _ _, trivial⟩ (nv_closed _ _) ?_; conv => whnf) | (refine DrawH.plan seat_ok (.take 0 (.perform 1 none (.perform 2 none (.perform 3 none Plan.done)))) 0 (by kernel_rfl) ?_; conv => whnf) | ((first | refine zq1 (by omega) ?_ | refine zq2 (by omega) ?_ | refine NumH.rem (by omega) ?_ | refine zq4 (by omega) ?_ | refine zq5 (by omega) ?_ | refine zq6 ?_ | refine Req.mk (by omega) ?_ | refine Req.mk (by dsimp only; omega) ?_ | refine Req.mk ⟨rfl, rfl, rfl, by simp [ci_length, *], rfl, by simp [okCell], by dsimp only; omega, by omega, by decide⟩ ?_ | refine Req.mk (show pendP _ _ by repeat' constructor) ?_ | (with_reducible refine brT ?_ ?_; next => assumption) | (with_reducible refine brF ?_ ?_; next => assumption) | (with_reducible refine brDT ?_ ?_; next => omega) | (with_reducible refine brDF ?_ ?_; next => omega) | (with_reducible refine brET ?_ ?_; next => omega) | (with_reducible refine brEF ?_ ?_; next => omega) | (with_reducible refine brNET ?_ ?_; next => omega) | (with_reducible refine brNEF ?_ ?_; next => omega) | with_reducible refine brNot ?_); conv => whnf))
      · have hu2 : u = dnM P := by rw [hu, show i = (0 - P).toNat by omega]; rfl
        rw [← hu2]
        unfold memP
        conv => whnf
        repeat' ((first | refine zq1 (by omega) ?_ | refine zq2 (by omega) ?_ | refine NumH.rem (by omega) ?_ | refine zq4 (by omega) ?_ | refine zq5 (by omega) ?_ | refine zq6 ?_ | refine Req.mk (by omega) ?_ | refine Req.mk (by dsimp only; omega) ?_ | refine Req.mk ⟨rfl, rfl, rfl, by simp [ci_length, *], rfl, by simp [okCell], by dsimp only; omega, by omega, by decide⟩ ?_ | refine Req.mk (show pendP _ _ by repeat' constructor) ?_ | (with_reducible refine brT ?_ ?_; next => assumption) | (with_reducible refine brF ?_ ?_; next => assumption) | (with_reducible refine brDT ?_ ?_; next => omega) | (with_reducible refine brDF ?_ ?_; next => omega) | (with_reducible refine brET ?_ ?_; next => omega) | (with_reducible refine brEF ?_ ?_; next => omega) | (with_reducible refine brNET ?_ ?_; next => omega) | (with_reducible refine brNEF ?_ ?_; next => omega) | with_reducible refine brNot ?_); conv => whnf)
        exact ⟨_, keepT_weak (maskOf 78 [6, 7, 8]) _, rfl, rfl, rfl⟩
    · rintro _ _ _ ⟨rfl, rfl, rfl⟩
      conv => whnf
      exact ⟨_, keepT_weak (maskOf 78 [6, 7, 8]) _, rfl, rfl⟩
  rintro _ _ ⟨rfl, rfl⟩
  unfold refV
  rw [hU]
  have hD0 : 0 < dnM P := Nat.pow_pos (by decide)
  generalize dnM P = D at *
  have hdU := dig_le16 hUb (by decide)
  have hdD := dig_le16 hDb (by decide)
  have hz := lenZ U
  refine Sat.splitAt seat_ok (fun t h => t = (uu :: uu :: uu :: uu :: uu :: uu :: .ptr 0 0 :: .ptr 1 0 :: .ptr 2 0 :: uu :: uu :: uu :: uu :: uu :: uu :: uu :: uu :: uu :: uu :: uu :: uu :: uu :: uu :: uu :: uu :: uu :: uu :: uu :: uu :: uu :: uu :: uu :: uu :: uu :: uu :: uu :: uu :: uu :: uu :: uu :: uu :: uu :: uu :: uu :: uu :: uu :: uu :: uu :: uu :: uu :: uu :: uu :: uu :: uu :: uu :: uu :: uu :: uu :: uu :: uu :: uu :: uu :: uu :: uu :: uu :: uu :: uu :: uu :: uu :: uu :: uu :: uu :: uu :: uu :: uu :: uu :: uu :: uu :: []) ∧ h = [.var [.bool bl, .bool false, lv (dig N), .int .i64 P] 73, .var [.bool (bl && decide (0 < U)), lv (dig U)] 47, .var [.bool false, lv (dig D)] 47]) 1 ?_ ?_
  · unfold memP
    cases bl with
    | false =>
      conv => whnf
      repeat' (first | exact ⟨_, keepT_weak (maskOf 78 [6, 7, 8]) _, rfl, rfl⟩ | ((first | refine zq1 (by omega) ?_ | refine zq2 (by omega) ?_ | refine NumH.rem (by omega) ?_ | refine zq4 (by omega) ?_ | refine zq5 (by omega) ?_ | refine zq6 ?_ | refine Req.mk (by omega) ?_ | refine Req.mk (by dsimp only; omega) ?_ | refine Req.mk ⟨rfl, rfl, rfl, by simp [ci_length, *], rfl, by simp [okCell], by dsimp only; omega, by omega, by decide⟩ ?_ | refine Req.mk (show pendP _ _ by repeat' constructor) ?_ | (with_reducible refine brT ?_ ?_; next => assumption) | (with_reducible refine brF ?_ ?_; next => assumption) | (with_reducible refine brDT ?_ ?_; next => omega) | (with_reducible refine brDF ?_ ?_; next => omega) | (with_reducible refine brET ?_ ?_; next => omega) | (with_reducible refine brEF ?_ ?_; next => omega) | (with_reducible refine brNET ?_ ?_; next => omega) | (with_reducible refine brNEF ?_ ?_; next => omega) | with_reducible refine brNot ?_); conv => whnf))
    | true =>
      conv => whnf
      repeat' (first | exact ⟨_, keepT_weak (maskOf 78 [6, 7, 8]) _, rfl, by rw [hz]; rfl⟩ | ((first | refine zq1 (by omega) ?_ | refine zq2 (by omega) ?_ | refine NumH.rem (by omega) ?_ | refine zq4 (by omega) ?_ | refine zq5 (by omega) ?_ | refine zq6 ?_ | refine Req.mk (by omega) ?_ | refine Req.mk (by dsimp only; omega) ?_ | refine Req.mk ⟨rfl, rfl, rfl, by simp [ci_length, *], rfl, by simp [okCell], by dsimp only; omega, by omega, by decide⟩ ?_ | refine Req.mk (show pendP _ _ by repeat' constructor) ?_ | (with_reducible refine brT ?_ ?_; next => assumption) | (with_reducible refine brF ?_ ?_; next => assumption) | (with_reducible refine brDT ?_ ?_; next => omega) | (with_reducible refine brDF ?_ ?_; next => omega) | (with_reducible refine brET ?_ ?_; next => omega) | (with_reducible refine brEF ?_ ?_; next => omega) | (with_reducible refine brNET ?_ ?_; next => omega) | (with_reducible refine brNEF ?_ ?_; next => omega) | with_reducible refine brNot ?_); conv => whnf))
  rintro _ _ ⟨rfl, rfl⟩
  generalize (bl && decide (0 < U)) = sU
  have h14 := @ten_le2 (4 * 352) 6400 (by decide)
  have cn := c_near01 6400 402 (by decide) (by decide) sU U D hD0 (Nat.lt_of_lt_of_le hUb h14) (Nat.lt_of_lt_of_le hDb h14)
  have hmb := nearM_bd sU U D
  generalize nearM sU U D = NR at *
  obtain ⟨sN, mN⟩ := NR
  simp only at hmb cn ⊢
  have hmN : mN < 65536 ^ 401 := by
    have h1 := @ten_le (4 * 352) 352 (by decide)
    have h2 := @pow_step 65536 352 401 (by decide) (by decide)
    generalize 65536 ^ 352 = A at *
    generalize 65536 ^ 401 = B at *
    omega
  have hlN := dig_length_lt hmN
  clear h14 hmN hmb hUb hDb hNU hND
  refine codeR_sound seat_ok _ _ _ _ ?_
  by_cases hb : mN < 9223372036854775808
  · have cp := c_plain01 sN mN hb
    by_cases h1 : 4294967296 ≤ sg sN mN
    · rw [show outV (sg sN mN) = .tup [.int .i64 0, .int .i64 2] from if_pos (.inl h1)]
      generalize sg sN mN = v at *
      conv => whnf
      repeat' (first | rfl | (refine CallH.lift seat_g cn ⟨nv_closed _ _, nv_closed _ _, trivial⟩ (nv_closed _ _) ?_; conv => whnf) | (refine CallH.lift seat_g cp ⟨nv_closed _ _, trivial⟩ (by simp [Closed, ClosedL]) ?_; conv => whnf) | ((first | refine zq1 (by omega) ?_ | refine zq2 (by omega) ?_ | refine NumH.rem (by omega) ?_ | refine zq4 (by omega) ?_ | refine zq5 (by omega) ?_ | refine zq6 ?_ | refine Req.mk (by omega) ?_ | refine Req.mk (by dsimp only; omega) ?_ | refine Req.mk ⟨rfl, rfl, rfl, by simp [ci_length, *], rfl, by simp [okCell], by dsimp only; omega, by omega, by decide⟩ ?_ | refine Req.mk (show pendP _ _ by repeat' constructor) ?_ | (with_reducible refine brT ?_ ?_; next => assumption) | (with_reducible refine brF ?_ ?_; next => assumption) | (with_reducible refine brDT ?_ ?_; next => omega) | (with_reducible refine brDF ?_ ?_; next => omega) | (with_reducible refine brET ?_ ?_; next => omega) | (with_reducible refine brEF ?_ ?_; next => omega) | (with_reducible refine brNET ?_ ?_; next => omega) | (with_reducible refine brNEF ?_ ?_; next => omega) | with_reducible refine brNot ?_); conv => whnf))
    · by_cases h2 : sg sN mN ≤ -4294967296
      · rw [show outV (sg sN mN) = .tup [.int .i64 0, .int .i64 2] from if_pos (.inr h2)]
        generalize sg sN mN = v at *
        conv => whnf
        repeat' (first | rfl | (refine CallH.lift seat_g cn ⟨nv_closed _ _, nv_closed _ _, trivial⟩ (nv_closed _ _) ?_; conv => whnf) | (refine CallH.lift seat_g cp ⟨nv_closed _ _, trivial⟩ (by simp [Closed, ClosedL]) ?_; conv => whnf) | ((first | refine zq1 (by omega) ?_ | refine zq2 (by omega) ?_ | refine NumH.rem (by omega) ?_ | refine zq4 (by omega) ?_ | refine zq5 (by omega) ?_ | refine zq6 ?_ | refine Req.mk (by omega) ?_ | refine Req.mk (by dsimp only; omega) ?_ | refine Req.mk ⟨rfl, rfl, rfl, by simp [ci_length, *], rfl, by simp [okCell], by dsimp only; omega, by omega, by decide⟩ ?_ | refine Req.mk (show pendP _ _ by repeat' constructor) ?_ | (with_reducible refine brT ?_ ?_; next => assumption) | (with_reducible refine brF ?_ ?_; next => assumption) | (with_reducible refine brDT ?_ ?_; next => omega) | (with_reducible refine brDF ?_ ?_; next => omega) | (with_reducible refine brET ?_ ?_; next => omega) | (with_reducible refine brEF ?_ ?_; next => omega) | (with_reducible refine brNET ?_ ?_; next => omega) | (with_reducible refine brNEF ?_ ?_; next => omega) | with_reducible refine brNot ?_); conv => whnf))
      · rw [show outV (sg sN mN) = .tup [.int .i64 (sg sN mN), .int .i64 0] from if_neg (by omega)]
        generalize sg sN mN = v at *
        conv => whnf
        repeat' (first | rfl | (refine CallH.lift seat_g cn ⟨nv_closed _ _, nv_closed _ _, trivial⟩ (nv_closed _ _) ?_; conv => whnf) | (refine CallH.lift seat_g cp ⟨nv_closed _ _, trivial⟩ (by simp [Closed, ClosedL]) ?_; conv => whnf) | ((first | refine zq1 (by omega) ?_ | refine zq2 (by omega) ?_ | refine NumH.rem (by omega) ?_ | refine zq4 (by omega) ?_ | refine zq5 (by omega) ?_ | refine zq6 ?_ | refine Req.mk (by omega) ?_ | refine Req.mk (by dsimp only; omega) ?_ | refine Req.mk ⟨rfl, rfl, rfl, by simp [ci_length, *], rfl, by simp [okCell], by dsimp only; omega, by omega, by decide⟩ ?_ | refine Req.mk (show pendP _ _ by repeat' constructor) ?_ | (with_reducible refine brT ?_ ?_; next => assumption) | (with_reducible refine brF ?_ ?_; next => assumption) | (with_reducible refine brDT ?_ ?_; next => omega) | (with_reducible refine brDF ?_ ?_; next => omega) | (with_reducible refine brET ?_ ?_; next => omega) | (with_reducible refine brEF ?_ ?_; next => omega) | (with_reducible refine brNET ?_ ?_; next => omega) | (with_reducible refine brNEF ?_ ?_; next => omega) | with_reducible refine brNot ?_); conv => whnf))
  · have cp := c_plain02 sN mN (by omega) (by omega)
    have hv : outV (sg sN mN) = .tup [.int .i64 0, .int .i64 2] := if_pos (by cases sN <;> simp [sg] <;> omega)
    rw [hv]
    by_cases hs : sN = true ∧ mN = 9223372036854775808
    · rw [if_pos hs] at cp
      conv => whnf
      repeat' (first | rfl | (refine CallH.lift seat_g cn ⟨nv_closed _ _, nv_closed _ _, trivial⟩ (nv_closed _ _) ?_; conv => whnf) | (refine CallH.lift seat_g cp ⟨nv_closed _ _, trivial⟩ (by simp [Closed, ClosedL]) ?_; conv => whnf) | ((first | refine zq1 (by omega) ?_ | refine zq2 (by omega) ?_ | refine NumH.rem (by omega) ?_ | refine zq4 (by omega) ?_ | refine zq5 (by omega) ?_ | refine zq6 ?_ | refine Req.mk (by omega) ?_ | refine Req.mk (by dsimp only; omega) ?_ | refine Req.mk ⟨rfl, rfl, rfl, by simp [ci_length, *], rfl, by simp [okCell], by dsimp only; omega, by omega, by decide⟩ ?_ | refine Req.mk (show pendP _ _ by repeat' constructor) ?_ | (with_reducible refine brT ?_ ?_; next => assumption) | (with_reducible refine brF ?_ ?_; next => assumption) | (with_reducible refine brDT ?_ ?_; next => omega) | (with_reducible refine brDF ?_ ?_; next => omega) | (with_reducible refine brET ?_ ?_; next => omega) | (with_reducible refine brEF ?_ ?_; next => omega) | (with_reducible refine brNET ?_ ?_; next => omega) | (with_reducible refine brNEF ?_ ?_; next => omega) | with_reducible refine brNot ?_); conv => whnf))
    · rw [if_neg hs] at cp
      conv => whnf
      repeat' (first | rfl | (refine CallH.lift seat_g cn ⟨nv_closed _ _, nv_closed _ _, trivial⟩ (nv_closed _ _) ?_; conv => whnf) | (refine CallH.lift seat_g cp ⟨nv_closed _ _, trivial⟩ (by simp [Closed, ClosedL]) ?_; conv => whnf) | ((first | refine zq1 (by omega) ?_ | refine zq2 (by omega) ?_ | refine NumH.rem (by omega) ?_ | refine zq4 (by omega) ?_ | refine zq5 (by omega) ?_ | refine zq6 ?_ | refine Req.mk (by omega) ?_ | refine Req.mk (by dsimp only; omega) ?_ | refine Req.mk ⟨rfl, rfl, rfl, by simp [ci_length, *], rfl, by simp [okCell], by dsimp only; omega, by omega, by decide⟩ ?_ | refine Req.mk (show pendP _ _ by repeat' constructor) ?_ | (with_reducible refine brT ?_ ?_; next => assumption) | (with_reducible refine brF ?_ ?_; next => assumption) | (with_reducible refine brDT ?_ ?_; next => omega) | (with_reducible refine brDF ?_ ?_; next => omega) | (with_reducible refine brET ?_ ?_; next => omega) | (with_reducible refine brEF ?_ ?_; next => omega) | (with_reducible refine brNET ?_ ?_; next => omega) | (with_reducible refine brNEF ?_ ?_; next => omega) | with_reducible refine brNot ?_); conv => whnf))
end Go.Proofs.YtelgbnjagbleoaaDoor
