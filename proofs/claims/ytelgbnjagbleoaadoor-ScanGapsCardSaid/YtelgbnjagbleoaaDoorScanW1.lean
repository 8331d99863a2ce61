/- The document's blanks, gaps and flags: the walk. Conditions: the text's length. -/
import Derived.Test.YtelgbnjagbleoaaDoorScanT
set_option linter.unusedSimpArgs false
set_option linter.unusedVariables false
set_option linter.deprecated false
namespace Go.Proofs.YtelgbnjagbleoaaDoor
open Go.Abs
def blanksL : List Int := [0, 0, 0, 0, 0, 0, 0, 0, 0, 1, 1, 0, 0, 1, 0, 0, 0, 0, 0, 0, 0, 0, 0, 0, 0, 0, 0, 0, 0, 0, 0, 0, 1]
theorem blanks_ld : ∀ {n : Nat} (_ : n < 33), partK false (dropL (ci .i64 blanksL) (n * 1)) 0 1 = some (.int .i64 (if blankN (n : Nat) = true then 1 else 0))
  | 0, _ => rfl
  | 1, _ => rfl
  | 2, _ => rfl
  | 3, _ => rfl
  | 4, _ => rfl
  | 5, _ => rfl
  | 6, _ => rfl
  | 7, _ => rfl
  | 8, _ => rfl
  | 9, _ => rfl
  | 10, _ => rfl
  | 11, _ => rfl
  | 12, _ => rfl
  | 13, _ => rfl
  | 14, _ => rfl
  | 15, _ => rfl
  | 16, _ => rfl
  | 17, _ => rfl
  | 18, _ => rfl
  | 19, _ => rfl
  | 20, _ => rfl
  | 21, _ => rfl
  | 22, _ => rfl
  | 23, _ => rfl
  | 24, _ => rfl
  | 25, _ => rfl
  | 26, _ => rfl
  | 27, _ => rfl
  | 28, _ => rfl
  | 29, _ => rfl
  | 30, _ => rfl
  | 31, _ => rfl
  | 32, _ => rfl
  | n + 33, h => absurd h (by omega)
theorem c_rblank (s : List UInt8) (p : Nat) : ACalls seat 26 [.str s, .int .i64 p] [] (fun x _ => x = .ret (.bool (isB (s.drop p)))) := by
  refine ACalls.body seat_ok Tryd.func26 rfl rfl ?_
  by_cases g : p < s.length
  · obtain ⟨b, hb⟩ : ∃ b, s[p]? = some b := ⟨_, List.getElem?_eq_getElem g⟩
    have eb : (s[(p : Int).toNat]?) = some b := hb
    rw [isB_some hb]
    have hv := blankN_iff b.toNat
    generalize blankN b.toNat = v at *
    by_cases h1 : (b.toNat : Int) = 9
    · rw [hv.2 (.inl h1)]
      conv => whnf
      repeat' (first | exact rfl | (refine ldI _ eb ?_; conv => whnf) | ((first | refine zq1 (by omega) ?_ | refine zq2 (by omega) ?_ | refine NumH.rem (by omega) ?_ | refine zq4 (by omega) ?_ | refine zq5 (by omega) ?_ | refine zq6 ?_ | refine Req.mk (by omega) ?_ | refine Req.mk (by dsimp only; omega) ?_ | refine Req.mk ⟨rfl, rfl, rfl, by simp [ci_length, *], rfl, by simp [okCell], by dsimp only; omega, by omega, by decide⟩ ?_ | refine Req.mk (show pendP _ _ by repeat' constructor) ?_ | (with_reducible refine brT ?_ ?_; next => assumption) | (with_reducible refine brF ?_ ?_; next => assumption) | (with_reducible refine brDT ?_ ?_; next => omega) | (with_reducible refine brDF ?_ ?_; next => omega) | (with_reducible refine brET ?_ ?_; next => omega) | (with_reducible refine brEF ?_ ?_; next => omega) | (with_reducible refine brNET ?_ ?_; next => omega) | (with_reducible refine brNEF ?_ ?_; next => omega) | with_reducible refine brNot ?_); conv => whnf))
    · by_cases h2 : (b.toNat : Int) = 10
      · rw [hv.2 (.inr (.inl h2))]
        conv => whnf
        repeat' (first | exact rfl | (refine ldI _ eb ?_; conv => whnf) | ((first | refine zq1 (by omega) ?_ | refine zq2 (by omega) ?_ | refine NumH.rem (by omega) ?_ | refine zq4 (by omega) ?_ | refine zq5 (by omega) ?_ | refine zq6 ?_ | refine Req.mk (by omega) ?_ | refine Req.mk (by dsimp only; omega) ?_ | refine Req.mk ⟨rfl, rfl, rfl, by simp [ci_length, *], rfl, by simp [okCell], by dsimp only; omega, by omega, by decide⟩ ?_ | refine Req.mk (show pendP _ _ by repeat' constructor) ?_ | (with_reducible refine brT ?_ ?_; next => assumption) | (with_reducible refine brF ?_ ?_; next => assumption) | (with_reducible refine brDT ?_ ?_; next => omega) | (with_reducible refine brDF ?_ ?_; next => omega) | (with_reducible refine brET ?_ ?_; next => omega) | (with_reducible refine brEF ?_ ?_; next => omega) | (with_reducible refine brNET ?_ ?_; next => omega) | (with_reducible refine brNEF ?_ ?_; next => omega) | with_reducible refine brNot ?_); conv => whnf))
      · by_cases h3 : (b.toNat : Int) = 13
        · rw [hv.2 (.inr (.inr (.inl h3)))]
          conv => whnf
          repeat' (first | exact rfl | (refine ldI _ eb ?_; conv => whnf) | ((first | refine zq1 (by omega) ?_ | refine zq2 (by omega) ?_ | refine NumH.rem (by omega) ?_ | refine zq4 (by omega) ?_ | refine zq5 (by omega) ?_ | refine zq6 ?_ | refine Req.mk (by omega) ?_ | refine Req.mk (by dsimp only; omega) ?_ | refine Req.mk ⟨rfl, rfl, rfl, by simp [ci_length, *], rfl, by simp [okCell], by dsimp only; omega, by omega, by decide⟩ ?_ | refine Req.mk (show pendP _ _ by repeat' constructor) ?_ | (with_reducible refine brT ?_ ?_; next => assumption) | (with_reducible refine brF ?_ ?_; next => assumption) | (with_reducible refine brDT ?_ ?_; next => omega) | (with_reducible refine brDF ?_ ?_; next => omega) | (with_reducible refine brET ?_ ?_; next => omega) | (with_reducible refine brEF ?_ ?_; next => omega) | (with_reducible refine brNET ?_ ?_; next => omega) | (with_reducible refine brNEF ?_ ?_; next => omega) | with_reducible refine brNot ?_); conv => whnf))
        · by_cases h4 : (b.toNat : Int) = 32
          · rw [hv.2 (.inr (.inr (.inr h4)))]
            conv => whnf
            repeat' (first | exact rfl | (refine ldI _ eb ?_; conv => whnf) | ((first | refine zq1 (by omega) ?_ | refine zq2 (by omega) ?_ | refine NumH.rem (by omega) ?_ | refine zq4 (by omega) ?_ | refine zq5 (by omega) ?_ | refine zq6 ?_ | refine Req.mk (by omega) ?_ | refine Req.mk (by dsimp only; omega) ?_ | refine Req.mk ⟨rfl, rfl, rfl, by simp [ci_length, *], rfl, by simp [okCell], by dsimp only; omega, by omega, by decide⟩ ?_ | refine Req.mk (show pendP _ _ by repeat' constructor) ?_ | (with_reducible refine brT ?_ ?_; next => assumption) | (with_reducible refine brF ?_ ?_; next => assumption) | (with_reducible refine brDT ?_ ?_; next => omega) | (with_reducible refine brDF ?_ ?_; next => omega) | (with_reducible refine brET ?_ ?_; next => omega) | (with_reducible refine brEF ?_ ?_; next => omega) | (with_reducible refine brNET ?_ ?_; next => omega) | (with_reducible refine brNEF ?_ ?_; next => omega) | with_reducible refine brNot ?_); conv => whnf))
            exact congrArg (fun b => AEnd.ret (.bool b)) (show ((b.toNat : Int) == 32) = true by simpa using h4)
          · rw [show v = false from Bool.eq_false_iff.2 (fun h => by have := hv.1 h; omega)]
            conv => whnf
            repeat' (first | exact rfl | (refine ldI _ eb ?_; conv => whnf) | ((first | refine zq1 (by omega) ?_ | refine zq2 (by omega) ?_ | refine NumH.rem (by omega) ?_ | refine zq4 (by omega) ?_ | refine zq5 (by omega) ?_ | refine zq6 ?_ | refine Req.mk (by omega) ?_ | refine Req.mk (by dsimp only; omega) ?_ | refine Req.mk ⟨rfl, rfl, rfl, by simp [ci_length, *], rfl, by simp [okCell], by dsimp only; omega, by omega, by decide⟩ ?_ | refine Req.mk (show pendP _ _ by repeat' constructor) ?_ | (with_reducible refine brT ?_ ?_; next => assumption) | (with_reducible refine brF ?_ ?_; next => assumption) | (with_reducible refine brDT ?_ ?_; next => omega) | (with_reducible refine brDF ?_ ?_; next => omega) | (with_reducible refine brET ?_ ?_; next => omega) | (with_reducible refine brEF ?_ ?_; next => omega) | (with_reducible refine brNET ?_ ?_; next => omega) | (with_reducible refine brNEF ?_ ?_; next => omega) | with_reducible refine brNot ?_); conv => whnf))
            exact congrArg (fun b => AEnd.ret (.bool b)) (show ((b.toNat : Int) == 32) = false by simpa using h4)
  · rw [List.drop_eq_nil_of_le (by omega)]
    have g2 : ¬ ((p : Int) < s.length) := by omega
    conv => whnf
    repeat' ((first | refine zq1 (by omega) ?_ | refine zq2 (by omega) ?_ | refine NumH.rem (by omega) ?_ | refine zq4 (by omega) ?_ | refine zq5 (by omega) ?_ | refine zq6 ?_ | refine Req.mk (by omega) ?_ | refine Req.mk (by dsimp only; omega) ?_ | refine Req.mk ⟨rfl, rfl, rfl, by simp [ci_length, *], rfl, by simp [okCell], by dsimp only; omega, by omega, by decide⟩ ?_ | refine Req.mk (show pendP _ _ by repeat' constructor) ?_ | (with_reducible refine brT ?_ ?_; next => assumption) | (with_reducible refine brF ?_ ?_; next => assumption) | (with_reducible refine brDT ?_ ?_; next => omega) | (with_reducible refine brDF ?_ ?_; next => omega) | (with_reducible refine brET ?_ ?_; next => omega) | (with_reducible refine brEF ?_ ?_; next => omega) | (with_reducible refine brNET ?_ ?_; next => omega) | (with_reducible refine brNEF ?_ ?_; next => omega) | with_reducible refine brNot ?_); conv => whnf)
    rfl
set_option maxRecDepth 20000 in
theorem c_rblanks (s : List UInt8) (p : Nat) (hl : s.length ≤ 1000000) (hp : p ≤ 1000000) : ACalls seat 15 [.str s, .int .i64 p] [] (fun x _ => x = .ret (.int .i64 ((p + blk (s.drop p) : Nat)))) := by
  refine ACalls.body seat_ok Tryd.func15 rfl rfl ?_
  conv => whnf
  refine Sat.cut (fun x t h => x = .exit 0 ∧ t = (uu :: .int .i64 ((p + blk (s.drop p) : Nat) : Int) :: uu :: uu :: uu :: uu :: uu :: uu :: uu :: uu :: uu :: [])) ?_ ?_
  · refine Sat.invP seat_ok seat_g (maskOf 11 [0, 1]) 0 (fun μ t h => ∃ (q : Nat) (z : Int), z = q ∧ q + blk (s.drop q) = p + blk (s.drop p) ∧ (q ≤ s.length ∨ q = p) ∧ μ = s.length + p - q ∧ t = (.str s :: .int .i64 z :: uu :: uu :: uu :: uu :: uu :: uu :: uu :: uu :: uu :: []) ∧ h = []) ?_ ⟨_, _, WeakL.of_eq rfl, p, p, rfl, rfl, .inr rfl, rfl, rfl, rfl⟩ ?_
    · rintro _ _ _ ⟨q, z, -, -, -, -, rfl, rfl⟩
      exact ⟨rfl, (by simp [IdsL, Ids, IdsH, IdsC, lv_ids, ci_ids]), (by simp [IdsL, Ids, IdsH, IdsC, lv_ids, ci_ids])⟩
    rintro _ _ _ ⟨q, z, hz, hr, hql, rfl, rfl, rfl⟩
    subst hz
    have cd := c_rblank s q
    cases g : isB (s.drop q) with
    | true =>
      obtain ⟨h1, h2⟩ := blk_step g
      rw [g] at cd
      conv => whnf
      repeat' (first | exact ⟨_, _, show s.length + p - (q + 1) < s.length + p - q by omega, WeakL.of_eq rfl, q + 1, (q : Int) + 1, by omega, by omega, .inl (by omega), rfl, rfl, rfl⟩ | (refine CallH.lift seat_g cd (by simp [Closed, ClosedL]) (by simp [Closed]) ?_; conv => whnf) | ((first | refine zq1 (by omega) ?_ | refine zq2 (by omega) ?_ | refine NumH.rem (by omega) ?_ | refine zq4 (by omega) ?_ | refine zq5 (by omega) ?_ | refine zq6 ?_ | refine Req.mk (by omega) ?_ | refine Req.mk (by dsimp only; omega) ?_ | refine Req.mk ⟨rfl, rfl, rfl, by simp [ci_length, *], rfl, by simp [okCell], by dsimp only; omega, by omega, by decide⟩ ?_ | refine Req.mk (show pendP _ _ by repeat' constructor) ?_ | (with_reducible refine brT ?_ ?_; next => assumption) | (with_reducible refine brF ?_ ?_; next => assumption) | (with_reducible refine brDT ?_ ?_; next => omega) | (with_reducible refine brDF ?_ ?_; next => omega) | (with_reducible refine brET ?_ ?_; next => omega) | (with_reducible refine brEF ?_ ?_; next => omega) | (with_reducible refine brNET ?_ ?_; next => omega) | (with_reducible refine brNEF ?_ ?_; next => omega) | with_reducible refine brNot ?_); conv => whnf))
    | false =>
      rw [blk_stop g, Nat.add_zero] at hr
      rw [g] at cd
      rw [← hr]
      conv => whnf
      repeat' (first | exact ⟨_, keepT_weak (maskOf 11 [1]) _, rfl, rfl⟩ | (refine CallH.lift seat_g cd (by simp [Closed, ClosedL]) (by simp [Closed]) ?_; conv => whnf) | ((first | refine zq1 (by omega) ?_ | refine zq2 (by omega) ?_ | refine NumH.rem (by omega) ?_ | refine zq4 (by omega) ?_ | refine zq5 (by omega) ?_ | refine zq6 ?_ | refine Req.mk (by omega) ?_ | refine Req.mk (by dsimp only; omega) ?_ | refine Req.mk ⟨rfl, rfl, rfl, by simp [ci_length, *], rfl, by simp [okCell], by dsimp only; omega, by omega, by decide⟩ ?_ | refine Req.mk (show pendP _ _ by repeat' constructor) ?_ | (with_reducible refine brT ?_ ?_; next => assumption) | (with_reducible refine brF ?_ ?_; next => assumption) | (with_reducible refine brDT ?_ ?_; next => omega) | (with_reducible refine brDF ?_ ?_; next => omega) | (with_reducible refine brET ?_ ?_; next => omega) | (with_reducible refine brEF ?_ ?_; next => omega) | (with_reducible refine brNET ?_ ?_; next => omega) | (with_reducible refine brNEF ?_ ?_; next => omega) | with_reducible refine brNot ?_); conv => whnf))
  · rintro _ _ _ ⟨rfl, rfl⟩
    conv => whnf
    rfl
theorem c_rgap (s : List UInt8) (p : Nat) (hl : s.length ≤ 900000) (hp : p ≤ s.length) : ACalls seat 17 [.str s, .int .i64 p] [] (fun x _ => x = .ret (.int .i64 ((p + gapN (s.drop p) : Nat)))) := by
  refine ACalls.body seat_ok Tryd.func17 rfl rfl ?_
  have c1 := c_rblanks s p (by omega) (by omega)
  have hin := blk_in s p hp
  unfold gapN
  rw [List.drop_drop]
  obtain ⟨k, hk⟩ : ∃ k, k = p + blk (s.drop p) := ⟨_, rfl⟩
  rw [← hk] at c1 hin ⊢
  by_cases g : k < s.length
  · obtain ⟨b, hb⟩ : ∃ b, s[k]? = some b := ⟨_, List.getElem?_eq_getElem g⟩
    have eb : (s[(k : Int).toNat]?) = some b := hb
    rw [isC_some hb]
    have g2 : (k : Int) < s.length := by omega
    by_cases h : (b.toNat : Int) = 44
    · rw [if_pos (by simpa using h), List.drop_drop, show p + (blk (s.drop p) + 1) = k + 1 by omega]
      rw [show p + (blk (s.drop p) + 1 + blk (s.drop (k + 1))) = k + 1 + blk (s.drop (k + 1)) by omega]
      have c2 := c_rblanks s (k + 1) (by omega) (by omega)
      rw [show ((k + 1 : Nat) : Int) = (k : Int) + 1 by omega] at c2
      clear hk
      conv => whnf
      repeat' (first | exact rfl | (refine ldI _ eb ?_; conv => whnf) | (refine CallH.lift seat_g c1 (by simp [Closed, ClosedL]) (by simp [Closed]) ?_; conv => whnf) | (refine CallH.lift seat_g c2 (by simp [Closed, ClosedL]) (by simp [Closed]) ?_; conv => whnf) | ((first | refine zq1 (by omega) ?_ | refine zq2 (by omega) ?_ | refine NumH.rem (by omega) ?_ | refine zq4 (by omega) ?_ | refine zq5 (by omega) ?_ | refine zq6 ?_ | refine Req.mk (by omega) ?_ | refine Req.mk (by dsimp only; omega) ?_ | refine Req.mk ⟨rfl, rfl, rfl, by simp [ci_length, *], rfl, by simp [okCell], by dsimp only; omega, by omega, by decide⟩ ?_ | refine Req.mk (show pendP _ _ by repeat' constructor) ?_ | (with_reducible refine brT ?_ ?_; next => assumption) | (with_reducible refine brF ?_ ?_; next => assumption) | (with_reducible refine brDT ?_ ?_; next => omega) | (with_reducible refine brDF ?_ ?_; next => omega) | (with_reducible refine brET ?_ ?_; next => omega) | (with_reducible refine brEF ?_ ?_; next => omega) | (with_reducible refine brNET ?_ ?_; next => omega) | (with_reducible refine brNEF ?_ ?_; next => omega) | with_reducible refine brNot ?_); conv => whnf))
    · rw [if_neg (by simpa using h), ← hk]
      clear hk
      conv => whnf
      repeat' (first | exact rfl | (refine ldI _ eb ?_; conv => whnf) | (refine CallH.lift seat_g c1 (by simp [Closed, ClosedL]) (by simp [Closed]) ?_; conv => whnf) | ((first | refine zq1 (by omega) ?_ | refine zq2 (by omega) ?_ | refine NumH.rem (by omega) ?_ | refine zq4 (by omega) ?_ | refine zq5 (by omega) ?_ | refine zq6 ?_ | refine Req.mk (by omega) ?_ | refine Req.mk (by dsimp only; omega) ?_ | refine Req.mk ⟨rfl, rfl, rfl, by simp [ci_length, *], rfl, by simp [okCell], by dsimp only; omega, by omega, by decide⟩ ?_ | refine Req.mk (show pendP _ _ by repeat' constructor) ?_ | (with_reducible refine brT ?_ ?_; next => assumption) | (with_reducible refine brF ?_ ?_; next => assumption) | (with_reducible refine brDT ?_ ?_; next => omega) | (with_reducible refine brDF ?_ ?_; next => omega) | (with_reducible refine brET ?_ ?_; next => omega) | (with_reducible refine brEF ?_ ?_; next => omega) | (with_reducible refine brNET ?_ ?_; next => omega) | (with_reducible refine brNEF ?_ ?_; next => omega) | with_reducible refine brNot ?_); conv => whnf))
  · rw [List.drop_eq_nil_of_le (by omega), if_neg (by decide), ← hk]
    have g2 : ¬ ((k : Int) < s.length) := by omega
    clear hk
    conv => whnf
    repeat' (first | exact rfl | (refine CallH.lift seat_g c1 (by simp [Closed, ClosedL]) (by simp [Closed]) ?_; conv => whnf) | ((first | refine zq1 (by omega) ?_ | refine zq2 (by omega) ?_ | refine NumH.rem (by omega) ?_ | refine zq4 (by omega) ?_ | refine zq5 (by omega) ?_ | refine zq6 ?_ | refine Req.mk (by omega) ?_ | refine Req.mk (by dsimp only; omega) ?_ | refine Req.mk ⟨rfl, rfl, rfl, by simp [ci_length, *], rfl, by simp [okCell], by dsimp only; omega, by omega, by decide⟩ ?_ | refine Req.mk (show pendP _ _ by repeat' constructor) ?_ | (with_reducible refine brT ?_ ?_; next => assumption) | (with_reducible refine brF ?_ ?_; next => assumption) | (with_reducible refine brDT ?_ ?_; next => omega) | (with_reducible refine brDF ?_ ?_; next => omega) | (with_reducible refine brET ?_ ?_; next => omega) | (with_reducible refine brEF ?_ ?_; next => omega) | (with_reducible refine brNET ?_ ?_; next => omega) | (with_reducible refine brNEF ?_ ?_; next => omega) | with_reducible refine brNot ?_); conv => whnf))
/-- a flag: its value, the error, the place behind it -/
def flR (s : List UInt8) (p : Nat) : Int × Int × Nat := match s[p]? with
  | some b => if (b.toNat : Int) = 48 ∨ (b.toNat : Int) = 49 then ((b.toNat : Int) - 48, 0, p + 1) else (0, 3, p)
  | none => (0, 3, p)
theorem flR_some {s : List UInt8} {p : Nat} {b : UInt8} (h : s[p]? = some b) : flR s p = if (b.toNat : Int) = 48 ∨ (b.toNat : Int) = 49 then ((b.toNat : Int) - 48, 0, p + 1) else (0, 3, p) := by unfold flR; rw [h]
theorem flR_none {s : List UInt8} {p : Nat} (h : s.length ≤ p) : flR s p = (0, 3, p) := by unfold flR; rw [List.getElem?_eq_none h]
def gotV (v e : Int) (p : Nat) : AV := .agg [.int .i64 v, .int .i64 e, .int .i64 p]
theorem gotV_closed (v e : Int) (p : Nat) : Closed (gotV v e p) := by simp [gotV, Closed, ClosedL]
theorem c_rflag (s : List UInt8) (p : Nat) (hl : s.length ≤ 900000) : ACalls seat 19 [.str s, .int .i64 p] [] (fun x _ => x = .ret (gotV (flR s p).1 (flR s p).2.1 (flR s p).2.2)) := by
  refine ACalls.body seat_ok Tryd.func19 rfl rfl ?_
  by_cases g : p < s.length
  · obtain ⟨b, hb⟩ : ∃ b, s[p]? = some b := ⟨_, List.getElem?_eq_getElem g⟩
    have eb : (s[(p : Int).toNat]?) = some b := hb
    have g2 : (p : Int) < s.length := by omega
    rw [flR_some hb]
    by_cases h1 : (b.toNat : Int) = 48
    · rw [if_pos (.inl h1)]
      conv => whnf
      repeat' (first | exact rfl | (refine ldI _ eb ?_; conv => whnf) | (refine WrapH.is _ (wrap_u8 (by omega) (by omega)) ?_; conv => whnf) | ((first | refine zq1 (by omega) ?_ | refine zq2 (by omega) ?_ | refine NumH.rem (by omega) ?_ | refine zq4 (by omega) ?_ | refine zq5 (by omega) ?_ | refine zq6 ?_ | refine Req.mk (by omega) ?_ | refine Req.mk (by dsimp only; omega) ?_ | refine Req.mk ⟨rfl, rfl, rfl, by simp [ci_length, *], rfl, by simp [okCell], by dsimp only; omega, by omega, by decide⟩ ?_ | refine Req.mk (show pendP _ _ by repeat' constructor) ?_ | (with_reducible refine brT ?_ ?_; next => assumption) | (with_reducible refine brF ?_ ?_; next => assumption) | (with_reducible refine brDT ?_ ?_; next => omega) | (with_reducible refine brDF ?_ ?_; next => omega) | (with_reducible refine brET ?_ ?_; next => omega) | (with_reducible refine brEF ?_ ?_; next => omega) | (with_reducible refine brNET ?_ ?_; next => omega) | (with_reducible refine brNEF ?_ ?_; next => omega) | with_reducible refine brNot ?_); conv => whnf))
    · by_cases h2 : (b.toNat : Int) = 49
      · rw [if_pos (.inr h2)]
        conv => whnf
        repeat' (first | exact rfl | (refine ldI _ eb ?_; conv => whnf) | (refine WrapH.is _ (wrap_u8 (by omega) (by omega)) ?_; conv => whnf) | ((first | refine zq1 (by omega) ?_ | refine zq2 (by omega) ?_ | refine NumH.rem (by omega) ?_ | refine zq4 (by omega) ?_ | refine zq5 (by omega) ?_ | refine zq6 ?_ | refine Req.mk (by omega) ?_ | refine Req.mk (by dsimp only; omega) ?_ | refine Req.mk ⟨rfl, rfl, rfl, by simp [ci_length, *], rfl, by simp [okCell], by dsimp only; omega, by omega, by decide⟩ ?_ | refine Req.mk (show pendP _ _ by repeat' constructor) ?_ | (with_reducible refine brT ?_ ?_; next => assumption) | (with_reducible refine brF ?_ ?_; next => assumption) | (with_reducible refine brDT ?_ ?_; next => omega) | (with_reducible refine brDF ?_ ?_; next => omega) | (with_reducible refine brET ?_ ?_; next => omega) | (with_reducible refine brEF ?_ ?_; next => omega) | (with_reducible refine brNET ?_ ?_; next => omega) | (with_reducible refine brNEF ?_ ?_; next => omega) | with_reducible refine brNot ?_); conv => whnf))
      · rw [if_neg (by omega)]
        conv => whnf
        repeat' (first | exact rfl | (refine ldI _ eb ?_; conv => whnf) | ((first | refine zq1 (by omega) ?_ | refine zq2 (by omega) ?_ | refine NumH.rem (by omega) ?_ | refine zq4 (by omega) ?_ | refine zq5 (by omega) ?_ | refine zq6 ?_ | refine Req.mk (by omega) ?_ | refine Req.mk (by dsimp only; omega) ?_ | refine Req.mk ⟨rfl, rfl, rfl, by simp [ci_length, *], rfl, by simp [okCell], by dsimp only; omega, by omega, by decide⟩ ?_ | refine Req.mk (show pendP _ _ by repeat' constructor) ?_ | (with_reducible refine brT ?_ ?_; next => assumption) | (with_reducible refine brF ?_ ?_; next => assumption) | (with_reducible refine brDT ?_ ?_; next => omega) | (with_reducible refine brDF ?_ ?_; next => omega) | (with_reducible refine brET ?_ ?_; next => omega) | (with_reducible refine brEF ?_ ?_; next => omega) | (with_reducible refine brNET ?_ ?_; next => omega) | (with_reducible refine brNEF ?_ ?_; next => omega) | with_reducible refine brNot ?_); conv => whnf))
  · rw [flR_none (by omega)]
    have g2 : ¬ ((p : Int) < s.length) := by omega
    conv => whnf
    repeat' ((first | refine zq1 (by omega) ?_ | refine zq2 (by omega) ?_ | refine NumH.rem (by omega) ?_ | refine zq4 (by omega) ?_ | refine zq5 (by omega) ?_ | refine zq6 ?_ | refine Req.mk (by omega) ?_ | refine Req.mk (by dsimp only; omega) ?_ | refine Req.mk ⟨rfl, rfl, rfl, by simp [ci_length, *], rfl, by simp [okCell], by dsimp only; omega, by omega, by decide⟩ ?_ | refine Req.mk (show pendP _ _ by repeat' constructor) ?_ | (with_reducible refine brT ?_ ?_; next => assumption) | (with_reducible refine brF ?_ ?_; next => assumption) | (with_reducible refine brDT ?_ ?_; next => omega) | (with_reducible refine brDF ?_ ?_; next => omega) | (with_reducible refine brET ?_ ?_; next => omega) | (with_reducible refine brEF ?_ ?_; next => omega) | (with_reducible refine brNET ?_ ?_; next => omega) | (with_reducible refine brNEF ?_ ?_; next => omega) | with_reducible refine brNot ?_); conv => whnf)
    rfl
end Go.Proofs.YtelgbnjagbleoaaDoor
