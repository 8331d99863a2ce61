/- The document's scan of a number's text. Conditions: the text's length. -/
import Derived.Test.YtelgbnjagbleoaaDoorDecScan
set_option linter.unusedSimpArgs false
set_option linter.unusedVariables false
set_option linter.deprecated false
namespace Go.Proofs.YtelgbnjagbleoaaDoor
open Go.Abs
/-- the kind of the first byte -/
def kd : List UInt8 → Int
  | [] => -1
  | b :: _ => kindN b.toNat
def runN : List UInt8 → Nat
  | [] => 0
  | b :: l => if kindN b.toNat = 0 then runN l + 1 else 0
theorem runN_le : ∀ l, runN l ≤ l.length
  | [] => Nat.le_refl _
  | b :: l => by
    have := runN_le l
    unfold runN; split
    · simp; omega
    · exact Nat.zero_le _
theorem kd_none {s : List UInt8} {p : Nat} (h : s.length ≤ p) : kd (s.drop p) = -1 := by rw [List.drop_eq_nil_of_le h]; rfl
theorem kd_some {s : List UInt8} {p : Nat} {b : UInt8} (h : s[p]? = some b) : kd (s.drop p) = kindN b.toNat := by rw [drop_cons' h]; rfl
theorem c_rdigit (s : List UInt8) (p : Nat) : ACalls seat 43 [.str s, .int .i64 p] [] (fun x _ => x = .ret (.bool (decide (kd (s.drop p) = 0)))) := by
  refine ACalls.body seat_ok Tryd.func43 rfl rfl ?_
  by_cases g : p < s.length
  · obtain ⟨b, hb⟩ : ∃ b, s[p]? = some b := ⟨_, List.getElem?_eq_getElem g⟩
    have eb : (s[(p : Int).toNat]?) = some b := hb
    rw [kd_some hb]
    have hc := kindN_cases b.toNat
    by_cases h1 : 48 ≤ (b.toNat : Int)
    · by_cases h2 : (b.toNat : Int) ≤ 57
      · rw [decide_eq_true (by omega)]
        clear hc
        conv => whnf
        repeat' (first | exact rfl | (refine ldI _ eb ?_; conv => whnf) | ((first | refine zq1 (by omega) ?_ | refine zq2 (by omega) ?_ | refine NumH.rem (by omega) ?_ | refine zq4 (by omega) ?_ | refine zq5 (by omega) ?_ | refine zq6 ?_ | refine Req.mk (by omega) ?_ | refine Req.mk (by dsimp only; omega) ?_ | refine Req.mk ⟨rfl, rfl, rfl, by simp [ci_length, *], rfl, by simp [okCell], by dsimp only; omega, by omega, by decide⟩ ?_ | refine Req.mk (show pendP _ _ by repeat' constructor) ?_ | (with_reducible refine brT ?_ ?_; next => assumption) | (with_reducible refine brF ?_ ?_; next => assumption) | (with_reducible refine brDT ?_ ?_; next => omega) | (with_reducible refine brDF ?_ ?_; next => omega) | (with_reducible refine brET ?_ ?_; next => omega) | (with_reducible refine brEF ?_ ?_; next => omega) | (with_reducible refine brNET ?_ ?_; next => omega) | (with_reducible refine brNEF ?_ ?_; next => omega) | with_reducible refine brNot ?_); conv => whnf))
        exact congrArg (fun b => AEnd.ret (.bool b)) (decide_eq_true h2)
      · rw [decide_eq_false (by omega)]
        clear hc
        conv => whnf
        repeat' (first | exact rfl | (refine ldI _ eb ?_; conv => whnf) | ((first | refine zq1 (by omega) ?_ | refine zq2 (by omega) ?_ | refine NumH.rem (by omega) ?_ | refine zq4 (by omega) ?_ | refine zq5 (by omega) ?_ | refine zq6 ?_ | refine Req.mk (by omega) ?_ | refine Req.mk (by dsimp only; omega) ?_ | refine Req.mk ⟨rfl, rfl, rfl, by simp [ci_length, *], rfl, by simp [okCell], by dsimp only; omega, by omega, by decide⟩ ?_ | refine Req.mk (show pendP _ _ by repeat' constructor) ?_ | (with_reducible refine brT ?_ ?_; next => assumption) | (with_reducible refine brF ?_ ?_; next => assumption) | (with_reducible refine brDT ?_ ?_; next => omega) | (with_reducible refine brDF ?_ ?_; next => omega) | (with_reducible refine brET ?_ ?_; next => omega) | (with_reducible refine brEF ?_ ?_; next => omega) | (with_reducible refine brNET ?_ ?_; next => omega) | (with_reducible refine brNEF ?_ ?_; next => omega) | with_reducible refine brNot ?_); conv => whnf))
        exact congrArg (fun b => AEnd.ret (.bool b)) (decide_eq_false h2)
    · rw [decide_eq_false (by omega)]
      clear hc
      conv => whnf
      repeat' (first | exact rfl | (refine ldI _ eb ?_; conv => whnf) | ((first | refine zq1 (by omega) ?_ | refine zq2 (by omega) ?_ | refine NumH.rem (by omega) ?_ | refine zq4 (by omega) ?_ | refine zq5 (by omega) ?_ | refine zq6 ?_ | refine Req.mk (by omega) ?_ | refine Req.mk (by dsimp only; omega) ?_ | refine Req.mk ⟨rfl, rfl, rfl, by simp [ci_length, *], rfl, by simp [okCell], by dsimp only; omega, by omega, by decide⟩ ?_ | refine Req.mk (show pendP _ _ by repeat' constructor) ?_ | (with_reducible refine brT ?_ ?_; next => assumption) | (with_reducible refine brF ?_ ?_; next => assumption) | (with_reducible refine brDT ?_ ?_; next => omega) | (with_reducible refine brDF ?_ ?_; next => omega) | (with_reducible refine brET ?_ ?_; next => omega) | (with_reducible refine brEF ?_ ?_; next => omega) | (with_reducible refine brNET ?_ ?_; next => omega) | (with_reducible refine brNEF ?_ ?_; next => omega) | with_reducible refine brNot ?_); conv => whnf))
  · rw [kd_none (by omega)]
    conv => whnf
    repeat' ((first | refine zq1 (by omega) ?_ | refine zq2 (by omega) ?_ | refine NumH.rem (by omega) ?_ | refine zq4 (by omega) ?_ | refine zq5 (by omega) ?_ | refine zq6 ?_ | refine Req.mk (by omega) ?_ | refine Req.mk (by dsimp only; omega) ?_ | refine Req.mk ⟨rfl, rfl, rfl, by simp [ci_length, *], rfl, by simp [okCell], by dsimp only; omega, by omega, by decide⟩ ?_ | refine Req.mk (show pendP _ _ by repeat' constructor) ?_ | (with_reducible refine brT ?_ ?_; next => assumption) | (with_reducible refine brF ?_ ?_; next => assumption) | (with_reducible refine brDT ?_ ?_; next => omega) | (with_reducible refine brDF ?_ ?_; next => omega) | (with_reducible refine brET ?_ ?_; next => omega) | (with_reducible refine brEF ?_ ?_; next => omega) | (with_reducible refine brNET ?_ ?_; next => omega) | (with_reducible refine brNEF ?_ ?_; next => omega) | with_reducible refine brNot ?_); conv => whnf)
    rfl
theorem c_rsign (s : List UInt8) (p : Nat) : ACalls seat 35 [.str s, .int .i64 p] [] (fun x _ => x = .ret (.bool (decide (kd (s.drop p) = 3)))) := by
  refine ACalls.body seat_ok Tryd.func35 rfl rfl ?_
  by_cases g : p < s.length
  · obtain ⟨b, hb⟩ : ∃ b, s[p]? = some b := ⟨_, List.getElem?_eq_getElem g⟩
    have eb : (s[(p : Int).toNat]?) = some b := hb
    rw [kd_some hb]
    have hc := kindN_cases b.toNat
    by_cases h1 : (b.toNat : Int) = 43
    · rw [decide_eq_true (by omega)]
      clear hc
      conv => whnf
      repeat' (first | exact rfl | (refine ldI _ eb ?_; conv => whnf) | ((first | refine zq1 (by omega) ?_ | refine zq2 (by omega) ?_ | refine NumH.rem (by omega) ?_ | refine zq4 (by omega) ?_ | refine zq5 (by omega) ?_ | refine zq6 ?_ | refine Req.mk (by omega) ?_ | refine Req.mk (by dsimp only; omega) ?_ | refine Req.mk ⟨rfl, rfl, rfl, by simp [ci_length, *], rfl, by simp [okCell], by dsimp only; omega, by omega, by decide⟩ ?_ | refine Req.mk (show pendP _ _ by repeat' constructor) ?_ | (with_reducible refine brT ?_ ?_; next => assumption) | (with_reducible refine brF ?_ ?_; next => assumption) | (with_reducible refine brDT ?_ ?_; next => omega) | (with_reducible refine brDF ?_ ?_; next => omega) | (with_reducible refine brET ?_ ?_; next => omega) | (with_reducible refine brEF ?_ ?_; next => omega) | (with_reducible refine brNET ?_ ?_; next => omega) | (with_reducible refine brNEF ?_ ?_; next => omega) | with_reducible refine brNot ?_); conv => whnf))
    · by_cases h2 : (b.toNat : Int) = 45
      · rw [decide_eq_true (by omega)]
        clear hc
        conv => whnf
        repeat' (first | exact rfl | (refine ldI _ eb ?_; conv => whnf) | ((first | refine zq1 (by omega) ?_ | refine zq2 (by omega) ?_ | refine NumH.rem (by omega) ?_ | refine zq4 (by omega) ?_ | refine zq5 (by omega) ?_ | refine zq6 ?_ | refine Req.mk (by omega) ?_ | refine Req.mk (by dsimp only; omega) ?_ | refine Req.mk ⟨rfl, rfl, rfl, by simp [ci_length, *], rfl, by simp [okCell], by dsimp only; omega, by omega, by decide⟩ ?_ | refine Req.mk (show pendP _ _ by repeat' constructor) ?_ | (with_reducible refine brT ?_ ?_; next => assumption) | (with_reducible refine brF ?_ ?_; next => assumption) | (with_reducible refine brDT ?_ ?_; next => omega) | (with_reducible refine brDF ?_ ?_; next => omega) | (with_reducible refine brET ?_ ?_; next => omega) | (with_reducible refine brEF ?_ ?_; next => omega) | (with_reducible refine brNET ?_ ?_; next => omega) | (with_reducible refine brNEF ?_ ?_; next => omega) | with_reducible refine brNot ?_); conv => whnf))
        exact congrArg (fun b => AEnd.ret (.bool b)) (show ((b.toNat : Int) == 45) = true by simpa using h2)
      · rw [decide_eq_false (by omega)]
        clear hc
        conv => whnf
        repeat' (first | exact rfl | (refine ldI _ eb ?_; conv => whnf) | ((first | refine zq1 (by omega) ?_ | refine zq2 (by omega) ?_ | refine NumH.rem (by omega) ?_ | refine zq4 (by omega) ?_ | refine zq5 (by omega) ?_ | refine zq6 ?_ | refine Req.mk (by omega) ?_ | refine Req.mk (by dsimp only; omega) ?_ | refine Req.mk ⟨rfl, rfl, rfl, by simp [ci_length, *], rfl, by simp [okCell], by dsimp only; omega, by omega, by decide⟩ ?_ | refine Req.mk (show pendP _ _ by repeat' constructor) ?_ | (with_reducible refine brT ?_ ?_; next => assumption) | (with_reducible refine brF ?_ ?_; next => assumption) | (with_reducible refine brDT ?_ ?_; next => omega) | (with_reducible refine brDF ?_ ?_; next => omega) | (with_reducible refine brET ?_ ?_; next => omega) | (with_reducible refine brEF ?_ ?_; next => omega) | (with_reducible refine brNET ?_ ?_; next => omega) | (with_reducible refine brNEF ?_ ?_; next => omega) | with_reducible refine brNot ?_); conv => whnf))
        exact congrArg (fun b => AEnd.ret (.bool b)) (show ((b.toNat : Int) == 45) = false by simpa using h2)
  · rw [kd_none (by omega)]
    conv => whnf
    repeat' ((first | refine zq1 (by omega) ?_ | refine zq2 (by omega) ?_ | refine NumH.rem (by omega) ?_ | refine zq4 (by omega) ?_ | refine zq5 (by omega) ?_ | refine zq6 ?_ | refine Req.mk (by omega) ?_ | refine Req.mk (by dsimp only; omega) ?_ | refine Req.mk ⟨rfl, rfl, rfl, by simp [ci_length, *], rfl, by simp [okCell], by dsimp only; omega, by omega, by decide⟩ ?_ | refine Req.mk (show pendP _ _ by repeat' constructor) ?_ | (with_reducible refine brT ?_ ?_; next => assumption) | (with_reducible refine brF ?_ ?_; next => assumption) | (with_reducible refine brDT ?_ ?_; next => omega) | (with_reducible refine brDF ?_ ?_; next => omega) | (with_reducible refine brET ?_ ?_; next => omega) | (with_reducible refine brEF ?_ ?_; next => omega) | (with_reducible refine brNET ?_ ?_; next => omega) | (with_reducible refine brNEF ?_ ?_; next => omega) | with_reducible refine brNot ?_); conv => whnf)
    rfl
set_option maxRecDepth 20000 in
theorem c_run (s : List UInt8) (p : Nat) (hl : s.length ≤ 1000000) (hp : p ≤ 1000000) : ACalls seat 36 [.str s, .int .i64 p] [] (fun x _ => x = .ret (.int .i64 ((p + runN (s.drop p) : Nat)))) := by
  refine ACalls.body seat_ok Tryd.func36 rfl rfl ?_
  conv => whnf
  refine Sat.cut (fun x t h => x = .exit 0 ∧ t = (uu :: .int .i64 ((p + runN (s.drop p) : Nat) : Int) :: uu :: uu :: uu :: uu :: uu :: uu :: uu :: uu :: uu :: [])) ?_ ?_
  · refine Sat.invP seat_ok seat_g (maskOf 11 [0, 1]) 0 (fun μ t h => ∃ (q : Nat), p ≤ q ∧ q + runN (s.drop q) = p + runN (s.drop p) ∧ (q ≤ s.length ∨ q = p) ∧ μ = s.length + p - q ∧ t = (.str s :: .int .i64 q :: uu :: uu :: uu :: uu :: uu :: uu :: uu :: uu :: uu :: []) ∧ h = []) ?_ ⟨_, _, WeakL.of_eq rfl, p, by omega, rfl, .inr rfl, rfl, rfl, rfl⟩ ?_
    · rintro _ _ _ ⟨q, -, -, -, -, rfl, rfl⟩
      exact ⟨rfl, (by simp [IdsL, Ids, IdsH, IdsC, lv_ids, ci_ids]), (by simp [IdsL, Ids, IdsH, IdsC, lv_ids, ci_ids])⟩
    rintro _ _ _ ⟨q, hq, hr, hql, rfl, rfl, rfl⟩
    have cd := c_rdigit s q
    by_cases g : kd (s.drop q) = 0
    · have g2 : q < s.length := by
        apply Nat.lt_of_not_le; intro h; rw [kd_none h] at g; omega
      obtain ⟨b, hb⟩ : ∃ b, s[q]? = some b := ⟨_, List.getElem?_eq_getElem g2⟩
      rw [decide_eq_true g] at cd
      rw [kd_some hb] at g
      have hr2 : q + 1 + runN (s.drop (q + 1)) = p + runN (s.drop p) := by
        rw [← hr, drop_cons' hb]; unfold runN; rw [if_pos g]
        cases s.drop (q + 1) <;> simp [runN] <;> omega
      conv => whnf
      repeat' (first | exact ⟨_, _, by omega, WeakL.of_eq rfl, q + 1, by omega, hr2, .inl (by omega), rfl, rfl, rfl⟩ | (refine CallH.lift seat_g cd (by simp [Closed, ClosedL]) (by simp [Closed]) ?_; conv => whnf) | ((first | refine zq1 (by omega) ?_ | refine zq2 (by omega) ?_ | refine NumH.rem (by omega) ?_ | refine zq4 (by omega) ?_ | refine zq5 (by omega) ?_ | refine zq6 ?_ | refine Req.mk (by omega) ?_ | refine Req.mk (by dsimp only; omega) ?_ | refine Req.mk ⟨rfl, rfl, rfl, by simp [ci_length, *], rfl, by simp [okCell], by dsimp only; omega, by omega, by decide⟩ ?_ | refine Req.mk (show pendP _ _ by repeat' constructor) ?_ | (with_reducible refine brT ?_ ?_; next => assumption) | (with_reducible refine brF ?_ ?_; next => assumption) | (with_reducible refine brDT ?_ ?_; next => omega) | (with_reducible refine brDF ?_ ?_; next => omega) | (with_reducible refine brET ?_ ?_; next => omega) | (with_reducible refine brEF ?_ ?_; next => omega) | (with_reducible refine brNET ?_ ?_; next => omega) | (with_reducible refine brNEF ?_ ?_; next => omega) | with_reducible refine brNot ?_); conv => whnf))
    · rw [decide_eq_false g] at cd
      have hz : runN (s.drop q) = 0 := by
        by_cases g2 : q < s.length
        · obtain ⟨b, hb⟩ : ∃ b, s[q]? = some b := ⟨_, List.getElem?_eq_getElem g2⟩
          rw [kd_some hb] at g
          rw [drop_cons' hb]; unfold runN; rw [if_neg g]
        · rw [List.drop_eq_nil_of_le (by omega)]; rfl
      rw [hz, Nat.add_zero] at hr
      rw [← hr]
      conv => whnf
      repeat' (first | exact ⟨_, keepT_weak (maskOf 11 [1]) _, rfl, rfl⟩ | (refine CallH.lift seat_g cd (by simp [Closed, ClosedL]) (by simp [Closed]) ?_; conv => whnf) | ((first | refine zq1 (by omega) ?_ | refine zq2 (by omega) ?_ | refine NumH.rem (by omega) ?_ | refine zq4 (by omega) ?_ | refine zq5 (by omega) ?_ | refine zq6 ?_ | refine Req.mk (by omega) ?_ | refine Req.mk (by dsimp only; omega) ?_ | refine Req.mk ⟨rfl, rfl, rfl, by simp [ci_length, *], rfl, by simp [okCell], by dsimp only; omega, by omega, by decide⟩ ?_ | refine Req.mk (show pendP _ _ by repeat' constructor) ?_ | (with_reducible refine brT ?_ ?_; next => assumption) | (with_reducible refine brF ?_ ?_; next => assumption) | (with_reducible refine brDT ?_ ?_; next => omega) | (with_reducible refine brDF ?_ ?_; next => omega) | (with_reducible refine brET ?_ ?_; next => omega) | (with_reducible refine brEF ?_ ?_; next => omega) | (with_reducible refine brNET ?_ ?_; next => omega) | (with_reducible refine brNEF ?_ ?_; next => omega) | with_reducible refine brNot ?_); conv => whnf))
  · rintro _ _ _ ⟨rfl, rfl⟩
    conv => whnf
    rfl
def eR (sm : Bool) (l : List UInt8) (i : Nat) : Nat × Bool :=
  if sm = false then (i, false)
  else if kd (l.drop i) = 2 then
    let j := if kd (l.drop (i + 1)) = 3 then i + 1 + 1 else i + 1
    (j + runN (l.drop j), decide (0 < runN (l.drop j)))
  else (i, true)
def ptR (l : List UInt8) (i : Nat) : Nat × Bool :=
  let a := i + runN (l.drop i)
  if kd (l.drop a) = 1 then eR (decide (0 < runN (l.drop i)) || decide (0 < runN (l.drop (a + 1)))) l (a + 1 + runN (l.drop (a + 1)))
  else eR (decide (0 < runN (l.drop i))) l a
def scR (sg : Bool) (l : List UInt8) (p : Nat) : Nat × Bool := ptR l (if sg = true ∧ kd (l.drop p) = 3 then p + 1 else p)
theorem kd_ne {s : List UInt8} {p : Nat} (h : kd (s.drop p) ≠ -1) : p < s.length := by
  apply Nat.lt_of_not_le; intro h2; exact h (kd_none h2)
theorem runIn (s : List UInt8) (p : Nat) (h : p ≤ s.length) : p + runN (s.drop p) ≤ s.length := by
  have := runN_le (s.drop p); rw [List.length_drop] at this; omega
theorem eB_cases {s : List UInt8} {p : Nat} : (kd (s.drop p) = 2 ∧ ∃ b, p < s.length ∧ s[p]? = some b ∧ ((b.toNat : Int) = 101 ∨ ((b.toNat : Int) ≠ 101 ∧ (b.toNat : Int) = 69))) ∨ (kd (s.drop p) ≠ 2 ∧ (s.length ≤ p ∨ ∃ b, p < s.length ∧ s[p]? = some b ∧ (b.toNat : Int) ≠ 101 ∧ (b.toNat : Int) ≠ 69)) := by
  by_cases g : p < s.length
  · obtain ⟨b, hb⟩ : ∃ b, s[p]? = some b := ⟨_, List.getElem?_eq_getElem g⟩
    rw [kd_some hb]
    have hc := kindN_cases b.toNat
    by_cases h : kindN b.toNat = 2
    · exact .inl ⟨h, b, g, hb, by omega⟩
    · exact .inr ⟨h, .inr ⟨b, g, hb, by omega⟩⟩
  · rw [kd_none (by omega)]
    exact .inr ⟨by omega, .inl (by omega)⟩
theorem dotB_cases {s : List UInt8} {p : Nat} : (kd (s.drop p) = 1 ∧ ∃ b, p < s.length ∧ s[p]? = some b ∧ (b.toNat : Int) = 46) ∨ (kd (s.drop p) ≠ 1 ∧ (s.length ≤ p ∨ ∃ b, p < s.length ∧ s[p]? = some b ∧ (b.toNat : Int) ≠ 46)) := by
  by_cases g : p < s.length
  · obtain ⟨b, hb⟩ : ∃ b, s[p]? = some b := ⟨_, List.getElem?_eq_getElem g⟩
    rw [kd_some hb]
    have hc := kindN_cases b.toNat
    by_cases h : kindN b.toNat = 1
    · exact .inl ⟨h, b, g, hb, by omega⟩
    · exact .inr ⟨h, .inr ⟨b, g, hb, by omega⟩⟩
  · rw [kd_none (by omega)]
    exact .inr ⟨by omega, .inl (by omega)⟩
end Go.Proofs.YtelgbnjagbleoaaDoor
