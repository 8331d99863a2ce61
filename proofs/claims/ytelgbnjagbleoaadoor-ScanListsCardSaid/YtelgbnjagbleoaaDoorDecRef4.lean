/- The document's number: the walk. Conditions: the text has at most 400 bytes. -/
import Derived.Test.YtelgbnjagbleoaaDoorDecRef3
set_option linter.unusedSimpArgs false
set_option linter.unusedVariables false
set_option linter.deprecated false
namespace Go.Proofs.YtelgbnjagbleoaaDoor
open Go.Abs
theorem lenZ (m : Nat) : decide (((dig m).length : Int) > 0) = decide (0 < m) := by
  by_cases h : m = 0
  · subst h; simp [dig_zero]
  · rw [dig_pos h]; simp; omega
set_option maxRecDepth 20000 in
set_option maxHeartbeats 1000000 in
theorem c_plain02 (s : Bool) (m : Nat) (hm : 9223372036854775808 ≤ m) (hlm : (dig m).length ≤ 100000) : ACalls seat 40 [nv s m] [] (fun x _ => x = .ret (if s = true ∧ m = 9223372036854775808 then .tup [.int .i64 (-9223372036854775808), .bool true] else .tup [.int .i64 0, .bool false])) := by
  refine ACalls.body seat_ok Tryd.func40 rfl rfl ?_
  unfold nv
  by_cases hl : (dig m).length ≤ 4
  · have hD := dig_Dg m
    have hdv := dv_drop m
    have hend := dv_dig m
    conv => whnf
    repeat' ((first | refine zq1 (by omega) ?_ | refine zq2 (by omega) ?_ | refine NumH.rem (by omega) ?_ | refine zq4 (by omega) ?_ | refine zq5 (by omega) ?_ | refine zq6 ?_ | refine Req.mk (by omega) ?_ | refine Req.mk (by dsimp only; omega) ?_ | refine Req.mk ⟨rfl, rfl, rfl, by simp [ci_length, *], rfl, by simp [okCell], by dsimp only; omega, by omega, by decide⟩ ?_ | refine Req.mk (show pendP _ _ by repeat' constructor) ?_ | (with_reducible refine brT ?_ ?_; next => assumption) | (with_reducible refine brF ?_ ?_; next => assumption) | (with_reducible refine brDT ?_ ?_; next => omega) | (with_reducible refine brDF ?_ ?_; next => omega) | (with_reducible refine brET ?_ ?_; next => omega) | (with_reducible refine brEF ?_ ?_; next => omega) | (with_reducible refine brNET ?_ ?_; next => omega) | (with_reducible refine brNEF ?_ ?_; next => omega) | with_reducible refine brNot ?_); conv => whnf)
    refine Sat.cut (fun x t h => (x = .exit 0 ∧ (∃ z : Int, (m = 9223372036854775808 ∧ z = -9223372036854775808) ∧ t = (uu :: .ptr 0 0 :: uu :: uu :: .int .i64 z :: uu :: uu :: uu :: uu :: uu :: uu :: uu :: uu :: uu :: uu :: uu :: uu :: uu :: uu :: uu :: uu :: uu :: uu :: uu :: uu :: uu :: uu :: uu :: uu :: uu :: uu :: uu :: uu :: uu :: uu :: uu :: uu :: uu :: uu :: uu :: uu :: uu :: uu :: uu :: [])) ∧ h = [.var [.bool s, lv (dig m)] 47]) ∨ (x = .ret ∧ m ≠ 9223372036854775808 ∧ t = (uu :: uu :: .int .i64 0 :: .bool false :: uu :: uu :: uu :: uu :: uu :: uu :: uu :: uu :: uu :: uu :: uu :: uu :: uu :: uu :: uu :: uu :: uu :: uu :: uu :: uu :: uu :: uu :: uu :: uu :: uu :: uu :: uu :: uu :: uu :: uu :: uu :: uu :: uu :: uu :: uu :: uu :: uu :: uu :: uu :: uu :: []))) ?_ ?_
    · refine Sat.invP seat_ok seat_g (maskOf 44 [1, 4, 5]) 1 (fun μ t h => ∃ (j : Nat) (z : Int), j ≤ (dig m).length ∧ μ = j ∧ z = -dv ((dig m).drop j) ∧ dv ((dig m).drop j) ≤ 9223372036854775808 ∧ t = (uu :: .ptr 0 0 :: uu :: uu :: .int .i64 z :: .int .i64 ((j : Int) - 1) :: uu :: uu :: uu :: uu :: uu :: uu :: uu :: uu :: uu :: uu :: uu :: uu :: uu :: uu :: uu :: uu :: uu :: uu :: uu :: uu :: uu :: uu :: uu :: uu :: uu :: uu :: uu :: uu :: uu :: uu :: uu :: uu :: uu :: uu :: uu :: uu :: uu :: uu :: []) ∧ h = [.var [.bool s, lv (dig m)] 47])
        ?_ ⟨(dig m).length, _, WeakL.of_eq ?_, _, 0, Nat.le_refl _, rfl, ?_, ?_, rfl, rfl⟩ ?_
      · rintro _ _ _ ⟨j, z, -, -, -, -, rfl, rfl⟩
        exact ⟨rfl, (by simp [IdsL, Ids, IdsH, IdsC, lv_ids, ci_ids]), (by simp [IdsL, Ids, IdsH, IdsC, lv_ids, ci_ids])⟩
      · rfl
      · rw [List.drop_length]; rfl
      · rw [List.drop_length]; decide
      rintro j _ _ ⟨_, z, hj, rfl, hz, hzb, rfl, rfl⟩
      cases j with
      | zero =>
        rw [List.drop_zero, hend] at hz hzb
        conv => whnf
        repeat' ((first | refine zq1 (by omega) ?_ | refine zq2 (by omega) ?_ | refine NumH.rem (by omega) ?_ | refine zq4 (by omega) ?_ | refine zq5 (by omega) ?_ | refine zq6 ?_ | refine Req.mk (by omega) ?_ | refine Req.mk (by dsimp only; omega) ?_ | refine Req.mk ⟨rfl, rfl, rfl, by simp [ci_length, *], rfl, by simp [okCell], by dsimp only; omega, by omega, by decide⟩ ?_ | refine Req.mk (show pendP _ _ by repeat' constructor) ?_ | (with_reducible refine brT ?_ ?_; next => assumption) | (with_reducible refine brF ?_ ?_; next => assumption) | (with_reducible refine brDT ?_ ?_; next => omega) | (with_reducible refine brDF ?_ ?_; next => omega) | (with_reducible refine brET ?_ ?_; next => omega) | (with_reducible refine brEF ?_ ?_; next => omega) | (with_reducible refine brNET ?_ ?_; next => omega) | (with_reducible refine brNEF ?_ ?_; next => omega) | with_reducible refine brNot ?_); conv => whnf)
        exact ⟨_, keepT_weak (maskOf 44 [1, 4]) _, .inl ⟨rfl, ⟨z, by omega, rfl⟩, rfl⟩⟩
      | succ j =>
        obtain ⟨x, hx⟩ : ∃ x, (dig m)[j]? = some x := ⟨_, List.getElem?_eq_getElem (by omega)⟩
        have hxb := hD x (List.mem_of_getElem? hx)
        have hdr := drop_cons' hx
        have h1 := hdv (j + 1)
        have h2 := hdv j
        have h3 : m / 65536 ^ j ≤ m := Nat.div_le_self _ _
        have hds : dv ((dig m).drop j) = x + 65536 * dv ((dig m).drop (j + 1)) := by rw [hdr]; rfl
        have hv0 : 0 ≤ dv ((dig m).drop (j + 1)) := by rw [h1]; exact Int.natCast_nonneg _
        have h4 : dv ((dig m).drop j) ≤ m := by omega
        clear h1 h2 h3 hdv hdr
        generalize dv ((dig m).drop (j + 1)) = V at *
        have ej : ((j + 1 : Nat) : Int) - 1 = j := by omega
        rw [ej]
        by_cases g1 : z < -140737488355328
        · conv => whnf
          repeat' ((first | refine zq1 (by omega) ?_ | refine zq2 (by omega) ?_ | refine NumH.rem (by omega) ?_ | refine zq4 (by omega) ?_ | refine zq5 (by omega) ?_ | refine zq6 ?_ | refine Req.mk (by omega) ?_ | refine Req.mk (by dsimp only; omega) ?_ | refine Req.mk ⟨rfl, rfl, rfl, by simp [ci_length, *], rfl, by simp [okCell], by dsimp only; omega, by omega, by decide⟩ ?_ | refine Req.mk (show pendP _ _ by repeat' constructor) ?_ | (with_reducible refine brT ?_ ?_; next => assumption) | (with_reducible refine brF ?_ ?_; next => assumption) | (with_reducible refine brDT ?_ ?_; next => omega) | (with_reducible refine brDF ?_ ?_; next => omega) | (with_reducible refine brET ?_ ?_; next => omega) | (with_reducible refine brEF ?_ ?_; next => omega) | (with_reducible refine brNET ?_ ?_; next => omega) | (with_reducible refine brNEF ?_ ?_; next => omega) | with_reducible refine brNot ?_); conv => whnf)
          exact ⟨_, keepT_weak (maskOf 44 [2, 3]) _, .inr ⟨rfl, by omega, rfl⟩⟩
        · by_cases g2 : z * 65536 < -9223372036854775808 + x
          · conv => whnf
            repeat' (first | exact ⟨_, keepT_weak (maskOf 44 [2, 3]) _, .inr ⟨rfl, by omega, rfl⟩⟩ | (refine ldI _ (ci_sub .i64 hx) ?_; conv => whnf) | ((first | refine zq1 (by omega) ?_ | refine zq2 (by omega) ?_ | refine NumH.rem (by omega) ?_ | refine zq4 (by omega) ?_ | refine zq5 (by omega) ?_ | refine zq6 ?_ | refine Req.mk (by omega) ?_ | refine Req.mk (by dsimp only; omega) ?_ | refine Req.mk ⟨rfl, rfl, rfl, by simp [ci_length, *], rfl, by simp [okCell], by dsimp only; omega, by omega, by decide⟩ ?_ | refine Req.mk (show pendP _ _ by repeat' constructor) ?_ | (with_reducible refine brT ?_ ?_; next => assumption) | (with_reducible refine brF ?_ ?_; next => assumption) | (with_reducible refine brDT ?_ ?_; next => omega) | (with_reducible refine brDF ?_ ?_; next => omega) | (with_reducible refine brET ?_ ?_; next => omega) | (with_reducible refine brEF ?_ ?_; next => omega) | (with_reducible refine brNET ?_ ?_; next => omega) | (with_reducible refine brNEF ?_ ?_; next => omega) | with_reducible refine brNot ?_); conv => whnf))
          · conv => whnf
            repeat' (first | exact ⟨_, _, Nat.lt_succ_self j, WeakL.of_eq rfl, j, z * 65536 - x, by omega, rfl, by omega, by omega, rfl, rfl⟩ | (refine ldI _ (ci_sub .i64 hx) ?_; conv => whnf) | ((first | refine zq1 (by omega) ?_ | refine zq2 (by omega) ?_ | refine NumH.rem (by omega) ?_ | refine zq4 (by omega) ?_ | refine zq5 (by omega) ?_ | refine zq6 ?_ | refine Req.mk (by omega) ?_ | refine Req.mk (by dsimp only; omega) ?_ | refine Req.mk ⟨rfl, rfl, rfl, by simp [ci_length, *], rfl, by simp [okCell], by dsimp only; omega, by omega, by decide⟩ ?_ | refine Req.mk (show pendP _ _ by repeat' constructor) ?_ | (with_reducible refine brT ?_ ?_; next => assumption) | (with_reducible refine brF ?_ ?_; next => assumption) | (with_reducible refine brDT ?_ ?_; next => omega) | (with_reducible refine brDF ?_ ?_; next => omega) | (with_reducible refine brET ?_ ?_; next => omega) | (with_reducible refine brEF ?_ ?_; next => omega) | (with_reducible refine brNET ?_ ?_; next => omega) | (with_reducible refine brNEF ?_ ?_; next => omega) | with_reducible refine brNot ?_); conv => whnf))
    · rintro _ _ _ (⟨rfl, ⟨z, ⟨hm2, hz⟩, rfl⟩, rfl⟩ | ⟨rfl, hm2, rfl⟩)
      · cases s with
        | true =>
          rw [if_pos ⟨rfl, hm2⟩]
          subst hz
          conv => whnf
          rfl
        | false =>
          rw [if_neg (by rintro ⟨h, -⟩; cases h)]
          conv => whnf
          repeat' ((first | refine zq1 (by omega) ?_ | refine zq2 (by omega) ?_ | refine NumH.rem (by omega) ?_ | refine zq4 (by omega) ?_ | refine zq5 (by omega) ?_ | refine zq6 ?_ | refine Req.mk (by omega) ?_ | refine Req.mk (by dsimp only; omega) ?_ | refine Req.mk ⟨rfl, rfl, rfl, by simp [ci_length, *], rfl, by simp [okCell], by dsimp only; omega, by omega, by decide⟩ ?_ | refine Req.mk (show pendP _ _ by repeat' constructor) ?_ | (with_reducible refine brT ?_ ?_; next => assumption) | (with_reducible refine brF ?_ ?_; next => assumption) | (with_reducible refine brDT ?_ ?_; next => omega) | (with_reducible refine brDF ?_ ?_; next => omega) | (with_reducible refine brET ?_ ?_; next => omega) | (with_reducible refine brEF ?_ ?_; next => omega) | (with_reducible refine brNET ?_ ?_; next => omega) | (with_reducible refine brNEF ?_ ?_; next => omega) | with_reducible refine brNot ?_); conv => whnf)
          rfl
      · rw [if_neg (fun h => hm2 h.2)]
        conv => whnf
        rfl
  · have hm2 : m ≠ 9223372036854775808 := fun h => hl (by rw [h]; exact dig_length_lt (by decide))
    rw [if_neg (fun h => hm2 h.2)]
    conv => whnf
    repeat' ((first | refine zq1 (by omega) ?_ | refine zq2 (by omega) ?_ | refine NumH.rem (by omega) ?_ | refine zq4 (by omega) ?_ | refine zq5 (by omega) ?_ | refine zq6 ?_ | refine Req.mk (by omega) ?_ | refine Req.mk (by dsimp only; omega) ?_ | refine Req.mk ⟨rfl, rfl, rfl, by simp [ci_length, *], rfl, by simp [okCell], by dsimp only; omega, by omega, by decide⟩ ?_ | refine Req.mk (show pendP _ _ by repeat' constructor) ?_ | (with_reducible refine brT ?_ ?_; next => assumption) | (with_reducible refine brF ?_ ?_; next => assumption) | (with_reducible refine brDT ?_ ?_; next => omega) | (with_reducible refine brDF ?_ ?_; next => omega) | (with_reducible refine brET ?_ ?_; next => omega) | (with_reducible refine brEF ?_ ?_; next => omega) | (with_reducible refine brNET ?_ ?_; next => omega) | (with_reducible refine brNEF ?_ ?_; next => omega) | with_reducible refine brNot ?_); conv => whnf)
    rfl
/-- a number's value, or too great -/
def outV (n : Int) : AV := if 4294967296 ≤ n ∨ n ≤ -4294967296 then .tup [.int .i64 0, .int .i64 2] else .tup [.int .i64 n, .int .i64 0]
def upM (N : Nat) (P : Int) : Nat := N * 65536 * 10 ^ P.toNat
def dnM (P : Int) : Nat := 10 ^ (0 - P).toNat
def refV (bl : Bool) (N : Nat) (P : Int) : Int := sg (nearM (bl && decide (0 < upM N P)) (upM N P) (dnM P)).1 (nearM (bl && decide (0 < upM N P)) (upM N P) (dnM P)).2
theorem ten_le2 {n e : Nat} (h : 4 * n ≤ e) : 10 ^ n ≤ 2 ^ e :=
  calc 10 ^ n ≤ 16 ^ n := Nat.pow_le_pow_left (by decide) n
    _ = 2 ^ (4 * n) := by rw [Nat.pow_mul]
    _ ≤ 2 ^ e := Nat.pow_le_pow_right (by decide) h
theorem nearM_bd (s : Bool) (m C : Nat) : (nearM s m C).2 ≤ 2 * m + C + 1 := by
  have h1 : ∀ (s : Bool) (m C : Nat), flrQ s m C ≤ m + 1 := fun s m C => by
    have := Nat.div_le_self m C
    unfold flrQ; split <;> omega
  have h2 : ∀ s : Bool, addM s (2 * m) false C ≤ 2 * m + C := fun s => by unfold addM; split <;> (try split) <;> omega
  exact Nat.le_trans (h1 _ _ _) (by have := h2 s; omega)
theorem c_rparseE (s : List UInt8) (hl : s.length ≤ 400) (h : ¬ ((scR true s 0).2 = true ∧ (scR true s 0).1 = s.length)) : ACalls seat 28 [.str s] [] (fun x _ => x = .ret (.tup [.int .i64 0, .int .i64 3])) := by
  have c1 : ACalls seat 27 [.str s, .int .i64 0, .bool true] [] (fun x _ => x = .ret (.tup [.int .i64 ((scR true s 0).1 : Nat), .bool (scR true s 0).2])) := c_rscan s 0 true (by omega) (by omega)
  refine ACalls.body seat_ok Tryd.func28 rfl rfl ?_
  generalize scR true s 0 = r at *
  obtain ⟨p, b⟩ := r
  simp only at c1 h
  cases b with
  | false =>
    conv => whnf
    repeat' (first | rfl | (refine CallH.lift seat_g c1 (by simp [Closed, ClosedL]) (by simp [Closed, ClosedL]) ?_; conv => whnf) | ((first | refine zq1 (by omega) ?_ | refine zq2 (by omega) ?_ | refine NumH.rem (by omega) ?_ | refine zq4 (by omega) ?_ | refine zq5 (by omega) ?_ | refine zq6 ?_ | refine Req.mk (by omega) ?_ | refine Req.mk (by dsimp only; omega) ?_ | refine Req.mk ⟨rfl, rfl, rfl, by simp [ci_length, *], rfl, by simp [okCell], by dsimp only; omega, by omega, by decide⟩ ?_ | refine Req.mk (show pendP _ _ by repeat' constructor) ?_ | (with_reducible refine brT ?_ ?_; next => assumption) | (with_reducible refine brF ?_ ?_; next => assumption) | (with_reducible refine brDT ?_ ?_; next => omega) | (with_reducible refine brDF ?_ ?_; next => omega) | (with_reducible refine brET ?_ ?_; next => omega) | (with_reducible refine brEF ?_ ?_; next => omega) | (with_reducible refine brNET ?_ ?_; next => omega) | (with_reducible refine brNEF ?_ ?_; next => omega) | with_reducible refine brNot ?_); conv => whnf))
  | true =>
    have g : (p : Int) ≠ s.length := fun e => h ⟨rfl, by omega⟩
    conv => whnf
    repeat' (first | rfl | (refine CallH.lift seat_g c1 (by simp [Closed, ClosedL]) (by simp [Closed, ClosedL]) ?_; conv => whnf) | ((first | refine zq1 (by omega) ?_ | refine zq2 (by omega) ?_ | refine NumH.rem (by omega) ?_ | refine zq4 (by omega) ?_ | refine zq5 (by omega) ?_ | refine zq6 ?_ | refine Req.mk (by omega) ?_ | refine Req.mk (by dsimp only; omega) ?_ | refine Req.mk ⟨rfl, rfl, rfl, by simp [ci_length, *], rfl, by simp [okCell], by dsimp only; omega, by omega, by decide⟩ ?_ | refine Req.mk (show pendP _ _ by repeat' constructor) ?_ | (with_reducible refine brT ?_ ?_; next => assumption) | (with_reducible refine brF ?_ ?_; next => assumption) | (with_reducible refine brDT ?_ ?_; next => omega) | (with_reducible refine brDF ?_ ?_; next => omega) | (with_reducible refine brET ?_ ?_; next => omega) | (with_reducible refine brEF ?_ ?_; next => omega) | (with_reducible refine brNET ?_ ?_; next => omega) | (with_reducible refine brNEF ?_ ?_; next => omega) | with_reducible refine brNot ?_); conv => whnf))
end Go.Proofs.YtelgbnjagbleoaaDoor
