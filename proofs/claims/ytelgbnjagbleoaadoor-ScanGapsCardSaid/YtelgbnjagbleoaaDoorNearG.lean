/- The document's halves, floors and nearest numbers. Conditions: the bounds that each line names. -/
import Derived.Test.YtelgbnjagbleoaaDoorNum
import Derived.Test.YtelgbnjagbleoaaDoorAbsD
set_option linter.unusedSimpArgs false
set_option linter.unusedVariables false
set_option linter.deprecated false
namespace Go.Proofs.YtelgbnjagbleoaaDoor
open Go.Abs

def halfC : List Int → List Int × Int
  | [] => ([], 0)
  | x :: d => (((halfC d).2 * 65536 + x) / 2 :: (halfC d).1, ((halfC d).2 * 65536 + x) % 2)
theorem halfC_spec : ∀ {d : List Int}, Dg d → dv (halfC d).1 * 2 + (halfC d).2 = dv d ∧ Dg (halfC d).1 ∧ (0 ≤ (halfC d).2 ∧ (halfC d).2 ≤ 1) ∧ (halfC d).1.length = d.length
  | [], _ => by simp [halfC, dv, Dg.nil]
  | x :: d, h => by
    obtain ⟨h1, h2, h3, h4⟩ := halfC_spec h.tail
    have hx := h.head
    refine ⟨?_, Dg.cons (by omega) h2, by simp only [halfC]; omega, by simp [halfC, h4]⟩
    simp only [halfC, dv]
    omega
theorem half_dig (n : Nat) : trimL (halfC (dig n)).1 = dig (n / 2) ∧ (halfC (dig n)).2 = ((n % 2 : Nat) : Int) := by
  obtain ⟨h1, h2, h3, -⟩ := halfC_spec (dig_Dg n)
  rw [dv_dig] at h1
  have h0 := dv_nonneg h2
  rw [trim_dig h2]
  refine ⟨?_, by omega⟩
  congr 1; omega
theorem set_rep (j : Nat) (O : List Int) (v : Int) : (List.replicate (j + 1) 0 ++ O).set j v = List.replicate j 0 ++ v :: O := by
  rw [List.replicate_succ', List.append_assoc]
  rw [List.set_append_right _ _ (by simp)]
  simp
set_option maxRecDepth 20000 in
theorem c_half (n : Nat) (hl : (dig n).length ≤ 20000) : ACalls seat 50 [lv (dig n)] [] (fun x _ => x = .ret (.tup [lv (dig (n / 2)), .int .i64 ((n % 2 : Nat) : Int)])) := by
  refine ACalls.body seat_ok Tryd.func50 rfl rfl ?_
  obtain ⟨e1, e2⟩ := half_dig n
  have hD := dig_Dg n
  rw [← e1, ← e2]
  generalize dig n = D at *
  conv => whnf
  refine Req.mk ⟨by omega, Int.le_refl _, by omega, by dsimp only; omega⟩ ?_
  conv => whnf
  repeat' ((first | refine zq1 (by omega) ?_ | refine zq2 (by omega) ?_ | refine NumH.rem (by omega) ?_ | refine zq4 (by omega) ?_ | refine zq5 (by omega) ?_ | refine zq6 ?_ | refine Req.mk (by omega) ?_ | refine Req.mk (by dsimp only; omega) ?_ | refine Req.mk ⟨rfl, rfl, rfl, by simp [ci_length, *], rfl, by simp [okCell], by dsimp only; omega, by omega, by decide⟩ ?_ | refine Req.mk (show pendP _ _ by repeat' constructor) ?_ | (with_reducible refine brT ?_ ?_; next => assumption) | (with_reducible refine brF ?_ ?_; next => assumption) | (with_reducible refine brDT ?_ ?_; next => omega) | (with_reducible refine brDF ?_ ?_; next => omega) | (with_reducible refine brET ?_ ?_; next => omega) | (with_reducible refine brEF ?_ ?_; next => omega) | (with_reducible refine brNET ?_ ?_; next => omega) | (with_reducible refine brNEF ?_ ?_; next => omega) | with_reducible refine brNot ?_); conv => whnf)
  refine Sat.cut (fun x t h => x = .exit 0 ∧ t = (uu :: uu :: uu :: uu :: .row 0 0 D.length D.length :: .int .i64 (halfC D).2 :: uu :: uu :: uu :: uu :: uu :: uu :: uu :: uu :: uu :: uu :: uu :: uu :: uu :: uu :: uu :: uu :: uu :: uu :: uu :: uu :: uu :: uu :: uu :: uu :: uu :: uu :: uu :: uu :: uu :: []) ∧ h = [.var (ci .i64 (halfC D).1) 3]) ?_ ?_
  · refine Sat.invP seat_ok seat_g (maskOf 35 [0, 4, 5, 6]) 1 (fun μ t h => ∃ k : Nat, k ≤ D.length ∧ μ = k ∧ t = (lv D :: uu :: uu :: uu :: .row 0 0 D.length D.length :: .int .i64 (halfC (D.drop k)).2 :: .int .i64 ((k : Int) - 1) :: uu :: uu :: uu :: uu :: uu :: uu :: uu :: uu :: uu :: uu :: uu :: uu :: uu :: uu :: uu :: uu :: uu :: uu :: uu :: uu :: uu :: uu :: uu :: uu :: uu :: uu :: uu :: uu :: []) ∧
      h = [.var (ci .i64 (List.replicate k 0 ++ (halfC (D.drop k)).1)) 3]) ?_ ⟨D.length, _, WeakL.of_eq ?_, D.length, Nat.le_refl _, rfl, rfl, ?_⟩ ?_
    · rintro _ _ _ ⟨k, -, -, rfl, rfl⟩
      exact ⟨rfl, (by simp [IdsL, Ids, IdsH, IdsC, lv_ids, ci_ids]), (by simp [IdsL, Ids, IdsH, IdsC, lv_ids, ci_ids])⟩
    · rw [List.drop_length]; rfl
    · rw [List.drop_length]
      simp only [halfC, List.append_nil]
      exact congrArg (fun x => [Chunk.var x _]) (ci_zeros _ _)
    rintro k _ _ ⟨_, hk, rfl, rfl, rfl⟩
    cases k with
    | zero =>
      conv => whnf
      repeat' ((first | refine zq1 (by omega) ?_ | refine zq2 (by omega) ?_ | refine NumH.rem (by omega) ?_ | refine zq4 (by omega) ?_ | refine zq5 (by omega) ?_ | refine zq6 ?_ | refine Req.mk (by omega) ?_ | refine Req.mk (by dsimp only; omega) ?_ | refine Req.mk ⟨rfl, rfl, rfl, by simp [ci_length, *], rfl, by simp [okCell], by dsimp only; omega, by omega, by decide⟩ ?_ | refine Req.mk (show pendP _ _ by repeat' constructor) ?_ | (with_reducible refine brT ?_ ?_; next => assumption) | (with_reducible refine brF ?_ ?_; next => assumption) | (with_reducible refine brDT ?_ ?_; next => omega) | (with_reducible refine brDF ?_ ?_; next => omega) | (with_reducible refine brET ?_ ?_; next => omega) | (with_reducible refine brEF ?_ ?_; next => omega) | (with_reducible refine brNET ?_ ?_; next => omega) | (with_reducible refine brNEF ?_ ?_; next => omega) | with_reducible refine brNot ?_); conv => whnf)
      exact ⟨_, keepT_weak (maskOf 35 [4, 5]) _, rfl, rfl, rfl⟩
    | succ j =>
      obtain ⟨x, hx⟩ : ∃ x, D[j]? = some x := ⟨_, List.getElem?_eq_getElem (by omega)⟩
      have hxb := hD x (List.mem_of_getElem? hx)
      have hd := drop_cons' hx
      have hs := halfC_spec (d := D.drop (j + 1)) (fun y hy => hD y (List.mem_of_mem_drop hy))
      have hlen : (halfC (D.drop (j + 1))).1.length = D.length - (j + 1) := by rw [hs.2.2.2, List.length_drop]
      have hr := hs.2.2.1
      have hd2 : halfC (D.drop j) = (((halfC (D.drop (j + 1))).2 * 65536 + x) / 2 :: (halfC (D.drop (j + 1))).1, ((halfC (D.drop (j + 1))).2 * 65536 + x) % 2) := by rw [hd]; rfl
      generalize (halfC (D.drop (j + 1))).1 = O at *
      generalize (halfC (D.drop (j + 1))).2 = r at *
      have ej : ((j + 1 : Nat) : Int) - 1 = j := by omega
      rw [ej]
      have hcl : (ci .i64 (List.replicate (j + 1) 0 ++ O)).length = D.length := by rw [ci_length]; simp; omega
      have hset : ∀ v, (ci .i64 (List.replicate (j + 1) 0 ++ O)).set j (.int .i64 v) = ci .i64 (List.replicate j 0 ++ v :: O) := fun v => by
        rw [← set_rep]; unfold ci; rw [List.map_set]
      generalize ci .i64 (List.replicate (j + 1) 0 ++ O) = CS at *
      conv => whnf
      repeat' ((first | refine zq1 (by omega) ?_ | refine zq2 (by omega) ?_ | refine NumH.rem (by omega) ?_ | refine zq4 (by omega) ?_ | refine zq5 (by omega) ?_ | refine zq6 ?_ | refine Req.mk (by omega) ?_ | refine Req.mk (by dsimp only; omega) ?_ | refine Req.mk ⟨rfl, rfl, rfl, by simp [ci_length, *], rfl, by simp [okCell], by dsimp only; omega, by omega, by decide⟩ ?_ | refine Req.mk (show pendP _ _ by repeat' constructor) ?_ | (with_reducible refine brT ?_ ?_; next => assumption) | (with_reducible refine brF ?_ ?_; next => assumption) | (with_reducible refine brDT ?_ ?_; next => omega) | (with_reducible refine brDF ?_ ?_; next => omega) | (with_reducible refine brET ?_ ?_; next => omega) | (with_reducible refine brEF ?_ ?_; next => omega) | (with_reducible refine brNET ?_ ?_; next => omega) | (with_reducible refine brNEF ?_ ?_; next => omega) | with_reducible refine brNot ?_); conv => whnf)
      refine ldI _ (ci_sub .i64 hx) ?_
      conv => whnf
      repeat' ((first | refine zq1 (by omega) ?_ | refine zq2 (by omega) ?_ | refine NumH.rem (by omega) ?_ | refine zq4 (by omega) ?_ | refine zq5 (by omega) ?_ | refine zq6 ?_ | refine Req.mk (by omega) ?_ | refine Req.mk (by dsimp only; omega) ?_ | refine Req.mk ⟨rfl, rfl, rfl, by simp [ci_length, *], rfl, by simp [okCell], by dsimp only; omega, by omega, by decide⟩ ?_ | refine Req.mk (show pendP _ _ by repeat' constructor) ?_ | (with_reducible refine brT ?_ ?_; next => assumption) | (with_reducible refine brF ?_ ?_; next => assumption) | (with_reducible refine brDT ?_ ?_; next => omega) | (with_reducible refine brDF ?_ ?_; next => omega) | (with_reducible refine brET ?_ ?_; next => omega) | (with_reducible refine brEF ?_ ?_; next => omega) | (with_reducible refine brNET ?_ ?_; next => omega) | (with_reducible refine brNEF ?_ ?_; next => omega) | with_reducible refine brNot ?_); conv => whnf)
      refine storeK.mk (ci .i64 (List.replicate j 0 ++ ((r * 65536 + x) / 2) :: O)) (by rw [← hset]; simp [splice, cellsOf]) rfl (by rw [hcl]; simp [cellsOf]; omega) rfl ?_
      conv => whnf
      repeat' ((first | refine zq1 (by omega) ?_ | refine zq2 (by omega) ?_ | refine NumH.rem (by omega) ?_ | refine zq4 (by omega) ?_ | refine zq5 (by omega) ?_ | refine zq6 ?_ | refine Req.mk (by omega) ?_ | refine Req.mk (by dsimp only; omega) ?_ | refine Req.mk ⟨rfl, rfl, rfl, by simp [ci_length, *], rfl, by simp [okCell], by dsimp only; omega, by omega, by decide⟩ ?_ | refine Req.mk (show pendP _ _ by repeat' constructor) ?_ | (with_reducible refine brT ?_ ?_; next => assumption) | (with_reducible refine brF ?_ ?_; next => assumption) | (with_reducible refine brDT ?_ ?_; next => omega) | (with_reducible refine brDF ?_ ?_; next => omega) | (with_reducible refine brET ?_ ?_; next => omega) | (with_reducible refine brEF ?_ ?_; next => omega) | (with_reducible refine brNET ?_ ?_; next => omega) | (with_reducible refine brNEF ?_ ?_; next => omega) | with_reducible refine brNot ?_); conv => whnf)
      exact ⟨_, _, Nat.lt_succ_self j, WeakL.of_eq (by rw [hd2]; rfl), j, by omega, rfl, rfl, by rw [hd2]; rfl⟩
  · rintro _ _ _ ⟨rfl, rfl, rfl⟩
    obtain ⟨h1, h2, h3, h4⟩ := halfC_spec hD
    generalize (halfC D).1 = O at *
    conv => whnf
    refine CallH.freeze 0 0 1 rfl rfl ⟨by rw [ci_length]; omega, by omega, by omega⟩ ?_
    rw [Nat.mul_one, ci_take, List.take_of_length_le (by omega)]
    refine c_trim' O _ h4 (by omega) rfl ?_
    conv => whnf
    rfl

/-- bits, the lowest first -/
def bv : List Int → Int
  | [] => 0
  | b :: l => b + 2 * bv l
theorem bv_snoc : ∀ (l : List Int) (b : Int), bv (l ++ [b]) = bv l + 2 ^ l.length * b
  | [], b => by simp [bv]
  | c :: l, b => by
    have := bv_snoc l b
    simp only [List.cons_append, bv, this, List.length_cons, Int.pow_succ]
    rw [Int.mul_add, ← Int.mul_assoc, Int.mul_comm 2 (2 ^ l.length)]; omega
theorem bv_nonneg : ∀ {l : List Int}, (∀ b ∈ l, 0 ≤ b ∧ b ≤ 1) → 0 ≤ bv l
  | [], _ => by simp [bv]
  | b :: l, h => by
    have h1 := h b (by simp)
    have h2 := bv_nonneg (l := l) (fun c hc => h c (by simp [hc]))
    simp only [bv]; omega
theorem pow_room {e K : Nat} (h : e + 2 ≤ 16 * K) : 4 * 2 ^ e ≤ 65536 ^ K := by
  have : (65536 : Nat) ^ K = 2 ^ (16 * K) := by rw [Nat.pow_mul]
  rw [this]
  have h2 : (2 : Nat) ^ (e + 2) ≤ 2 ^ (16 * K) := Nat.pow_le_pow_right (by decide) h
  rw [Nat.pow_add] at h2
  omega
theorem bv_drop_le : ∀ (l : List Int) (j : Nat), (∀ b ∈ l, 0 ≤ b ∧ b ≤ 1) → bv (l.drop j) ≤ bv l
  | l, 0, _ => by simp
  | [], j + 1, _ => by simp
  | b :: l, j + 1, h => by
    have h1 := h b (by simp)
    have h2 := bv_drop_le l j (fun c hc => h c (by simp [hc]))
    have h3 := bv_nonneg (l := l) (fun c hc => h c (by simp [hc]))
    simp only [List.drop_succ_cons, bv]; omega
/-- rounded down, or up -/
def flrQ (s : Bool) (m C : Nat) : Nat := if s = true ∧ m % C ≠ 0 then m / C + 1 else m / C
set_option maxRecDepth 20000 in
theorem c_floor (e K : Nat) (hK : e + 2 ≤ 16 * K) (hK6 : K ≤ 600) (s : Bool) (m C : Nat) (hC : 0 < C) (hm : m < 2 ^ e) (hC2 : C < 2 ^ e) : ACalls seat 46 [nv s m, lv (dig C)] [] (fun x _ => x = .ret (nv (s && decide (flrQ s m C ≠ 0)) (flrQ s m C))) := by
  refine ACalls.body seat_ok Tryd.func46 rfl rfl ?_
  unfold nv
  have h200 := pow_room hK
  have dl13 : ∀ {n : Nat}, n < 65536 ^ K → (dig n).length ≤ K := fun h => dig_length_lt h
  have l1 : lv (dig 1) = .vec [.int .i64 1] 1 none := rfl
  conv => whnf
  refine Sat.nilTok 5 3 1 rfl ?_
  -- the bits
  refine Sat.cut (fun x t h => x = .exit 0 ∧ ∃ o : List Int, (∀ b ∈ o, 0 ≤ b ∧ b ≤ 1) ∧ o.length ≤ 10000 ∧ bv o = m ∧ t = (uu :: lv (dig C) :: .ptr 0 0 :: uu :: .ptr 1 0 :: .vec (ci .i64 o) o.length (some 2) :: uu :: uu :: uu :: uu :: uu :: uu :: uu :: uu :: uu :: uu :: uu :: uu :: uu :: uu :: uu :: uu :: uu :: uu :: uu :: uu :: uu :: uu :: uu :: uu :: uu :: uu :: uu :: uu :: uu :: uu :: uu :: uu :: uu :: uu :: uu :: uu :: uu :: uu :: uu :: uu :: uu :: uu :: uu :: uu :: uu :: uu :: uu :: uu :: uu :: uu :: uu :: uu :: uu :: uu :: uu :: uu :: uu :: uu :: uu :: uu :: uu :: uu :: uu :: uu :: uu :: uu :: uu :: uu :: uu :: uu :: uu :: []) ∧
      h = [.var [.bool s, lv (dig m)] 47, .var [.bool false, .nils] 47, .tok o.length 3 1]) ?_ ?_
  · refine Sat.invP seat_ok seat_g (maskOf 77 [1, 2, 4, 5, 6]) 3 (fun μ t h => ∃ (d : Nat) (o : List Int), (∀ b ∈ o, 0 ≤ b ∧ b ≤ 1) ∧ (m : Int) = bv o + 2 ^ o.length * d ∧ d ≤ m ∧ o.length ≤ e ∧ μ = d ∧
      t = (uu :: lv (dig C) :: .ptr 0 0 :: uu :: .ptr 1 0 :: .vec (ci .i64 o) o.length (some 2) :: lv (dig d) :: uu :: uu :: uu :: uu :: uu :: uu :: uu :: uu :: uu :: uu :: uu :: uu :: uu :: uu :: uu :: uu :: uu :: uu :: uu :: uu :: uu :: uu :: uu :: uu :: uu :: uu :: uu :: uu :: uu :: uu :: uu :: uu :: uu :: uu :: uu :: uu :: uu :: uu :: uu :: uu :: uu :: uu :: uu :: uu :: uu :: uu :: uu :: uu :: uu :: uu :: uu :: uu :: uu :: uu :: uu :: uu :: uu :: uu :: uu :: uu :: uu :: uu :: uu :: uu :: uu :: uu :: uu :: uu :: uu :: uu :: []) ∧ h = [.var [.bool s, lv (dig m)] 47, .var [.bool false, .nils] 47, .tok o.length 3 1])
      ?_ ⟨_, _, WeakL.of_eq rfl, m, [], by simp, by simp [bv], Nat.le_refl _, by simp, rfl, rfl, rfl⟩ ?_
    · rintro _ _ _ ⟨d, o, -, -, -, -, rfl, rfl, rfl⟩
      exact ⟨rfl, (by simp [IdsL, Ids, IdsH, IdsC, lv_ids, ci_ids]), (by simp [IdsL, Ids, IdsH, IdsC, lv_ids, ci_ids])⟩
    rintro d _ _ ⟨_, o, ho, hv, hdm, hol, rfl, rfl, rfl⟩
    have hb0 := bv_nonneg ho
    have hle : d ≠ 0 → o.length < e := fun hd => by
      apply Nat.lt_of_not_le; intro h
      have h1 : (2 : Nat) ^ e ≤ 2 ^ o.length := Nat.pow_le_pow_right (by decide) h
      have h2 : 2 ^ o.length * 1 ≤ 2 ^ o.length * d := Nat.mul_le_mul_left _ (by omega)
      have h3 : ((2 ^ o.length * d : Nat) : Int) = 2 ^ o.length * (d : Int) := by simp
      omega
    by_cases g : d = 0
    · subst g
      have hlen : o.length ≤ 10000 := by omega
      conv => whnf
      repeat' ((first | refine zq1 (by omega) ?_ | refine zq2 (by omega) ?_ | refine NumH.rem (by omega) ?_ | refine zq4 (by omega) ?_ | refine zq5 (by omega) ?_ | refine zq6 ?_ | refine Req.mk (by omega) ?_ | refine Req.mk (by dsimp only; omega) ?_ | refine Req.mk ⟨rfl, rfl, rfl, by simp [ci_length, *], rfl, by simp [okCell], by dsimp only; omega, by omega, by decide⟩ ?_ | refine Req.mk (show pendP _ _ by repeat' constructor) ?_ | (with_reducible refine brT ?_ ?_; next => assumption) | (with_reducible refine brF ?_ ?_; next => assumption) | (with_reducible refine brDT ?_ ?_; next => omega) | (with_reducible refine brDF ?_ ?_; next => omega) | (with_reducible refine brET ?_ ?_; next => omega) | (with_reducible refine brEF ?_ ?_; next => omega) | (with_reducible refine brNET ?_ ?_; next => omega) | (with_reducible refine brNEF ?_ ?_; next => omega) | with_reducible refine brNot ?_); conv => whnf)
      exact ⟨_, keepT_weak (maskOf 77 [1, 2, 4, 5]) _, rfl, o, ho, hlen, by rw [hv]; simp, rfl, rfl⟩
    · have hlt := hle g
      have ch := c_half d (Nat.le_trans (dl13 (by omega)) (by omega))
      have hdl : 0 < (dig d).length := by
        apply Nat.pos_of_ne_zero; intro h
        exact g (dig_nil.1 (List.length_eq_zero_iff.1 h))
      have hv2 : (m : Int) = bv (o ++ [((d % 2 : Nat) : Int)]) + 2 ^ (o ++ [((d % 2 : Nat) : Int)]).length * ((d / 2 : Nat) : Int) := by
        rw [bv_snoc, hv]
        simp only [List.length_append, List.length_singleton, Int.pow_succ]
        rw [Int.add_assoc, Int.mul_assoc, ← Int.mul_add]
        congr 2; omega
      have ho2 : ∀ b ∈ o ++ [((d % 2 : Nat) : Int)], 0 ≤ b ∧ b ≤ 1 := fun b hb => by
        rcases List.mem_append.1 hb with hb | hb
        · exact ho b hb
        · simp only [List.mem_singleton] at hb; omega
      have hlt2 : d / 2 < d := by omega
      have hle2 : d / 2 ≤ m := by omega
      have hsn := ci_snoc .i64 o ((d % 2 : Nat) : Int) (some 2)
      have hll : (o ++ [((d % 2 : Nat) : Int)]).length = o.length + 1 := by simp
      generalize ((d % 2 : Nat) : Int) = b at *
      generalize d / 2 = d2 at *
      conv => whnf
      repeat' ((first | refine zq1 (by omega) ?_ | refine zq2 (by omega) ?_ | refine NumH.rem (by omega) ?_ | refine zq4 (by omega) ?_ | refine zq5 (by omega) ?_ | refine zq6 ?_ | refine Req.mk (by omega) ?_ | refine Req.mk (by dsimp only; omega) ?_ | refine Req.mk ⟨rfl, rfl, rfl, by simp [ci_length, *], rfl, by simp [okCell], by dsimp only; omega, by omega, by decide⟩ ?_ | refine Req.mk (show pendP _ _ by repeat' constructor) ?_ | (with_reducible refine brT ?_ ?_; next => assumption) | (with_reducible refine brF ?_ ?_; next => assumption) | (with_reducible refine brDT ?_ ?_; next => omega) | (with_reducible refine brDF ?_ ?_; next => omega) | (with_reducible refine brET ?_ ?_; next => omega) | (with_reducible refine brEF ?_ ?_; next => omega) | (with_reducible refine brNET ?_ ?_; next => omega) | (with_reducible refine brNEF ?_ ?_; next => omega) | with_reducible refine brNot ?_); conv => whnf)
      refine CallH.lift seat_g ch ⟨lv_closed _, trivial⟩ ⟨lv_closed _, by simp [Closed], trivial⟩ ?_
      conv => whnf
      repeat' ((first | refine zq1 (by omega) ?_ | refine zq2 (by omega) ?_ | refine NumH.rem (by omega) ?_ | refine zq4 (by omega) ?_ | refine zq5 (by omega) ?_ | refine zq6 ?_ | refine Req.mk (by omega) ?_ | refine Req.mk (by dsimp only; omega) ?_ | refine Req.mk ⟨rfl, rfl, rfl, by simp [ci_length, *], rfl, by simp [okCell], by dsimp only; omega, by omega, by decide⟩ ?_ | refine Req.mk (show pendP _ _ by repeat' constructor) ?_ | (with_reducible refine brT ?_ ?_; next => assumption) | (with_reducible refine brF ?_ ?_; next => assumption) | (with_reducible refine brDT ?_ ?_; next => omega) | (with_reducible refine brDF ?_ ?_; next => omega) | (with_reducible refine brET ?_ ?_; next => omega) | (with_reducible refine brEF ?_ ?_; next => omega) | (with_reducible refine brNET ?_ ?_; next => omega) | (with_reducible refine brNEF ?_ ?_; next => omega) | with_reducible refine brNot ?_); conv => whnf)
      refine ⟨_, _, hlt2, WeakL.of_eq rfl, d2, o ++ [b], ho2, hv2, hle2, by rw [hll]; omega, rfl, ?_, ?_⟩
      · rw [← hsn]; rfl
      · rw [hll]; rfl
  · rintro _ _ _ ⟨rfl, o, ho, hol, hbv, rfl, rfl⟩
    conv => whnf
    repeat' ((first | refine zq1 (by omega) ?_ | refine zq2 (by omega) ?_ | refine NumH.rem (by omega) ?_ | refine zq4 (by omega) ?_ | refine zq5 (by omega) ?_ | refine zq6 ?_ | refine Req.mk (by omega) ?_ | refine Req.mk (by dsimp only; omega) ?_ | refine Req.mk ⟨rfl, rfl, rfl, by simp [ci_length, *], rfl, by simp [okCell], by dsimp only; omega, by omega, by decide⟩ ?_ | refine Req.mk (show pendP _ _ by repeat' constructor) ?_ | (with_reducible refine brT ?_ ?_; next => assumption) | (with_reducible refine brF ?_ ?_; next => assumption) | (with_reducible refine brDT ?_ ?_; next => omega) | (with_reducible refine brDF ?_ ?_; next => omega) | (with_reducible refine brET ?_ ?_; next => omega) | (with_reducible refine brEF ?_ ?_; next => omega) | (with_reducible refine brNET ?_ ?_; next => omega) | (with_reducible refine brNEF ?_ ?_; next => omega) | with_reducible refine brNot ?_); conv => whnf)
    refine Sat.cut (fun x t h => x = .exit 2 ∧ t = (uu :: uu :: .ptr 0 0 :: uu :: .ptr 1 0 :: uu :: uu :: uu :: uu :: lv (dig (m / C)) :: lv (dig (m % C)) :: uu :: uu :: uu :: uu :: uu :: uu :: uu :: uu :: uu :: uu :: uu :: uu :: uu :: uu :: uu :: uu :: uu :: uu :: uu :: uu :: uu :: uu :: uu :: uu :: uu :: uu :: uu :: uu :: uu :: uu :: uu :: uu :: uu :: uu :: uu :: uu :: uu :: uu :: uu :: uu :: uu :: uu :: uu :: uu :: uu :: uu :: uu :: uu :: uu :: uu :: uu :: uu :: uu :: uu :: uu :: uu :: uu :: uu :: uu :: uu :: uu :: uu :: uu :: uu :: uu :: uu :: []) ∧ h = [.var [.bool s, lv (dig m)] 47, .var [.bool false, .nils] 47, .tok o.length 3 1]) ?_ ?_
    · refine Sat.invP seat_ok seat_g (maskOf 77 [1, 2, 4, 5, 9, 10, 11]) 3 (fun μ t h => ∃ (j M : Nat), j ≤ o.length ∧ (M : Int) = bv (o.drop j) ∧ μ = j ∧
        t = (uu :: lv (dig C) :: .ptr 0 0 :: uu :: .ptr 1 0 :: .vec (ci .i64 o) o.length (some 2) :: uu :: uu :: uu :: lv (dig (M / C)) :: lv (dig (M % C)) :: .int .i64 ((j : Int) - 1) :: uu :: uu :: uu :: uu :: uu :: uu :: uu :: uu :: uu :: uu :: uu :: uu :: uu :: uu :: uu :: uu :: uu :: uu :: uu :: uu :: uu :: uu :: uu :: uu :: uu :: uu :: uu :: uu :: uu :: uu :: uu :: uu :: uu :: uu :: uu :: uu :: uu :: uu :: uu :: uu :: uu :: uu :: uu :: uu :: uu :: uu :: uu :: uu :: uu :: uu :: uu :: uu :: uu :: uu :: uu :: uu :: uu :: uu :: uu :: uu :: uu :: uu :: uu :: uu :: uu :: []) ∧ h = [.var [.bool s, lv (dig m)] 47, .var [.bool false, .nils] 47, .tok o.length 3 1])
        ?_ ⟨o.length, _, WeakL.trans (WeakL.setAt 9 rfl lv_nils) (WeakL.setAt 10 rfl lv_nils), o.length, 0, Nat.le_refl _, by simp [bv], rfl, by rw [Nat.zero_div, Nat.zero_mod]; rfl, rfl⟩ ?_
      · rintro _ _ _ ⟨j, M, -, -, rfl, rfl, rfl⟩
        exact ⟨rfl, (by simp [IdsL, Ids, IdsH, IdsC, lv_ids, ci_ids]), (by simp [IdsL, Ids, IdsH, IdsC, lv_ids, ci_ids])⟩
      rintro j _ _ ⟨_, M, hj, hM, rfl, rfl, rfl⟩
      have hMle : M ≤ m := by have := bv_drop_le o j ho; omega
      cases j with
      | zero =>
        have : M = m := by simp at hM; omega
        subst this
        conv => whnf
        repeat' ((first | refine zq1 (by omega) ?_ | refine zq2 (by omega) ?_ | refine NumH.rem (by omega) ?_ | refine zq4 (by omega) ?_ | refine zq5 (by omega) ?_ | refine zq6 ?_ | refine Req.mk (by omega) ?_ | refine Req.mk (by dsimp only; omega) ?_ | refine Req.mk ⟨rfl, rfl, rfl, by simp [ci_length, *], rfl, by simp [okCell], by dsimp only; omega, by omega, by decide⟩ ?_ | refine Req.mk (show pendP _ _ by repeat' constructor) ?_ | (with_reducible refine brT ?_ ?_; next => assumption) | (with_reducible refine brF ?_ ?_; next => assumption) | (with_reducible refine brDT ?_ ?_; next => omega) | (with_reducible refine brDF ?_ ?_; next => omega) | (with_reducible refine brET ?_ ?_; next => omega) | (with_reducible refine brEF ?_ ?_; next => omega) | (with_reducible refine brNET ?_ ?_; next => omega) | (with_reducible refine brNEF ?_ ?_; next => omega) | with_reducible refine brNot ?_); conv => whnf)
        exact ⟨_, keepT_weak (maskOf 77 [2, 4, 9, 10]) _, rfl, rfl, rfl⟩
      | succ j =>
      obtain ⟨b, hb⟩ : ∃ b, o[j]? = some b := ⟨_, List.getElem?_eq_getElem (by omega)⟩
      have hbb := ho b (List.mem_of_getElem? hb)
      have hdr := drop_cons' hb
      have hMq : M = C * (M / C) + M % C := (Nat.div_add_mod M C).symm
      have hrl : M % C < C := Nat.mod_lt _ hC
      have hql : M / C ≤ M := Nat.div_le_self _ _
      generalize M / C = q at *
      generalize M % C = r at *
      have ej : ((j + 1 : Nat) : Int) - 1 = j := by omega
      rw [ej]
      have pq := c_plusN q q (Nat.le_trans (dl13 (by omega)) (by omega)) (Nat.le_trans (dl13 (by omega)) (by omega))
      have pr := c_plusN r r (Nat.le_trans (dl13 (by omega)) (by omega)) (Nat.le_trans (dl13 (by omega)) (by omega))
      have pq1 := c_plusN (q + q) 1 (Nat.le_trans (dl13 (by omega)) (by omega)) (by decide)
      rw [l1] at pq1
      obtain hbit | hbit : b = 0 ∨ b = 1 := by omega
      · subst hbit
        have er : r + r + 0 < 65536 ^ K := by omega
        have pl := c_lessN (r + r + 0) C (Nat.le_trans (dl13 er) (by omega)) (Nat.le_trans (dl13 (by omega)) (by omega))
        rw [Nat.add_zero] at pl er
        by_cases g2 : r + r < C
        · have e1 : (2 * M + 0) / C = q + q := by
            rw [hMq, show 2 * (C * q + r) + 0 = r + r + C * (q + q) by rw [Nat.mul_add C q q]; omega, Nat.add_mul_div_left _ _ hC, Nat.div_eq_of_lt g2, Nat.zero_add]
          have e2 : (2 * M + 0) % C = r + r := by
            rw [hMq, show 2 * (C * q + r) + 0 = r + r + C * (q + q) by rw [Nat.mul_add C q q]; omega, Nat.add_mul_mod_self_left, Nat.mod_eq_of_lt g2]
          rw [decide_eq_true g2] at pl
          conv => whnf
          repeat' ((first | refine zq1 (by omega) ?_ | refine zq2 (by omega) ?_ | refine NumH.rem (by omega) ?_ | refine zq4 (by omega) ?_ | refine zq5 (by omega) ?_ | refine zq6 ?_ | refine Req.mk (by omega) ?_ | refine Req.mk (by dsimp only; omega) ?_ | refine Req.mk ⟨rfl, rfl, rfl, by simp [ci_length, *], rfl, by simp [okCell], by dsimp only; omega, by omega, by decide⟩ ?_ | refine Req.mk (show pendP _ _ by repeat' constructor) ?_ | (with_reducible refine brT ?_ ?_; next => assumption) | (with_reducible refine brF ?_ ?_; next => assumption) | (with_reducible refine brDT ?_ ?_; next => omega) | (with_reducible refine brDF ?_ ?_; next => omega) | (with_reducible refine brET ?_ ?_; next => omega) | (with_reducible refine brEF ?_ ?_; next => omega) | (with_reducible refine brNET ?_ ?_; next => omega) | (with_reducible refine brNEF ?_ ?_; next => omega) | with_reducible refine brNot ?_); conv => whnf)
          repeat' (first | (refine CallH.lift seat_g pq ⟨lv_closed _, lv_closed _, trivial⟩ (by first | exact lv_closed _ | simp [Closed]) ?_; conv => whnf) | (refine CallH.lift seat_g pr ⟨lv_closed _, lv_closed _, trivial⟩ (by first | exact lv_closed _ | simp [Closed]) ?_; conv => whnf) | (refine CallH.lift seat_g pl ⟨lv_closed _, lv_closed _, trivial⟩ (by first | exact lv_closed _ | simp [Closed]) ?_; conv => whnf) | (refine ldI _ (ci_sub .i64 hb) ?_; conv => whnf) | ((first | refine zq1 (by omega) ?_ | refine zq2 (by omega) ?_ | refine NumH.rem (by omega) ?_ | refine zq4 (by omega) ?_ | refine zq5 (by omega) ?_ | refine zq6 ?_ | refine Req.mk (by omega) ?_ | refine Req.mk (by dsimp only; omega) ?_ | refine Req.mk ⟨rfl, rfl, rfl, by simp [ci_length, *], rfl, by simp [okCell], by dsimp only; omega, by omega, by decide⟩ ?_ | refine Req.mk (show pendP _ _ by repeat' constructor) ?_ | (with_reducible refine brT ?_ ?_; next => assumption) | (with_reducible refine brF ?_ ?_; next => assumption) | (with_reducible refine brDT ?_ ?_; next => omega) | (with_reducible refine brDF ?_ ?_; next => omega) | (with_reducible refine brET ?_ ?_; next => omega) | (with_reducible refine brEF ?_ ?_; next => omega) | (with_reducible refine brNET ?_ ?_; next => omega) | (with_reducible refine brNEF ?_ ?_; next => omega) | with_reducible refine brNot ?_); conv => whnf))
          exact ⟨_, _, Nat.lt_succ_self j, WeakL.of_eq rfl, j, 2 * M + 0, by omega, by rw [hdr]; simp only [bv]; omega, rfl, by rw [e1, e2]; rfl, rfl⟩
        · have e1 : (2 * M + 0) / C = q + q + 1 := by
            rw [hMq, show 2 * (C * q + r) + 0 = (r + r - C) + C * (q + q + 1) by rw [Nat.mul_add C (q + q) 1, Nat.mul_add C q q]; omega, Nat.add_mul_div_left _ _ hC, Nat.div_eq_of_lt (by omega), Nat.zero_add]
          have e2 : (2 * M + 0) % C = r + r - C := by
            rw [hMq, show 2 * (C * q + r) + 0 = (r + r - C) + C * (q + q + 1) by rw [Nat.mul_add C (q + q) 1, Nat.mul_add C q q]; omega, Nat.add_mul_mod_self_left, Nat.mod_eq_of_lt (by omega)]
          rw [decide_eq_false g2] at pl
          have pm := c_minusN (r + r) C (by omega) (Nat.le_trans (dl13 er) (by omega)) (Nat.le_trans (dl13 (by omega)) (by omega))
          conv => whnf
          repeat' ((first | refine zq1 (by omega) ?_ | refine zq2 (by omega) ?_ | refine NumH.rem (by omega) ?_ | refine zq4 (by omega) ?_ | refine zq5 (by omega) ?_ | refine zq6 ?_ | refine Req.mk (by omega) ?_ | refine Req.mk (by dsimp only; omega) ?_ | refine Req.mk ⟨rfl, rfl, rfl, by simp [ci_length, *], rfl, by simp [okCell], by dsimp only; omega, by omega, by decide⟩ ?_ | refine Req.mk (show pendP _ _ by repeat' constructor) ?_ | (with_reducible refine brT ?_ ?_; next => assumption) | (with_reducible refine brF ?_ ?_; next => assumption) | (with_reducible refine brDT ?_ ?_; next => omega) | (with_reducible refine brDF ?_ ?_; next => omega) | (with_reducible refine brET ?_ ?_; next => omega) | (with_reducible refine brEF ?_ ?_; next => omega) | (with_reducible refine brNET ?_ ?_; next => omega) | (with_reducible refine brNEF ?_ ?_; next => omega) | with_reducible refine brNot ?_); conv => whnf)
          repeat' (first | (refine CallH.lift seat_g pq ⟨lv_closed _, lv_closed _, trivial⟩ (by first | exact lv_closed _ | simp [Closed]) ?_; conv => whnf) | (refine CallH.lift seat_g pr ⟨lv_closed _, lv_closed _, trivial⟩ (by first | exact lv_closed _ | simp [Closed]) ?_; conv => whnf) | (refine CallH.lift seat_g pl ⟨lv_closed _, lv_closed _, trivial⟩ (by first | exact lv_closed _ | simp [Closed]) ?_; conv => whnf) | (refine CallH.lift seat_g pm ⟨lv_closed _, lv_closed _, trivial⟩ (by first | exact lv_closed _ | simp [Closed]) ?_; conv => whnf) | (refine CallH.weakA (WeakL.cons (Weak.refl _) (WeakL.cons Weak.tok WeakL.nil)) ?_; refine CallH.lift seat_g pq1 ⟨lv_closed _, by simp [Closed, ClosedL], trivial⟩ (lv_closed _) ?_; conv => whnf) | (refine ldI _ (ci_sub .i64 hb) ?_; conv => whnf) | ((first | refine zq1 (by omega) ?_ | refine zq2 (by omega) ?_ | refine NumH.rem (by omega) ?_ | refine zq4 (by omega) ?_ | refine zq5 (by omega) ?_ | refine zq6 ?_ | refine Req.mk (by omega) ?_ | refine Req.mk (by dsimp only; omega) ?_ | refine Req.mk ⟨rfl, rfl, rfl, by simp [ci_length, *], rfl, by simp [okCell], by dsimp only; omega, by omega, by decide⟩ ?_ | refine Req.mk (show pendP _ _ by repeat' constructor) ?_ | (with_reducible refine brT ?_ ?_; next => assumption) | (with_reducible refine brF ?_ ?_; next => assumption) | (with_reducible refine brDT ?_ ?_; next => omega) | (with_reducible refine brDF ?_ ?_; next => omega) | (with_reducible refine brET ?_ ?_; next => omega) | (with_reducible refine brEF ?_ ?_; next => omega) | (with_reducible refine brNET ?_ ?_; next => omega) | (with_reducible refine brNEF ?_ ?_; next => omega) | with_reducible refine brNot ?_); conv => whnf))
          exact ⟨_, _, Nat.lt_succ_self j, WeakL.of_eq rfl, j, 2 * M + 0, by omega, by rw [hdr]; simp only [bv]; omega, rfl, by rw [e1, e2]; rfl, rfl⟩
      · subst hbit
        have er : r + r + 1 < 65536 ^ K := by omega
        have pl := c_lessN (r + r + 1) C (Nat.le_trans (dl13 er) (by omega)) (Nat.le_trans (dl13 (by omega)) (by omega))
        have pr1 := c_plusN (r + r) 1 (Nat.le_trans (dl13 (by omega)) (by omega)) (by decide)
        rw [l1] at pr1
        by_cases g2 : r + r + 1 < C
        · have e1 : (2 * M + 1) / C = q + q := by
            rw [hMq, show 2 * (C * q + r) + 1 = r + r + 1 + C * (q + q) by rw [Nat.mul_add C q q]; omega, Nat.add_mul_div_left _ _ hC, Nat.div_eq_of_lt g2, Nat.zero_add]
          have e2 : (2 * M + 1) % C = r + r + 1 := by
            rw [hMq, show 2 * (C * q + r) + 1 = r + r + 1 + C * (q + q) by rw [Nat.mul_add C q q]; omega, Nat.add_mul_mod_self_left, Nat.mod_eq_of_lt g2]
          rw [decide_eq_true g2] at pl
          conv => whnf
          repeat' ((first | refine zq1 (by omega) ?_ | refine zq2 (by omega) ?_ | refine NumH.rem (by omega) ?_ | refine zq4 (by omega) ?_ | refine zq5 (by omega) ?_ | refine zq6 ?_ | refine Req.mk (by omega) ?_ | refine Req.mk (by dsimp only; omega) ?_ | refine Req.mk ⟨rfl, rfl, rfl, by simp [ci_length, *], rfl, by simp [okCell], by dsimp only; omega, by omega, by decide⟩ ?_ | refine Req.mk (show pendP _ _ by repeat' constructor) ?_ | (with_reducible refine brT ?_ ?_; next => assumption) | (with_reducible refine brF ?_ ?_; next => assumption) | (with_reducible refine brDT ?_ ?_; next => omega) | (with_reducible refine brDF ?_ ?_; next => omega) | (with_reducible refine brET ?_ ?_; next => omega) | (with_reducible refine brEF ?_ ?_; next => omega) | (with_reducible refine brNET ?_ ?_; next => omega) | (with_reducible refine brNEF ?_ ?_; next => omega) | with_reducible refine brNot ?_); conv => whnf)
          repeat' (first | (refine CallH.lift seat_g pq ⟨lv_closed _, lv_closed _, trivial⟩ (by first | exact lv_closed _ | simp [Closed]) ?_; conv => whnf) | (refine CallH.lift seat_g pr ⟨lv_closed _, lv_closed _, trivial⟩ (by first | exact lv_closed _ | simp [Closed]) ?_; conv => whnf) | (refine CallH.weakA (WeakL.cons (Weak.refl _) (WeakL.cons Weak.tok WeakL.nil)) ?_; refine CallH.lift seat_g pr1 ⟨lv_closed _, by simp [Closed, ClosedL], trivial⟩ (lv_closed _) ?_; conv => whnf) | (refine CallH.lift seat_g pl ⟨lv_closed _, lv_closed _, trivial⟩ (by first | exact lv_closed _ | simp [Closed]) ?_; conv => whnf) | (refine ldI _ (ci_sub .i64 hb) ?_; conv => whnf) | ((first | refine zq1 (by omega) ?_ | refine zq2 (by omega) ?_ | refine NumH.rem (by omega) ?_ | refine zq4 (by omega) ?_ | refine zq5 (by omega) ?_ | refine zq6 ?_ | refine Req.mk (by omega) ?_ | refine Req.mk (by dsimp only; omega) ?_ | refine Req.mk ⟨rfl, rfl, rfl, by simp [ci_length, *], rfl, by simp [okCell], by dsimp only; omega, by omega, by decide⟩ ?_ | refine Req.mk (show pendP _ _ by repeat' constructor) ?_ | (with_reducible refine brT ?_ ?_; next => assumption) | (with_reducible refine brF ?_ ?_; next => assumption) | (with_reducible refine brDT ?_ ?_; next => omega) | (with_reducible refine brDF ?_ ?_; next => omega) | (with_reducible refine brET ?_ ?_; next => omega) | (with_reducible refine brEF ?_ ?_; next => omega) | (with_reducible refine brNET ?_ ?_; next => omega) | (with_reducible refine brNEF ?_ ?_; next => omega) | with_reducible refine brNot ?_); conv => whnf))
          exact ⟨_, _, Nat.lt_succ_self j, WeakL.of_eq rfl, j, 2 * M + 1, by omega, by rw [hdr]; simp only [bv]; omega, rfl, by rw [e1, e2]; rfl, rfl⟩
        · have e1 : (2 * M + 1) / C = q + q + 1 := by
            rw [hMq, show 2 * (C * q + r) + 1 = (r + r + 1 - C) + C * (q + q + 1) by rw [Nat.mul_add C (q + q) 1, Nat.mul_add C q q]; omega, Nat.add_mul_div_left _ _ hC, Nat.div_eq_of_lt (by omega), Nat.zero_add]
          have e2 : (2 * M + 1) % C = r + r + 1 - C := by
            rw [hMq, show 2 * (C * q + r) + 1 = (r + r + 1 - C) + C * (q + q + 1) by rw [Nat.mul_add C (q + q) 1, Nat.mul_add C q q]; omega, Nat.add_mul_mod_self_left, Nat.mod_eq_of_lt (by omega)]
          rw [decide_eq_false g2] at pl
          have pm := c_minusN (r + r + 1) C (by omega) (Nat.le_trans (dl13 er) (by omega)) (Nat.le_trans (dl13 (by omega)) (by omega))
          conv => whnf
          repeat' ((first | refine zq1 (by omega) ?_ | refine zq2 (by omega) ?_ | refine NumH.rem (by omega) ?_ | refine zq4 (by omega) ?_ | refine zq5 (by omega) ?_ | refine zq6 ?_ | refine Req.mk (by omega) ?_ | refine Req.mk (by dsimp only; omega) ?_ | refine Req.mk ⟨rfl, rfl, rfl, by simp [ci_length, *], rfl, by simp [okCell], by dsimp only; omega, by omega, by decide⟩ ?_ | refine Req.mk (show pendP _ _ by repeat' constructor) ?_ | (with_reducible refine brT ?_ ?_; next => assumption) | (with_reducible refine brF ?_ ?_; next => assumption) | (with_reducible refine brDT ?_ ?_; next => omega) | (with_reducible refine brDF ?_ ?_; next => omega) | (with_reducible refine brET ?_ ?_; next => omega) | (with_reducible refine brEF ?_ ?_; next => omega) | (with_reducible refine brNET ?_ ?_; next => omega) | (with_reducible refine brNEF ?_ ?_; next => omega) | with_reducible refine brNot ?_); conv => whnf)
          repeat' (first | (refine CallH.lift seat_g pq ⟨lv_closed _, lv_closed _, trivial⟩ (by first | exact lv_closed _ | simp [Closed]) ?_; conv => whnf) | (refine CallH.lift seat_g pr ⟨lv_closed _, lv_closed _, trivial⟩ (by first | exact lv_closed _ | simp [Closed]) ?_; conv => whnf) | (refine CallH.weakA (WeakL.cons (Weak.refl _) (WeakL.cons Weak.tok WeakL.nil)) ?_; refine CallH.lift seat_g pr1 ⟨lv_closed _, by simp [Closed, ClosedL], trivial⟩ (lv_closed _) ?_; conv => whnf) | (refine CallH.lift seat_g pl ⟨lv_closed _, lv_closed _, trivial⟩ (by first | exact lv_closed _ | simp [Closed]) ?_; conv => whnf) | (refine CallH.lift seat_g pm ⟨lv_closed _, lv_closed _, trivial⟩ (by first | exact lv_closed _ | simp [Closed]) ?_; conv => whnf) | (refine CallH.weakA (WeakL.cons (Weak.refl _) (WeakL.cons Weak.tok WeakL.nil)) ?_; refine CallH.lift seat_g pq1 ⟨lv_closed _, by simp [Closed, ClosedL], trivial⟩ (lv_closed _) ?_; conv => whnf) | (refine ldI _ (ci_sub .i64 hb) ?_; conv => whnf) | ((first | refine zq1 (by omega) ?_ | refine zq2 (by omega) ?_ | refine NumH.rem (by omega) ?_ | refine zq4 (by omega) ?_ | refine zq5 (by omega) ?_ | refine zq6 ?_ | refine Req.mk (by omega) ?_ | refine Req.mk (by dsimp only; omega) ?_ | refine Req.mk ⟨rfl, rfl, rfl, by simp [ci_length, *], rfl, by simp [okCell], by dsimp only; omega, by omega, by decide⟩ ?_ | refine Req.mk (show pendP _ _ by repeat' constructor) ?_ | (with_reducible refine brT ?_ ?_; next => assumption) | (with_reducible refine brF ?_ ?_; next => assumption) | (with_reducible refine brDT ?_ ?_; next => omega) | (with_reducible refine brDF ?_ ?_; next => omega) | (with_reducible refine brET ?_ ?_; next => omega) | (with_reducible refine brEF ?_ ?_; next => omega) | (with_reducible refine brNET ?_ ?_; next => omega) | (with_reducible refine brNEF ?_ ?_; next => omega) | with_reducible refine brNot ?_); conv => whnf))
          exact ⟨_, _, Nat.lt_succ_self j, WeakL.of_eq rfl, j, 2 * M + 1, by omega, by rw [hdr]; simp only [bv]; omega, rfl, by rw [e1, e2]; rfl, rfl⟩
    · rintro _ _ _ ⟨rfl, rfl, rfl⟩
      have hz : ∀ x, (dig x).length = 0 ↔ x = 0 := fun x => by rw [List.length_eq_zero_iff]; exact dig_nil
      have hql : m / C ≤ m := Nat.div_le_self _ _
      cases s with
      | false =>
        have ef : flrQ false m C = m / C := if_neg (by simp)
        rw [ef]
        conv => whnf
        rfl
      | true =>
        by_cases g : m % C = 0
        · have ef : flrQ true m C = m / C := if_neg (by simp [g])
          rw [ef]
          have h1 := (hz (m % C)).2 g
          have hd : decide (m / C ≠ 0) = decide ((((dig (m / C)).length : Nat) : Int) > 0) := decide_eq_decide.2 (by have := hz (m / C); omega)
          rw [hd]
          conv => whnf
          repeat' ((first | refine zq1 (by omega) ?_ | refine zq2 (by omega) ?_ | refine NumH.rem (by omega) ?_ | refine zq4 (by omega) ?_ | refine zq5 (by omega) ?_ | refine zq6 ?_ | refine Req.mk (by omega) ?_ | refine Req.mk (by dsimp only; omega) ?_ | refine Req.mk ⟨rfl, rfl, rfl, by simp [ci_length, *], rfl, by simp [okCell], by dsimp only; omega, by omega, by decide⟩ ?_ | refine Req.mk (show pendP _ _ by repeat' constructor) ?_ | (with_reducible refine brT ?_ ?_; next => assumption) | (with_reducible refine brF ?_ ?_; next => assumption) | (with_reducible refine brDT ?_ ?_; next => omega) | (with_reducible refine brDF ?_ ?_; next => omega) | (with_reducible refine brET ?_ ?_; next => omega) | (with_reducible refine brEF ?_ ?_; next => omega) | (with_reducible refine brNET ?_ ?_; next => omega) | (with_reducible refine brNEF ?_ ?_; next => omega) | with_reducible refine brNot ?_); conv => whnf)
          rfl
        · have ef : flrQ true m C = m / C + 1 := if_pos ⟨rfl, g⟩
          rw [ef]
          have h1 : 0 < (dig (m % C)).length := Nat.pos_of_ne_zero fun h => g ((hz _).1 h)
          have pq1 := c_plusN (m / C) 1 (Nat.le_trans (dl13 (by omega)) (by omega)) (by decide)
          rw [l1] at pq1
          have hd : decide (m / C + 1 ≠ 0) = decide ((((dig (m / C + 1)).length : Nat) : Int) > 0) := decide_eq_decide.2 (by have := hz (m / C + 1); omega)
          rw [hd]
          generalize m / C = q at *
          generalize m % C = r at *
          conv => whnf
          repeat' ((first | refine zq1 (by omega) ?_ | refine zq2 (by omega) ?_ | refine NumH.rem (by omega) ?_ | refine zq4 (by omega) ?_ | refine zq5 (by omega) ?_ | refine zq6 ?_ | refine Req.mk (by omega) ?_ | refine Req.mk (by dsimp only; omega) ?_ | refine Req.mk ⟨rfl, rfl, rfl, by simp [ci_length, *], rfl, by simp [okCell], by dsimp only; omega, by omega, by decide⟩ ?_ | refine Req.mk (show pendP _ _ by repeat' constructor) ?_ | (with_reducible refine brT ?_ ?_; next => assumption) | (with_reducible refine brF ?_ ?_; next => assumption) | (with_reducible refine brDT ?_ ?_; next => omega) | (with_reducible refine brDF ?_ ?_; next => omega) | (with_reducible refine brET ?_ ?_; next => omega) | (with_reducible refine brEF ?_ ?_; next => omega) | (with_reducible refine brNET ?_ ?_; next => omega) | (with_reducible refine brNEF ?_ ?_; next => omega) | with_reducible refine brNot ?_); conv => whnf)
          refine CallH.weakA (WeakL.cons (Weak.refl _) (WeakL.cons Weak.tok WeakL.nil)) ?_
          refine CallH.lift seat_g pq1 ⟨lv_closed _, by simp [Closed, ClosedL], trivial⟩ (lv_closed _) ?_
          conv => whnf
          rfl
/-- the nearest number -/
def nearM (s : Bool) (m C : Nat) : Bool × Nat := (addS s (2 * m) false C && decide (flrQ (addS s (2 * m) false C) (addM s (2 * m) false C) (2 * C) ≠ 0), flrQ (addS s (2 * m) false C) (addM s (2 * m) false C) (2 * C))
theorem sg_add (s1 s2 : Bool) (m n : Nat) : sg (addS s1 m s2 n) (addM s1 m s2 n) = sg s1 m + sg s2 n := by
  unfold addS addM
  by_cases h : m < n
  · cases s1 <;> cases s2 <;> simp [sg, h] <;> omega
  · cases s1 <;> cases s2 <;> simp [sg, h] <;> omega
theorem flrQ_spec (s : Bool) (m C : Nat) (hC : 0 < C) : sg s (flrQ s m C) = sg s m / (C : Int) := by
  unfold flrQ
  cases s with
  | false => simp [sg]
  | true =>
    simp only [sg, true_and, if_true]
    have h1 := Nat.div_add_mod m C
    have h2 := Nat.mod_lt m hC
    split
    · rename_i g
      symm
      have : -(m : Int) = ((C - m % C : Nat) : Int) + C * (-((m / C + 1 : Nat) : Int)) := by
        have e1 : ((C - m % C : Nat) : Int) = (C : Int) - ((m % C : Nat) : Int) := Int.ofNat_sub (Nat.le_of_lt h2)
        have e2 : (m : Int) = C * ((m / C : Nat) : Int) + ((m % C : Nat) : Int) := by exact_mod_cast h1.symm
        rw [e1, Int.mul_neg]
        have e3 : (C : Int) * ((m / C + 1 : Nat) : Int) = C * ((m / C : Nat) : Int) + C := by rw [Int.natCast_add, Int.mul_add]; simp
        rw [e3]; omega
      rw [this, Int.add_mul_ediv_left _ _ (by omega), Int.ediv_eq_zero_of_lt (by omega) (by omega)]
      simp
    · rename_i g
      have g : m % C = 0 := by simpa using g
      have e2 : (m : Int) = C * ((m / C : Nat) : Int) := by
        have : m = C * (m / C) := by omega
        exact_mod_cast this
      symm
      rw [show -(m : Int) = C * (-((m / C : Nat) : Int)) by rw [Int.mul_neg]; omega, Int.mul_ediv_cancel_left _ (by omega)]
theorem nearM_spec (s : Bool) (m C : Nat) (hC : 0 < C) : sg (nearM s m C).1 (nearM s m C).2 = (2 * sg s m + C) / (2 * (C : Int)) := by
  have h1 := sg_add s false (2 * m) C
  unfold nearM
  simp only
  generalize addS s (2 * m) false C = u at *
  generalize addM s (2 * m) false C = v at *
  have h2 := flrQ_spec u v (2 * C) (by omega)
  have h3 : sg s (2 * m) = 2 * sg s m := by
    cases s
    · simp [sg]
    · simp [sg]; omega
  have h4 : sg false C = (C : Int) := by simp [sg]
  rw [h1, h3, h4] at h2
  have h5 : ((2 * C : Nat) : Int) = 2 * (C : Int) := by simp
  rw [h5] at h2
  rw [← h2]
  generalize flrQ u v (2 * C) = f
  cases u <;> simp [sg]
  intro h; simp [h]
set_option maxRecDepth 20000 in
theorem c_near01 (e K : Nat) (hK : e + 10 ≤ 16 * K) (hK6 : K ≤ 600) (s : Bool) (m C : Nat) (hC : 0 < C) (hm : m < 2 ^ e) (hC2 : C < 2 ^ e) : ACalls seat 41 [nv s m, nv false C] [] (fun x _ => x = .ret (nv (nearM s m C).1 (nearM s m C).2)) := by
  refine ACalls.body seat_ok Tryd.func41 rfl rfl ?_
  have h198 : (2 : Nat) ^ (e + 8) = 256 * 2 ^ e := by rw [Nat.pow_add]; omega
  have h200 := pow_room (e := e + 8) (K := K) (by omega)
  have dl : ∀ x, x < 2 ^ (e + 8) → (dig x).length ≤ 100000 := fun x hx => Nat.le_trans (dig_length_lt (k := K) (by omega)) (by omega)
  have a1 := c_add s s m m (dl _ (by omega)) (dl _ (by omega))
  rw [show addS s m s m = s from if_pos rfl, show addM s m s m = 2 * m from (if_pos rfl).trans (by omega)] at a1
  have a2 := c_add s false (2 * m) C (dl _ (by omega)) (dl _ (by omega))
  have p1 := c_plusN C C (dl _ (by omega)) (dl _ (by omega))
  rw [show C + C = 2 * C by omega] at p1
  have hv : addM s (2 * m) false C < 2 ^ (e + 8) := by unfold addM; split <;> (try split) <;> omega
  have f1 := c_floor (e + 8) K (by omega) hK6 (addS s (2 * m) false C) (addM s (2 * m) false C) (2 * C) (by omega) hv (by omega)
  unfold nearM
  simp only
  generalize addS s (2 * m) false C = u at *
  generalize addM s (2 * m) false C = v at *
  generalize flrQ u v (2 * C) = f at *
  generalize (u && decide (f ≠ 0)) = uu at *
  conv => whnf
  refine DrawH.plan seat_ok (.take 0 (.take 1 (.take 3 (.take 5 (.take 6 (.take 7 (.take 8 (.perform 2 none (.perform 4 none (.perform 9 none (.perform 10 none (.perform 11 none Plan.done)))))))))))) 0 (by kernel_rfl) ?_
  conv => whnf
  repeat' (first | exact rfl | (refine CallH.lift seat_g a1 ⟨nv_closed _ _, nv_closed _ _, trivial⟩ (nv_closed _ _) ?_; conv => whnf) | (refine CallH.lift seat_g a2 ⟨nv_closed _ _, nv_closed _ _, trivial⟩ (nv_closed _ _) ?_; conv => whnf) | (refine CallH.lift seat_g p1 ⟨lv_closed _, lv_closed _, trivial⟩ (lv_closed _) ?_; conv => whnf) | (refine CallH.lift seat_g f1 ⟨nv_closed _ _, lv_closed _, trivial⟩ (nv_closed _ _) ?_; conv => whnf) | ((first | refine zq1 (by omega) ?_ | refine zq2 (by omega) ?_ | refine NumH.rem (by omega) ?_ | refine zq4 (by omega) ?_ | refine zq5 (by omega) ?_ | refine zq6 ?_ | refine Req.mk (by omega) ?_ | refine Req.mk (by dsimp only; omega) ?_ | refine Req.mk ⟨rfl, rfl, rfl, by simp [ci_length, *], rfl, by simp [okCell], by dsimp only; omega, by omega, by decide⟩ ?_ | refine Req.mk (show pendP _ _ by repeat' constructor) ?_ | (with_reducible refine brT ?_ ?_; next => assumption) | (with_reducible refine brF ?_ ?_; next => assumption) | (with_reducible refine brDT ?_ ?_; next => omega) | (with_reducible refine brDF ?_ ?_; next => omega) | (with_reducible refine brET ?_ ?_; next => omega) | (with_reducible refine brEF ?_ ?_; next => omega) | (with_reducible refine brNET ?_ ?_; next => omega) | (with_reducible refine brNEF ?_ ?_; next => omega) | with_reducible refine brNot ?_); conv => whnf) | (refine And.intro ?_ ?_ <;> (conv => whnf)))

/-- what is left of a number below its digits -/
theorem dv_drop (n : Nat) : ∀ (j : Nat), dv ((dig n).drop j) = ((n / 65536 ^ j : Nat) : Int) := by
  intro j
  induction j generalizing n with
  | zero => simp [dv_dig]
  | succ j ih =>
    by_cases h : n = 0
    · subst h; simp [dig_zero, dv]
    · rw [dig_pos h, List.drop_succ_cons, ih, Nat.pow_succ, Nat.mul_comm, Nat.div_div_eq_div_mul]
set_option maxRecDepth 20000 in
theorem c_plain01 (s : Bool) (m : Nat) (hm : m < 9223372036854775808) : ACalls seat 40 [nv s m] [] (fun x _ => x = .ret (.tup [.int .i64 (sg s m), .bool true])) := by
  refine ACalls.body seat_ok Tryd.func40 rfl rfl ?_
  unfold nv
  have hl : (dig m).length ≤ 4 := dig_length_lt (Nat.lt_of_lt_of_le hm (by decide))
  have hD := dig_Dg m
  have hdv := dv_drop m
  have hend := dv_dig m
  conv => whnf
  repeat' ((first | refine zq1 (by omega) ?_ | refine zq2 (by omega) ?_ | refine NumH.rem (by omega) ?_ | refine zq4 (by omega) ?_ | refine zq5 (by omega) ?_ | refine zq6 ?_ | refine Req.mk (by omega) ?_ | refine Req.mk (by dsimp only; omega) ?_ | refine Req.mk ⟨rfl, rfl, rfl, by simp [ci_length, *], rfl, by simp [okCell], by dsimp only; omega, by omega, by decide⟩ ?_ | refine Req.mk (show pendP _ _ by repeat' constructor) ?_ | (with_reducible refine brT ?_ ?_; next => assumption) | (with_reducible refine brF ?_ ?_; next => assumption) | (with_reducible refine brDT ?_ ?_; next => omega) | (with_reducible refine brDF ?_ ?_; next => omega) | (with_reducible refine brET ?_ ?_; next => omega) | (with_reducible refine brEF ?_ ?_; next => omega) | (with_reducible refine brNET ?_ ?_; next => omega) | (with_reducible refine brNEF ?_ ?_; next => omega) | with_reducible refine brNot ?_); conv => whnf)
  refine Sat.cut (fun x t h => x = .exit 0 ∧ t = (uu :: .ptr 0 0 :: uu :: uu :: .int .i64 (-(m : Int)) :: uu :: uu :: uu :: uu :: uu :: uu :: uu :: uu :: uu :: uu :: uu :: uu :: uu :: uu :: uu :: uu :: uu :: uu :: uu :: uu :: uu :: uu :: uu :: uu :: uu :: uu :: uu :: uu :: uu :: uu :: uu :: uu :: uu :: uu :: uu :: uu :: uu :: uu :: uu :: []) ∧ h = [.var [.bool s, lv (dig m)] 47]) ?_ ?_
  · refine Sat.invP seat_ok seat_g (maskOf 44 [1, 4, 5]) 1 (fun μ t h => ∃ j : Nat, j ≤ (dig m).length ∧ μ = j ∧ t = (uu :: .ptr 0 0 :: uu :: uu :: .int .i64 (-dv ((dig m).drop j)) :: .int .i64 ((j : Int) - 1) :: uu :: uu :: uu :: uu :: uu :: uu :: uu :: uu :: uu :: uu :: uu :: uu :: uu :: uu :: uu :: uu :: uu :: uu :: uu :: uu :: uu :: uu :: uu :: uu :: uu :: uu :: uu :: uu :: uu :: uu :: uu :: uu :: uu :: uu :: uu :: uu :: uu :: uu :: []) ∧ h = [.var [.bool s, lv (dig m)] 47])
      ?_ ⟨(dig m).length, _, WeakL.of_eq ?_, _, Nat.le_refl _, rfl, rfl, rfl⟩ ?_
    · rintro _ _ _ ⟨j, -, -, rfl, rfl⟩
      exact ⟨rfl, (by simp [IdsL, Ids, IdsH, IdsC, lv_ids, ci_ids]), (by simp [IdsL, Ids, IdsH, IdsC, lv_ids, ci_ids])⟩
    · rw [List.drop_length]; rfl
    rintro j _ _ ⟨_, hj, rfl, rfl, rfl⟩
    cases j with
    | zero =>
      rw [List.drop_zero, hend]
      conv => whnf
      repeat' ((first | refine zq1 (by omega) ?_ | refine zq2 (by omega) ?_ | refine NumH.rem (by omega) ?_ | refine zq4 (by omega) ?_ | refine zq5 (by omega) ?_ | refine zq6 ?_ | refine Req.mk (by omega) ?_ | refine Req.mk (by dsimp only; omega) ?_ | refine Req.mk ⟨rfl, rfl, rfl, by simp [ci_length, *], rfl, by simp [okCell], by dsimp only; omega, by omega, by decide⟩ ?_ | refine Req.mk (show pendP _ _ by repeat' constructor) ?_ | (with_reducible refine brT ?_ ?_; next => assumption) | (with_reducible refine brF ?_ ?_; next => assumption) | (with_reducible refine brDT ?_ ?_; next => omega) | (with_reducible refine brDF ?_ ?_; next => omega) | (with_reducible refine brET ?_ ?_; next => omega) | (with_reducible refine brEF ?_ ?_; next => omega) | (with_reducible refine brNET ?_ ?_; next => omega) | (with_reducible refine brNEF ?_ ?_; next => omega) | with_reducible refine brNot ?_); conv => whnf)
      exact ⟨_, keepT_weak (maskOf 44 [1, 4]) _, rfl, rfl, rfl⟩
    | succ j =>
      obtain ⟨x, hx⟩ : ∃ x, (dig m)[j]? = some x := ⟨_, List.getElem?_eq_getElem (by omega)⟩
      have hxb := hD x (List.mem_of_getElem? hx)
      have hdr := drop_cons' hx
      have h1 := hdv (j + 1)
      have h2 := hdv j
      rw [hdr] at h2
      simp only [dv] at h2
      have h3 : m / 65536 ^ j ≤ m := Nat.div_le_self _ _
      have hds : dv ((dig m).drop j) = x + 65536 * dv ((dig m).drop (j + 1)) := by rw [hdr]; rfl
      have hv0 : 0 ≤ dv ((dig m).drop (j + 1)) := by rw [h1]; exact Int.natCast_nonneg _
      generalize dv ((dig m).drop (j + 1)) = V at *
      have ej : ((j + 1 : Nat) : Int) - 1 = j := by omega
      rw [ej]
      have hnx : -V * 65536 - x = -(x + 65536 * V) := by omega
      conv => whnf
      repeat' ((first | refine zq1 (by omega) ?_ | refine zq2 (by omega) ?_ | refine NumH.rem (by omega) ?_ | refine zq4 (by omega) ?_ | refine zq5 (by omega) ?_ | refine zq6 ?_ | refine Req.mk (by omega) ?_ | refine Req.mk (by dsimp only; omega) ?_ | refine Req.mk ⟨rfl, rfl, rfl, by simp [ci_length, *], rfl, by simp [okCell], by dsimp only; omega, by omega, by decide⟩ ?_ | refine Req.mk (show pendP _ _ by repeat' constructor) ?_ | (with_reducible refine brT ?_ ?_; next => assumption) | (with_reducible refine brF ?_ ?_; next => assumption) | (with_reducible refine brDT ?_ ?_; next => omega) | (with_reducible refine brDF ?_ ?_; next => omega) | (with_reducible refine brET ?_ ?_; next => omega) | (with_reducible refine brEF ?_ ?_; next => omega) | (with_reducible refine brNET ?_ ?_; next => omega) | (with_reducible refine brNEF ?_ ?_; next => omega) | with_reducible refine brNot ?_); conv => whnf)
      repeat' (first | (refine ldI _ (ci_sub .i64 hx) ?_; conv => whnf) | ((first | refine zq1 (by omega) ?_ | refine zq2 (by omega) ?_ | refine NumH.rem (by omega) ?_ | refine zq4 (by omega) ?_ | refine zq5 (by omega) ?_ | refine zq6 ?_ | refine Req.mk (by omega) ?_ | refine Req.mk (by dsimp only; omega) ?_ | refine Req.mk ⟨rfl, rfl, rfl, by simp [ci_length, *], rfl, by simp [okCell], by dsimp only; omega, by omega, by decide⟩ ?_ | refine Req.mk (show pendP _ _ by repeat' constructor) ?_ | (with_reducible refine brT ?_ ?_; next => assumption) | (with_reducible refine brF ?_ ?_; next => assumption) | (with_reducible refine brDT ?_ ?_; next => omega) | (with_reducible refine brDF ?_ ?_; next => omega) | (with_reducible refine brET ?_ ?_; next => omega) | (with_reducible refine brEF ?_ ?_; next => omega) | (with_reducible refine brNET ?_ ?_; next => omega) | (with_reducible refine brNEF ?_ ?_; next => omega) | with_reducible refine brNot ?_); conv => whnf))
      exact ⟨_, _, Nat.lt_succ_self j, WeakL.of_eq (by rw [hds, ← hnx]; rfl), j, by omega, rfl, rfl, rfl⟩
  · rintro _ _ _ ⟨rfl, rfl, rfl⟩
    cases s with
    | true =>
      conv => whnf
      rfl
    | false =>
      rw [show sg false m = 0 - -(m : Int) by simp [sg]]
      conv => whnf
      repeat' ((first | refine zq1 (by omega) ?_ | refine zq2 (by omega) ?_ | refine NumH.rem (by omega) ?_ | refine zq4 (by omega) ?_ | refine zq5 (by omega) ?_ | refine zq6 ?_ | refine Req.mk (by omega) ?_ | refine Req.mk (by dsimp only; omega) ?_ | refine Req.mk ⟨rfl, rfl, rfl, by simp [ci_length, *], rfl, by simp [okCell], by dsimp only; omega, by omega, by decide⟩ ?_ | refine Req.mk (show pendP _ _ by repeat' constructor) ?_ | (with_reducible refine brT ?_ ?_; next => assumption) | (with_reducible refine brF ?_ ?_; next => assumption) | (with_reducible refine brDT ?_ ?_; next => omega) | (with_reducible refine brDF ?_ ?_; next => omega) | (with_reducible refine brET ?_ ?_; next => omega) | (with_reducible refine brEF ?_ ?_; next => omega) | (with_reducible refine brNET ?_ ?_; next => omega) | (with_reducible refine brNEF ?_ ?_; next => omega) | with_reducible refine brNot ?_); conv => whnf)
      rfl
end Go.Proofs.YtelgbnjagbleoaaDoor
