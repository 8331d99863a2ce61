/- Definitions and lemmas for the law, part 6. No condition beyond those in each statement. -/
import Derived.Test.YteicdddheaajlaaDoorT5
set_option linter.unusedSimpArgs false
set_option linter.unusedVariables false
set_option linter.deprecated false
namespace Go.Proofs.YteicdddheaajlaaDoor
open Go.Abs
def halfC : List Int → List Int × Int
  | [] => ([], 0)
  | x :: d => (((halfC d).2 * 65536 + x) / 2 :: (halfC d).1, ((halfC d).2 * 65536 + x) % 2)
theorem halfC_spec : ∀ {d : List Int}, Dg d → dv (halfC d).1 * 2 + (halfC d).2 = dv d ∧ Dg (halfC d).1 ∧ (0 ≤ (halfC d).2 ∧ (halfC d).2 ≤ 1) ∧ (halfC d).1.length = d.length
  | [], _ => by simp [halfC, dv, Dg.nil]
  | x :: d, h => by
    obtain ⟨h1, h2, h3, h4⟩ := halfC_spec h.tail
    have hx := h.head
    refine ⟨?_, Dg.cons (by omega) h2, by simp only [halfC]; omega, by simp [halfC, h4]⟩
    simp only [halfC, dv]
    omega
theorem half_dig (n : Nat) : trimL (halfC (dig n)).1 = dig (n / 2) ∧ (halfC (dig n)).2 = ((n % 2 : Nat) : Int) := by
  obtain ⟨h1, h2, h3, -⟩ := halfC_spec (dig_Dg n)
  rw [dv_dig] at h1
  have h0 := dv_nonneg h2
  rw [trim_dig h2]
  refine ⟨?_, by omega⟩
  congr 1; omega
theorem set_rep (j : Nat) (O : List Int) (v : Int) : (List.replicate (j + 1) 0 ++ O).set j v = List.replicate j 0 ++ v :: O := by
  rw [List.replicate_succ', List.append_assoc]
  rw [List.set_append_right _ _ (by simp)]
  simp
set_option maxRecDepth 20000 in
theorem c_half (n : Nat) (hl : (dig n).length ≤ 20000) : ACalls seat 99 [lv (dig n)] [] (fun x _ => x = .ret (.tup [lv (dig (n / 2)), .int .i64 ((n % 2 : Nat) : Int)])) := by
  refine ACalls.body seat_ok Tryd.func99 rfl rfl ?_
  obtain ⟨e1, e2⟩ := half_dig n
  have hD := dig_Dg n
  rw [← e1, ← e2]
  generalize dig n = D at *
  conv => whnf
  refine Req.mk ⟨by omega, Int.le_refl _, by omega, by dsimp only; omega⟩ ?_
  conv => whnf
  repeat' ((first | refine zs (by omega) ?_ | refine zq6 ?_ | refine zs (by dsimp only; omega) ?_ | refine Req.mk ⟨rfl, rfl, rfl, by simp [ci_length, *], rfl, by simp [okCell], by dsimp only; omega, by omega, by decide⟩ ?_ | refine zs (show pendP _ _ by repeat' constructor) ?_ | (with_reducible first | refine brT ‹_› ?_ | refine brF ‹_› ?_ | refine zt (by omega) ?_ | refine zf (by omega) ?_ | refine brNot ?_)); conv => whnf)
  refine Sat.cut (fun x t h => x = .exit 0 ∧ t = (uu::uu::uu::uu::.row 0 0 D.length D.length::.int .i64 (halfC D).2::uu::uu::uu::uu::uu::uu::uu::uu::uu::uu::uu::uu::uu::uu::uu::uu::uu::uu::uu::uu::uu::uu::uu::uu::uu::uu::uu::uu::uu::[]) ∧ h = [.var (ci .i64 (halfC D).1) 3]) ?_ ?_
  · refine Sat.invP seat_ok seat_g (maskOf 35 [0, 4, 5, 6]) 1 (fun μ t h => ∃ k : Nat, k ≤ D.length ∧ μ = k ∧ t = (lv D::uu::uu::uu::.row 0 0 D.length D.length::.int .i64 (halfC (D.drop k)).2::.int .i64 ((k : Int) - 1)::uu::uu::uu::uu::uu::uu::uu::uu::uu::uu::uu::uu::uu::uu::uu::uu::uu::uu::uu::uu::uu::uu::uu::uu::uu::uu::uu::uu::[]) ∧
      h = [.var (ci .i64 (List.replicate k 0 ++ (halfC (D.drop k)).1)) 3]) ?_ ⟨D.length, _, WeakL.of_eq ?_, D.length, Nat.le_refl _, rfl, rfl, ?_⟩ ?_
    · rintro _ _ _ ⟨k, -, -, rfl, rfl⟩
      exact ⟨rfl, (by simp [IdsL, Ids, IdsH, IdsC, lv_ids, ci_ids]), (by simp [IdsL, Ids, IdsH, IdsC, lv_ids, ci_ids])⟩
    · rw [List.drop_length]; rfl
    · rw [List.drop_length]
      simp only [halfC, List.append_nil]
      exact congrArg (fun x => [Chunk.var x _]) (ci_zeros _ _)
    rintro k _ _ ⟨_, hk, rfl, rfl, rfl⟩
    cases k with
    | zero =>
      conv => whnf
      repeat' ((first | refine zs (by omega) ?_ | refine zq6 ?_ | refine zs (by dsimp only; omega) ?_ | refine Req.mk ⟨rfl, rfl, rfl, by simp [ci_length, *], rfl, by simp [okCell], by dsimp only; omega, by omega, by decide⟩ ?_ | refine zs (show pendP _ _ by repeat' constructor) ?_ | (with_reducible first | refine brT ‹_› ?_ | refine brF ‹_› ?_ | refine zt (by omega) ?_ | refine zf (by omega) ?_ | refine brNot ?_)); conv => whnf)
      exact ⟨_, keepT_weak (maskOf 35 [4, 5]) _, rfl, rfl, rfl⟩
    | succ j =>
      obtain ⟨x, hx⟩ : ∃ x, D[j]? = some x := ⟨_, List.getElem?_eq_getElem (by omega)⟩
      have hxb := hD x (List.mem_of_getElem? hx)
      have hd := drop_cons' hx
      have hs := halfC_spec (d := D.drop (j + 1)) (fun y hy => hD y (List.mem_of_mem_drop hy))
      have hlen : (halfC (D.drop (j + 1))).1.length = D.length - (j + 1) := by rw [hs.2.2.2, List.length_drop]
      have hr := hs.2.2.1
      have hd2 : halfC (D.drop j) = (((halfC (D.drop (j + 1))).2 * 65536 + x) / 2 :: (halfC (D.drop (j + 1))).1, ((halfC (D.drop (j + 1))).2 * 65536 + x) % 2) := by rw [hd]; rfl
      generalize (halfC (D.drop (j + 1))).1 = O at *
      generalize (halfC (D.drop (j + 1))).2 = r at *
      have ej : ((j + 1 : Nat) : Int) - 1 = j := by omega
      rw [ej]
      have hcl : (ci .i64 (List.replicate (j + 1) 0 ++ O)).length = D.length := by rw [ci_length]; simp; omega
      have hset : ∀ v, (ci .i64 (List.replicate (j + 1) 0 ++ O)).set j (.int .i64 v) = ci .i64 (List.replicate j 0 ++ v :: O) := fun v => by
        rw [← set_rep]; unfold ci; rw [List.map_set]
      generalize ci .i64 (List.replicate (j + 1) 0 ++ O) = CS at *
      conv => whnf
      repeat' ((first | refine zs (by omega) ?_ | refine zq6 ?_ | refine zs (by dsimp only; omega) ?_ | refine Req.mk ⟨rfl, rfl, rfl, by simp [ci_length, *], rfl, by simp [okCell], by dsimp only; omega, by omega, by decide⟩ ?_ | refine zs (show pendP _ _ by repeat' constructor) ?_ | (with_reducible first | refine brT ‹_› ?_ | refine brF ‹_› ?_ | refine zt (by omega) ?_ | refine zf (by omega) ?_ | refine brNot ?_)); conv => whnf)
      refine ldI _ (ci_sub .i64 hx) ?_
      conv => whnf
      repeat' ((first | refine zs (by omega) ?_ | refine zq6 ?_ | refine zs (by dsimp only; omega) ?_ | refine Req.mk ⟨rfl, rfl, rfl, by simp [ci_length, *], rfl, by simp [okCell], by dsimp only; omega, by omega, by decide⟩ ?_ | refine zs (show pendP _ _ by repeat' constructor) ?_ | (with_reducible first | refine brT ‹_› ?_ | refine brF ‹_› ?_ | refine zt (by omega) ?_ | refine zf (by omega) ?_ | refine brNot ?_)); conv => whnf)
      refine storeK.mk (ci .i64 (List.replicate j 0 ++ ((r * 65536 + x) / 2) :: O)) (by rw [← hset]; simp [splice, cellsOf]) rfl (by rw [hcl]; simp [cellsOf]; omega) rfl ?_
      conv => whnf
      repeat' ((first | refine zs (by omega) ?_ | refine zq6 ?_ | refine zs (by dsimp only; omega) ?_ | refine Req.mk ⟨rfl, rfl, rfl, by simp [ci_length, *], rfl, by simp [okCell], by dsimp only; omega, by omega, by decide⟩ ?_ | refine zs (show pendP _ _ by repeat' constructor) ?_ | (with_reducible first | refine brT ‹_› ?_ | refine brF ‹_› ?_ | refine zt (by omega) ?_ | refine zf (by omega) ?_ | refine brNot ?_)); conv => whnf)
      exact ⟨_, _, Nat.lt_succ_self j, WeakL.of_eq (by rw [hd2]; rfl), j, by omega, rfl, rfl, by rw [hd2]; rfl⟩
  · rintro _ _ _ ⟨rfl, rfl, rfl⟩
    obtain ⟨h1, h2, h3, h4⟩ := halfC_spec hD
    generalize (halfC D).1 = O at *
    conv => whnf
    refine CallH.freeze 0 0 1 rfl rfl ⟨by rw [ci_length]; omega, by omega, by omega⟩ ?_
    rw [Nat.mul_one, ci_take, List.take_of_length_le (by omega)]
    refine c_trim' O _ h4 (by omega) rfl ?_
    conv => whnf
    rfl
def bv : List Int → Int
  | [] => 0
  | b :: l => b + 2 * bv l
theorem bv_snoc : ∀ (l : List Int) (b : Int), bv (l ++ [b]) = bv l + 2 ^ l.length * b
  | [], b => by simp [bv]
  | c :: l, b => by
    have := bv_snoc l b
    simp only [List.cons_append, bv, this, List.length_cons, Int.pow_succ]
    rw [Int.mul_add, ← Int.mul_assoc, Int.mul_comm 2 (2 ^ l.length)]; omega
theorem bv_nonneg : ∀ {l : List Int}, (∀ b ∈ l, 0 ≤ b ∧ b ≤ 1) → 0 ≤ bv l
  | [], _ => by simp [bv]
  | b :: l, h => by
    have h1 := h b (by simp)
    have h2 := bv_nonneg (l := l) (fun c hc => h c (by simp [hc]))
    simp only [bv]; omega
theorem pow_room {e K : Nat} (h : e + 2 ≤ 16 * K) : 4 * 2 ^ e ≤ 65536 ^ K := by
  have : (65536 : Nat) ^ K = 2 ^ (16 * K) := by rw [Nat.pow_mul]
  rw [this]
  have h2 : (2 : Nat) ^ (e + 2) ≤ 2 ^ (16 * K) := Nat.pow_le_pow_right (by decide) h
  rw [Nat.pow_add] at h2
  omega
theorem bv_drop_le : ∀ (l : List Int) (j : Nat), (∀ b ∈ l, 0 ≤ b ∧ b ≤ 1) → bv (l.drop j) ≤ bv l
  | l, 0, _ => by simp
  | [], j + 1, _ => by simp
  | b :: l, j + 1, h => by
    have h1 := h b (by simp)
    have h2 := bv_drop_le l j (fun c hc => h c (by simp [hc]))
    have h3 := bv_nonneg (l := l) (fun c hc => h c (by simp [hc]))
    simp only [List.drop_succ_cons, bv]; omega
def flrQ (s : Bool) (m C : Nat) : Nat := if s = true ∧ m % C ≠ 0 then m / C + 1 else m / C
set_option maxRecDepth 20000 in
theorem c_floor (e K : Nat) (hK : e + 2 ≤ 16 * K) (hK6 : K ≤ 600) (s : Bool) (m C : Nat) (hC : 0 < C) (hm : m < 2 ^ e) (hC2 : C < 2 ^ e) : ACalls seat 91 [nv s m, lv (dig C)] [] (fun x _ => x = .ret (nv (s && decide (flrQ s m C ≠ 0)) (flrQ s m C))) := by
  refine ACalls.body seat_ok Tryd.func91 rfl rfl ?_
  unfold nv
  have h200 := pow_room hK
  have dl13 : ∀ {n : Nat}, n < 65536 ^ K → (dig n).length ≤ K := fun h => dig_length_lt h
  have l1 : lv (dig 1) = .vec [.int .i64 1] 1 none := rfl
  conv => whnf
  refine Sat.nilTok 5 3 1 rfl ?_
  refine Sat.cut (fun x t h => x = .exit 0 ∧ ∃ o : List Int, (∀ b ∈ o, 0 ≤ b ∧ b ≤ 1) ∧ o.length ≤ 10000 ∧ bv o = m ∧ t = (uu::lv (dig C)::.ptr 0 0::uu::.ptr 1 0::.vec (ci .i64 o) o.length (some 2)::uu::uu::uu::uu::uu::uu::uu::uu::uu::uu::uu::uu::uu::uu::uu::uu::uu::uu::uu::uu::uu::uu::uu::uu::uu::uu::uu::uu::uu::uu::uu::uu::uu::uu::uu::uu::uu::uu::uu::uu::uu::uu::uu::uu::uu::uu::uu::uu::uu::uu::uu::uu::uu::uu::uu::uu::uu::uu::uu::uu::uu::uu::uu::uu::uu::uu::uu::uu::uu::uu::uu::[]) ∧
      h = [.var [.bool s, lv (dig m)] 123, .var [.bool false, .nils] 123, .tok o.length 3 1]) ?_ ?_
  · refine Sat.invP seat_ok seat_g (maskOf 77 [1, 2, 4, 5, 6]) 3 (fun μ t h => ∃ (d : Nat) (o : List Int), (∀ b ∈ o, 0 ≤ b ∧ b ≤ 1) ∧ (m : Int) = bv o + 2 ^ o.length * d ∧ d ≤ m ∧ o.length ≤ e ∧ μ = d ∧
      t = (uu::lv (dig C)::.ptr 0 0::uu::.ptr 1 0::.vec (ci .i64 o) o.length (some 2)::lv (dig d)::uu::uu::uu::uu::uu::uu::uu::uu::uu::uu::uu::uu::uu::uu::uu::uu::uu::uu::uu::uu::uu::uu::uu::uu::uu::uu::uu::uu::uu::uu::uu::uu::uu::uu::uu::uu::uu::uu::uu::uu::uu::uu::uu::uu::uu::uu::uu::uu::uu::uu::uu::uu::uu::uu::uu::uu::uu::uu::uu::uu::uu::uu::uu::uu::uu::uu::uu::uu::uu::uu::[]) ∧ h = [.var [.bool s, lv (dig m)] 123, .var [.bool false, .nils] 123, .tok o.length 3 1])
      ?_ ⟨_, _, WeakL.of_eq rfl, m, [], by simp, by simp [bv], Nat.le_refl _, by simp, rfl, rfl, rfl⟩ ?_
    · rintro _ _ _ ⟨d, o, -, -, -, -, rfl, rfl, rfl⟩
      exact ⟨rfl, (by simp [IdsL, Ids, IdsH, IdsC, lv_ids, ci_ids]), (by simp [IdsL, Ids, IdsH, IdsC, lv_ids, ci_ids])⟩
    rintro d _ _ ⟨_, o, ho, hv, hdm, hol, rfl, rfl, rfl⟩
    have hb0 := bv_nonneg ho
    have hle : d ≠ 0 → o.length < e := fun hd => by
      apply Nat.lt_of_not_le; intro h
      have h1 : (2 : Nat) ^ e ≤ 2 ^ o.length := Nat.pow_le_pow_right (by decide) h
      have h2 : 2 ^ o.length * 1 ≤ 2 ^ o.length * d := Nat.mul_le_mul_left _ (by omega)
      have h3 : ((2 ^ o.length * d : Nat) : Int) = 2 ^ o.length * (d : Int) := by simp
      omega
    by_cases g : d = 0
    · subst g
      have hlen : o.length ≤ 10000 := by omega
      conv => whnf
      repeat' ((first | refine zs (by omega) ?_ | refine zq6 ?_ | refine zs (by dsimp only; omega) ?_ | refine Req.mk ⟨rfl, rfl, rfl, by simp [ci_length, *], rfl, by simp [okCell], by dsimp only; omega, by omega, by decide⟩ ?_ | refine zs (show pendP _ _ by repeat' constructor) ?_ | (with_reducible first | refine brT ‹_› ?_ | refine brF ‹_› ?_ | refine zt (by omega) ?_ | refine zf (by omega) ?_ | refine brNot ?_)); conv => whnf)
      exact ⟨_, keepT_weak (maskOf 77 [1, 2, 4, 5]) _, rfl, o, ho, hlen, by rw [hv]; simp, rfl, rfl⟩
    · have hlt := hle g
      have ch := c_half d (Nat.le_trans (dl13 (by omega)) (by omega))
      have hdl : 0 < (dig d).length := by
        apply Nat.pos_of_ne_zero; intro h
        exact g (dig_nil.1 (List.length_eq_zero_iff.1 h))
      have hv2 : (m : Int) = bv (o ++ [((d % 2 : Nat) : Int)]) + 2 ^ (o ++ [((d % 2 : Nat) : Int)]).length * ((d / 2 : Nat) : Int) := by
        rw [bv_snoc, hv]
        simp only [List.length_append, List.length_singleton, Int.pow_succ]
        rw [Int.add_assoc, Int.mul_assoc, ← Int.mul_add]
        congr 2; omega
      have ho2 : ∀ b ∈ o ++ [((d % 2 : Nat) : Int)], 0 ≤ b ∧ b ≤ 1 := fun b hb => by
        rcases List.mem_append.1 hb with hb | hb
        · exact ho b hb
        · simp only [List.mem_singleton] at hb; omega
      have hlt2 : d / 2 < d := by omega
      have hle2 : d / 2 ≤ m := by omega
      have hsn := ci_snoc .i64 o ((d % 2 : Nat) : Int) (some 2)
      have hll : (o ++ [((d % 2 : Nat) : Int)]).length = o.length + 1 := by simp
      generalize ((d % 2 : Nat) : Int) = b at *
      generalize d / 2 = d2 at *
      conv => whnf
      repeat' ((first | refine zs (by omega) ?_ | refine zq6 ?_ | refine zs (by dsimp only; omega) ?_ | refine Req.mk ⟨rfl, rfl, rfl, by simp [ci_length, *], rfl, by simp [okCell], by dsimp only; omega, by omega, by decide⟩ ?_ | refine zs (show pendP _ _ by repeat' constructor) ?_ | (with_reducible first | refine brT ‹_› ?_ | refine brF ‹_› ?_ | refine zt (by omega) ?_ | refine zf (by omega) ?_ | refine brNot ?_)); conv => whnf)
      refine CallH.lift seat_g ch ⟨lv_closed _, trivial⟩ ⟨lv_closed _, by simp [Closed], trivial⟩ ?_
      conv => whnf
      repeat' ((first | refine zs (by omega) ?_ | refine zq6 ?_ | refine zs (by dsimp only; omega) ?_ | refine Req.mk ⟨rfl, rfl, rfl, by simp [ci_length, *], rfl, by simp [okCell], by dsimp only; omega, by omega, by decide⟩ ?_ | refine zs (show pendP _ _ by repeat' constructor) ?_ | (with_reducible first | refine brT ‹_› ?_ | refine brF ‹_› ?_ | refine zt (by omega) ?_ | refine zf (by omega) ?_ | refine brNot ?_)); conv => whnf)
      refine ⟨_, _, hlt2, WeakL.of_eq rfl, d2, o ++ [b], ho2, hv2, hle2, by rw [hll]; omega, rfl, ?_, ?_⟩
      · rw [← hsn]; rfl
      · rw [hll]; rfl
  · rintro _ _ _ ⟨rfl, o, ho, hol, hbv, rfl, rfl⟩
    conv => whnf
    repeat' ((first | refine zs (by omega) ?_ | refine zq6 ?_ | refine zs (by dsimp only; omega) ?_ | refine Req.mk ⟨rfl, rfl, rfl, by simp [ci_length, *], rfl, by simp [okCell], by dsimp only; omega, by omega, by decide⟩ ?_ | refine zs (show pendP _ _ by repeat' constructor) ?_ | (with_reducible first | refine brT ‹_› ?_ | refine brF ‹_› ?_ | refine zt (by omega) ?_ | refine zf (by omega) ?_ | refine brNot ?_)); conv => whnf)
    refine Sat.cut (fun x t h => x = .exit 2 ∧ t = (uu::uu::.ptr 0 0::uu::.ptr 1 0::uu::uu::uu::uu::lv (dig (m / C))::lv (dig (m % C))::uu::uu::uu::uu::uu::uu::uu::uu::uu::uu::uu::uu::uu::uu::uu::uu::uu::uu::uu::uu::uu::uu::uu::uu::uu::uu::uu::uu::uu::uu::uu::uu::uu::uu::uu::uu::uu::uu::uu::uu::uu::uu::uu::uu::uu::uu::uu::uu::uu::uu::uu::uu::uu::uu::uu::uu::uu::uu::uu::uu::uu::uu::uu::uu::uu::uu::[]) ∧ h = [.var [.bool s, lv (dig m)] 123, .var [.bool false, .nils] 123, .tok o.length 3 1]) ?_ ?_
    · refine Sat.invP seat_ok seat_g (maskOf 77 [1, 2, 4, 5, 9, 10, 11]) 3 (fun μ t h => ∃ (j M : Nat), j ≤ o.length ∧ (M : Int) = bv (o.drop j) ∧ μ = j ∧
        t = (uu::lv (dig C)::.ptr 0 0::uu::.ptr 1 0::.vec (ci .i64 o) o.length (some 2)::uu::uu::uu::lv (dig (M / C))::lv (dig (M % C))::.int .i64 ((j : Int) - 1)::uu::uu::uu::uu::uu::uu::uu::uu::uu::uu::uu::uu::uu::uu::uu::uu::uu::uu::uu::uu::uu::uu::uu::uu::uu::uu::uu::uu::uu::uu::uu::uu::uu::uu::uu::uu::uu::uu::uu::uu::uu::uu::uu::uu::uu::uu::uu::uu::uu::uu::uu::uu::uu::uu::uu::uu::uu::uu::uu::uu::uu::uu::uu::uu::uu::[]) ∧ h = [.var [.bool s, lv (dig m)] 123, .var [.bool false, .nils] 123, .tok o.length 3 1])
        ?_ ⟨o.length, _, WeakL.trans (WeakL.setAt 9 rfl lv_nils) (WeakL.setAt 10 rfl lv_nils), o.length, 0, Nat.le_refl _, by simp [bv], rfl, by rw [Nat.zero_div, Nat.zero_mod]; rfl, rfl⟩ ?_
      · rintro _ _ _ ⟨j, M, -, -, rfl, rfl, rfl⟩
        exact ⟨rfl, (by simp [IdsL, Ids, IdsH, IdsC, lv_ids, ci_ids]), (by simp [IdsL, Ids, IdsH, IdsC, lv_ids, ci_ids])⟩
      rintro j _ _ ⟨_, M, hj, hM, rfl, rfl, rfl⟩
      have hMle : M ≤ m := by have := bv_drop_le o j ho; omega
      cases j with
      | zero =>
        have : M = m := by simp at hM; omega
        subst this
        conv => whnf
        repeat' ((first | refine zs (by omega) ?_ | refine zq6 ?_ | refine zs (by dsimp only; omega) ?_ | refine Req.mk ⟨rfl, rfl, rfl, by simp [ci_length, *], rfl, by simp [okCell], by dsimp only; omega, by omega, by decide⟩ ?_ | refine zs (show pendP _ _ by repeat' constructor) ?_ | (with_reducible first | refine brT ‹_› ?_ | refine brF ‹_› ?_ | refine zt (by omega) ?_ | refine zf (by omega) ?_ | refine brNot ?_)); conv => whnf)
        exact ⟨_, keepT_weak (maskOf 77 [2, 4, 9, 10]) _, rfl, rfl, rfl⟩
      | succ j =>
      obtain ⟨b, hb⟩ : ∃ b, o[j]? = some b := ⟨_, List.getElem?_eq_getElem (by omega)⟩
      have hbb := ho b (List.mem_of_getElem? hb)
      have hdr := drop_cons' hb
      have hMq : M = C * (M / C) + M % C := (Nat.div_add_mod M C).symm
      have hrl : M % C < C := Nat.mod_lt _ hC
      have hql : M / C ≤ M := Nat.div_le_self _ _
      generalize M / C = q at *
      generalize M % C = r at *
      have ej : ((j + 1 : Nat) : Int) - 1 = j := by omega
      rw [ej]
      have pq := c_plusN q q (Nat.le_trans (dl13 (by omega)) (by omega)) (Nat.le_trans (dl13 (by omega)) (by omega))
      have pr := c_plusN r r (Nat.le_trans (dl13 (by omega)) (by omega)) (Nat.le_trans (dl13 (by omega)) (by omega))
      have pq1 := c_plusN (q + q) 1 (Nat.le_trans (dl13 (by omega)) (by omega)) (by decide)
      rw [l1] at pq1
      obtain hbit | hbit : b = 0 ∨ b = 1 := by omega
      · subst hbit
        have er : r + r + 0 < 65536 ^ K := by omega
        have pl := c_lessN (r + r + 0) C (Nat.le_trans (dl13 er) (by omega)) (Nat.le_trans (dl13 (by omega)) (by omega))
        rw [Nat.add_zero] at pl er
        by_cases g2 : r + r < C
        · have e1 : (2 * M + 0) / C = q + q := by
            rw [hMq, show 2 * (C * q + r) + 0 = r + r + C * (q + q) by rw [Nat.mul_add C q q]; omega, Nat.add_mul_div_left _ _ hC, Nat.div_eq_of_lt g2, Nat.zero_add]
          have e2 : (2 * M + 0) % C = r + r := by
            rw [hMq, show 2 * (C * q + r) + 0 = r + r + C * (q + q) by rw [Nat.mul_add C q q]; omega, Nat.add_mul_mod_self_left, Nat.mod_eq_of_lt g2]
          rw [decide_eq_true g2] at pl
          conv => whnf
          repeat' ((first | refine zs (by omega) ?_ | refine zq6 ?_ | refine zs (by dsimp only; omega) ?_ | refine Req.mk ⟨rfl, rfl, rfl, by simp [ci_length, *], rfl, by simp [okCell], by dsimp only; omega, by omega, by decide⟩ ?_ | refine zs (show pendP _ _ by repeat' constructor) ?_ | (with_reducible first | refine brT ‹_› ?_ | refine brF ‹_› ?_ | refine zt (by omega) ?_ | refine zf (by omega) ?_ | refine brNot ?_)); conv => whnf)
          repeat' (first | (refine CallH.lift seat_g pq ⟨lv_closed _, lv_closed _, trivial⟩ (by first | exact lv_closed _ | simp [Closed]) ?_; conv => whnf) | (refine CallH.lift seat_g pr ⟨lv_closed _, lv_closed _, trivial⟩ (by first | exact lv_closed _ | simp [Closed]) ?_; conv => whnf) | (refine CallH.lift seat_g pl ⟨lv_closed _, lv_closed _, trivial⟩ (by first | exact lv_closed _ | simp [Closed]) ?_; conv => whnf) | (refine ldI _ (ci_sub .i64 hb) ?_; conv => whnf) | ((first | refine zs (by omega) ?_ | refine zq6 ?_ | refine zs (by dsimp only; omega) ?_ | refine Req.mk ⟨rfl, rfl, rfl, by simp [ci_length, *], rfl, by simp [okCell], by dsimp only; omega, by omega, by decide⟩ ?_ | refine zs (show pendP _ _ by repeat' constructor) ?_ | (with_reducible first | refine brT ‹_› ?_ | refine brF ‹_› ?_ | refine zt (by omega) ?_ | refine zf (by omega) ?_ | refine brNot ?_)); conv => whnf))
          exact ⟨_, _, Nat.lt_succ_self j, WeakL.of_eq rfl, j, 2 * M + 0, by omega, by rw [hdr]; simp only [bv]; omega, rfl, by rw [e1, e2]; rfl, rfl⟩
        · have e1 : (2 * M + 0) / C = q + q + 1 := by
            rw [hMq, show 2 * (C * q + r) + 0 = (r + r - C) + C * (q + q + 1) by rw [Nat.mul_add C (q + q) 1, Nat.mul_add C q q]; omega, Nat.add_mul_div_left _ _ hC, Nat.div_eq_of_lt (by omega), Nat.zero_add]
          have e2 : (2 * M + 0) % C = r + r - C := by
            rw [hMq, show 2 * (C * q + r) + 0 = (r + r - C) + C * (q + q + 1) by rw [Nat.mul_add C (q + q) 1, Nat.mul_add C q q]; omega, Nat.add_mul_mod_self_left, Nat.mod_eq_of_lt (by omega)]
          rw [decide_eq_false g2] at pl
          have pm := c_minusN (r + r) C (by omega) (Nat.le_trans (dl13 er) (by omega)) (Nat.le_trans (dl13 (by omega)) (by omega))
          conv => whnf
          repeat' ((first | refine zs (by omega) ?_ | refine zq6 ?_ | refine zs (by dsimp only; omega) ?_ | refine Req.mk ⟨rfl, rfl, rfl, by simp [ci_length, *], rfl, by simp [okCell], by dsimp only; omega, by omega, by decide⟩ ?_ | refine zs (show pendP _ _ by repeat' constructor) ?_ | (with_reducible first | refine brT ‹_› ?_ | refine brF ‹_› ?_ | refine zt (by omega) ?_ | refine zf (by omega) ?_ | refine brNot ?_)); conv => whnf)
          repeat' (first | (refine CallH.lift seat_g pq ⟨lv_closed _, lv_closed _, trivial⟩ (by first | exact lv_closed _ | simp [Closed]) ?_; conv => whnf) | (refine CallH.lift seat_g pr ⟨lv_closed _, lv_closed _, trivial⟩ (by first | exact lv_closed _ | simp [Closed]) ?_; conv => whnf) | (refine CallH.lift seat_g pl ⟨lv_closed _, lv_closed _, trivial⟩ (by first | exact lv_closed _ | simp [Closed]) ?_; conv => whnf) | (refine CallH.lift seat_g pm ⟨lv_closed _, lv_closed _, trivial⟩ (by first | exact lv_closed _ | simp [Closed]) ?_; conv => whnf) | (refine CallH.weakA (WeakL.cons (Weak.refl _) (WeakL.cons Weak.tok WeakL.nil)) ?_; refine CallH.lift seat_g pq1 ⟨lv_closed _, by simp [Closed, ClosedL], trivial⟩ (lv_closed _) ?_; conv => whnf) | (refine ldI _ (ci_sub .i64 hb) ?_; conv => whnf) | ((first | refine zs (by omega) ?_ | refine zq6 ?_ | refine zs (by dsimp only; omega) ?_ | refine Req.mk ⟨rfl, rfl, rfl, by simp [ci_length, *], rfl, by simp [okCell], by dsimp only; omega, by omega, by decide⟩ ?_ | refine zs (show pendP _ _ by repeat' constructor) ?_ | (with_reducible first | refine brT ‹_› ?_ | refine brF ‹_› ?_ | refine zt (by omega) ?_ | refine zf (by omega) ?_ | refine brNot ?_)); conv => whnf))
          exact ⟨_, _, Nat.lt_succ_self j, WeakL.of_eq rfl, j, 2 * M + 0, by omega, by rw [hdr]; simp only [bv]; omega, rfl, by rw [e1, e2]; rfl, rfl⟩
      · subst hbit
        have er : r + r + 1 < 65536 ^ K := by omega
        have pl := c_lessN (r + r + 1) C (Nat.le_trans (dl13 er) (by omega)) (Nat.le_trans (dl13 (by omega)) (by omega))
        have pr1 := c_plusN (r + r) 1 (Nat.le_trans (dl13 (by omega)) (by omega)) (by decide)
        rw [l1] at pr1
        by_cases g2 : r + r + 1 < C
        · have e1 : (2 * M + 1) / C = q + q := by
            rw [hMq, show 2 * (C * q + r) + 1 = r + r + 1 + C * (q + q) by rw [Nat.mul_add C q q]; omega, Nat.add_mul_div_left _ _ hC, Nat.div_eq_of_lt g2, Nat.zero_add]
          have e2 : (2 * M + 1) % C = r + r + 1 := by
            rw [hMq, show 2 * (C * q + r) + 1 = r + r + 1 + C * (q + q) by rw [Nat.mul_add C q q]; omega, Nat.add_mul_mod_self_left, Nat.mod_eq_of_lt g2]
          rw [decide_eq_true g2] at pl
          conv => whnf
          repeat' ((first | refine zs (by omega) ?_ | refine zq6 ?_ | refine zs (by dsimp only; omega) ?_ | refine Req.mk ⟨rfl, rfl, rfl, by simp [ci_length, *], rfl, by simp [okCell], by dsimp only; omega, by omega, by decide⟩ ?_ | refine zs (show pendP _ _ by repeat' constructor) ?_ | (with_reducible first | refine brT ‹_› ?_ | refine brF ‹_› ?_ | refine zt (by omega) ?_ | refine zf (by omega) ?_ | refine brNot ?_)); conv => whnf)
          repeat' (first | (refine CallH.lift seat_g pq ⟨lv_closed _, lv_closed _, trivial⟩ (by first | exact lv_closed _ | simp [Closed]) ?_; conv => whnf) | (refine CallH.lift seat_g pr ⟨lv_closed _, lv_closed _, trivial⟩ (by first | exact lv_closed _ | simp [Closed]) ?_; conv => whnf) | (refine CallH.weakA (WeakL.cons (Weak.refl _) (WeakL.cons Weak.tok WeakL.nil)) ?_; refine CallH.lift seat_g pr1 ⟨lv_closed _, by simp [Closed, ClosedL], trivial⟩ (lv_closed _) ?_; conv => whnf) | (refine CallH.lift seat_g pl ⟨lv_closed _, lv_closed _, trivial⟩ (by first | exact lv_closed _ | simp [Closed]) ?_; conv => whnf) | (refine ldI _ (ci_sub .i64 hb) ?_; conv => whnf) | ((first | refine zs (by omega) ?_ | refine zq6 ?_ | refine zs (by dsimp only; omega) ?_ | refine Req.mk ⟨rfl, rfl, rfl, by simp [ci_length, *], rfl, by simp [okCell], by dsimp only; omega, by omega, by decide⟩ ?_ | refine zs (show pendP _ _ by repeat' constructor) ?_ | (with_reducible first | refine brT ‹_› ?_ | refine brF ‹_› ?_ | refine zt (by omega) ?_ | refine zf (by omega) ?_ | refine brNot ?_)); conv => whnf))
          exact ⟨_, _, Nat.lt_succ_self j, WeakL.of_eq rfl, j, 2 * M + 1, by omega, by rw [hdr]; simp only [bv]; omega, rfl, by rw [e1, e2]; rfl, rfl⟩
        · have e1 : (2 * M + 1) / C = q + q + 1 := by
            rw [hMq, show 2 * (C * q + r) + 1 = (r + r + 1 - C) + C * (q + q + 1) by rw [Nat.mul_add C (q + q) 1, Nat.mul_add C q q]; omega, Nat.add_mul_div_left _ _ hC, Nat.div_eq_of_lt (by omega), Nat.zero_add]
          have e2 : (2 * M + 1) % C = r + r + 1 - C := by
            rw [hMq, show 2 * (C * q + r) + 1 = (r + r + 1 - C) + C * (q + q + 1) by rw [Nat.mul_add C (q + q) 1, Nat.mul_add C q q]; omega, Nat.add_mul_mod_self_left, Nat.mod_eq_of_lt (by omega)]
          rw [decide_eq_false g2] at pl
          have pm := c_minusN (r + r + 1) C (by omega) (Nat.le_trans (dl13 er) (by omega)) (Nat.le_trans (dl13 (by omega)) (by omega))
          conv => whnf
          repeat' ((first | refine zs (by omega) ?_ | refine zq6 ?_ | refine zs (by dsimp only; omega) ?_ | refine Req.mk ⟨rfl, rfl, rfl, by simp [ci_length, *], rfl, by simp [okCell], by dsimp only; omega, by omega, by decide⟩ ?_ | refine zs (show pendP _ _ by repeat' constructor) ?_ | (with_reducible first | refine brT ‹_› ?_ | refine brF ‹_› ?_ | refine zt (by omega) ?_ | refine zf (by omega) ?_ | refine brNot ?_)); conv => whnf)
          repeat' (first | (refine CallH.lift seat_g pq ⟨lv_closed _, lv_closed _, trivial⟩ (by first | exact lv_closed _ | simp [Closed]) ?_; conv => whnf) | (refine CallH.lift seat_g pr ⟨lv_closed _, lv_closed _, trivial⟩ (by first | exact lv_closed _ | simp [Closed]) ?_; conv => whnf) | (refine CallH.weakA (WeakL.cons (Weak.refl _) (WeakL.cons Weak.tok WeakL.nil)) ?_; refine CallH.lift seat_g pr1 ⟨lv_closed _, by simp [Closed, ClosedL], trivial⟩ (lv_closed _) ?_; conv => whnf) | (refine CallH.lift seat_g pl ⟨lv_closed _, lv_closed _, trivial⟩ (by first | exact lv_closed _ | simp [Closed]) ?_; conv => whnf) | (refine CallH.lift seat_g pm ⟨lv_closed _, lv_closed _, trivial⟩ (by first | exact lv_closed _ | simp [Closed]) ?_; conv => whnf) | (refine CallH.weakA (WeakL.cons (Weak.refl _) (WeakL.cons Weak.tok WeakL.nil)) ?_; refine CallH.lift seat_g pq1 ⟨lv_closed _, by simp [Closed, ClosedL], trivial⟩ (lv_closed _) ?_; conv => whnf) | (refine ldI _ (ci_sub .i64 hb) ?_; conv => whnf) | ((first | refine zs (by omega) ?_ | refine zq6 ?_ | refine zs (by dsimp only; omega) ?_ | refine Req.mk ⟨rfl, rfl, rfl, by simp [ci_length, *], rfl, by simp [okCell], by dsimp only; omega, by omega, by decide⟩ ?_ | refine zs (show pendP _ _ by repeat' constructor) ?_ | (with_reducible first | refine brT ‹_› ?_ | refine brF ‹_› ?_ | refine zt (by omega) ?_ | refine zf (by omega) ?_ | refine brNot ?_)); conv => whnf))
          exact ⟨_, _, Nat.lt_succ_self j, WeakL.of_eq rfl, j, 2 * M + 1, by omega, by rw [hdr]; simp only [bv]; omega, rfl, by rw [e1, e2]; rfl, rfl⟩
    · rintro _ _ _ ⟨rfl, rfl, rfl⟩
      have hz : ∀ x, (dig x).length = 0 ↔ x = 0 := fun x => by rw [List.length_eq_zero_iff]; exact dig_nil
      have hql : m / C ≤ m := Nat.div_le_self _ _
      cases s with
      | false =>
        have ef : flrQ false m C = m / C := if_neg (by simp)
        rw [ef]
        conv => whnf
        rfl
      | true =>
        by_cases g : m % C = 0
        · have ef : flrQ true m C = m / C := if_neg (by simp [g])
          rw [ef]
          have h1 := (hz (m % C)).2 g
          have hd : decide (m / C ≠ 0) = decide ((((dig (m / C)).length : Nat) : Int) > 0) := decide_eq_decide.2 (by have := hz (m / C); omega)
          rw [hd]
          conv => whnf
          repeat' ((first | refine zs (by omega) ?_ | refine zq6 ?_ | refine zs (by dsimp only; omega) ?_ | refine Req.mk ⟨rfl, rfl, rfl, by simp [ci_length, *], rfl, by simp [okCell], by dsimp only; omega, by omega, by decide⟩ ?_ | refine zs (show pendP _ _ by repeat' constructor) ?_ | (with_reducible first | refine brT ‹_› ?_ | refine brF ‹_› ?_ | refine zt (by omega) ?_ | refine zf (by omega) ?_ | refine brNot ?_)); conv => whnf)
          rfl
        · have ef : flrQ true m C = m / C + 1 := if_pos ⟨rfl, g⟩
          rw [ef]
          have h1 : 0 < (dig (m % C)).length := Nat.pos_of_ne_zero fun h => g ((hz _).1 h)
          have pq1 := c_plusN (m / C) 1 (Nat.le_trans (dl13 (by omega)) (by omega)) (by decide)
          rw [l1] at pq1
          have hd : decide (m / C + 1 ≠ 0) = decide ((((dig (m / C + 1)).length : Nat) : Int) > 0) := decide_eq_decide.2 (by have := hz (m / C + 1); omega)
          rw [hd]
          generalize m / C = q at *
          generalize m % C = r at *
          conv => whnf
          repeat' ((first | refine zs (by omega) ?_ | refine zq6 ?_ | refine zs (by dsimp only; omega) ?_ | refine Req.mk ⟨rfl, rfl, rfl, by simp [ci_length, *], rfl, by simp [okCell], by dsimp only; omega, by omega, by decide⟩ ?_ | refine zs (show pendP _ _ by repeat' constructor) ?_ | (with_reducible first | refine brT ‹_› ?_ | refine brF ‹_› ?_ | refine zt (by omega) ?_ | refine zf (by omega) ?_ | refine brNot ?_)); conv => whnf)
          refine CallH.weakA (WeakL.cons (Weak.refl _) (WeakL.cons Weak.tok WeakL.nil)) ?_
          refine CallH.lift seat_g pq1 ⟨lv_closed _, by simp [Closed, ClosedL], trivial⟩ (lv_closed _) ?_
          conv => whnf
          rfl
def nearM (s : Bool) (m C : Nat) : Bool × Nat := (addS s (2 * m) false C && decide (flrQ (addS s (2 * m) false C) (addM s (2 * m) false C) (2 * C) ≠ 0), flrQ (addS s (2 * m) false C) (addM s (2 * m) false C) (2 * C))
theorem sg_add (s1 s2 : Bool) (m n : Nat) : sg (addS s1 m s2 n) (addM s1 m s2 n) = sg s1 m + sg s2 n := by
  unfold addS addM
  by_cases h : m < n
  · cases s1 <;> cases s2 <;> simp [sg, h] <;> omega
  · cases s1 <;> cases s2 <;> simp [sg, h] <;> omega
theorem flrQ_spec (s : Bool) (m C : Nat) (hC : 0 < C) : sg s (flrQ s m C) = sg s m / (C : Int) := by
  unfold flrQ
  cases s with
  | false => simp [sg]
  | true =>
    simp only [sg, true_and, if_true]
    have h1 := Nat.div_add_mod m C
    have h2 := Nat.mod_lt m hC
    split
    · rename_i g
      symm
      have : -(m : Int) = ((C - m % C : Nat) : Int) + C * (-((m / C + 1 : Nat) : Int)) := by
        have e1 : ((C - m % C : Nat) : Int) = (C : Int) - ((m % C : Nat) : Int) := Int.ofNat_sub (Nat.le_of_lt h2)
        have e2 : (m : Int) = C * ((m / C : Nat) : Int) + ((m % C : Nat) : Int) := by exact_mod_cast h1.symm
        rw [e1, Int.mul_neg]
        have e3 : (C : Int) * ((m / C + 1 : Nat) : Int) = C * ((m / C : Nat) : Int) + C := by rw [Int.natCast_add, Int.mul_add]; simp
        rw [e3]; omega
      rw [this, Int.add_mul_ediv_left _ _ (by omega), Int.ediv_eq_zero_of_lt (by omega) (by omega)]
      simp
    · rename_i g
      have g : m % C = 0 := by simpa using g
      have e2 : (m : Int) = C * ((m / C : Nat) : Int) := by
        have : m = C * (m / C) := by omega
        exact_mod_cast this
      symm
      rw [show -(m : Int) = C * (-((m / C : Nat) : Int)) by rw [Int.mul_neg]; omega, Int.mul_ediv_cancel_left _ (by omega)]
theorem nearM_spec (s : Bool) (m C : Nat) (hC : 0 < C) : sg (nearM s m C).1 (nearM s m C).2 = (2 * sg s m + C) / (2 * (C : Int)) := by
  have h1 := sg_add s false (2 * m) C
  unfold nearM
  simp only
  generalize addS s (2 * m) false C = u at *
  generalize addM s (2 * m) false C = v at *
  have h2 := flrQ_spec u v (2 * C) (by omega)
  have h3 : sg s (2 * m) = 2 * sg s m := by
    cases s
    · simp [sg]
    · simp [sg]; omega
  have h4 : sg false C = (C : Int) := by simp [sg]
  rw [h1, h3, h4] at h2
  have h5 : ((2 * C : Nat) : Int) = 2 * (C : Int) := by simp
  rw [h5] at h2
  rw [← h2]
  generalize flrQ u v (2 * C) = f
  cases u <;> simp [sg]
  intro h; simp [h]
set_option maxRecDepth 20000 in
theorem c_near01 (e K : Nat) (hK : e + 10 ≤ 16 * K) (hK6 : K ≤ 600) (s : Bool) (m C : Nat) (hC : 0 < C) (hm : m < 2 ^ e) (hC2 : C < 2 ^ e) : ACalls seat 83 [nv s m, nv false C] [] (fun x _ => x = .ret (nv (nearM s m C).1 (nearM s m C).2)) := by
  refine ACalls.body seat_ok Tryd.func83 rfl rfl ?_
  have h198 : (2 : Nat) ^ (e + 8) = 256 * 2 ^ e := by rw [Nat.pow_add]; omega
  have h200 := pow_room (e := e + 8) (K := K) (by omega)
  have dl : ∀ x, x < 2 ^ (e + 8) → (dig x).length ≤ 100000 := fun x hx => Nat.le_trans (dig_length_lt (k := K) (by omega)) (by omega)
  have a1 := c_add s s m m (dl _ (by omega)) (dl _ (by omega))
  rw [show addS s m s m = s from if_pos rfl, show addM s m s m = 2 * m from (if_pos rfl).trans (by omega)] at a1
  have a2 := c_add s false (2 * m) C (dl _ (by omega)) (dl _ (by omega))
  have p1 := c_plusN C C (dl _ (by omega)) (dl _ (by omega))
  rw [show C + C = 2 * C by omega] at p1
  have hv : addM s (2 * m) false C < 2 ^ (e + 8) := by unfold addM; split <;> (try split) <;> omega
  have f1 := c_floor (e + 8) K (by omega) hK6 (addS s (2 * m) false C) (addM s (2 * m) false C) (2 * C) (by omega) hv (by omega)
  unfold nearM
  simp only
  generalize addS s (2 * m) false C = u at *
  generalize addM s (2 * m) false C = v at *
  generalize flrQ u v (2 * C) = f at *
  generalize (u && decide (f ≠ 0)) = uu at *
  conv => whnf
  refine DrawH.plan seat_ok (.take 0 (.take 1 (.take 3 (.take 5 (.take 6 (.take 7 (.take 8 (.perform 2 none (.perform 4 none (.perform 9 none (.perform 10 none (.perform 11 none Plan.done)))))))))))) 0 (by kernel_rfl) ?_
  conv => whnf
  repeat' (first | exact rfl | (refine CallH.lift seat_g a1 ⟨nv_closed _ _, nv_closed _ _, trivial⟩ (nv_closed _ _) ?_; conv => whnf) | (refine CallH.lift seat_g a2 ⟨nv_closed _ _, nv_closed _ _, trivial⟩ (nv_closed _ _) ?_; conv => whnf) | (refine CallH.lift seat_g p1 ⟨lv_closed _, lv_closed _, trivial⟩ (lv_closed _) ?_; conv => whnf) | (refine CallH.lift seat_g f1 ⟨nv_closed _ _, lv_closed _, trivial⟩ (nv_closed _ _) ?_; conv => whnf) | ((first | refine zs (by omega) ?_ | refine zq6 ?_ | refine zs (by dsimp only; omega) ?_ | refine Req.mk ⟨rfl, rfl, rfl, by simp [ci_length, *], rfl, by simp [okCell], by dsimp only; omega, by omega, by decide⟩ ?_ | refine zs (show pendP _ _ by repeat' constructor) ?_ | (with_reducible first | refine brT ‹_› ?_ | refine brF ‹_› ?_ | refine zt (by omega) ?_ | refine zf (by omega) ?_ | refine brNot ?_)); conv => whnf) | (refine And.intro ?_ ?_ <;> (conv => whnf)))
theorem dv_drop (n : Nat) : ∀ (j : Nat), dv ((dig n).drop j) = ((n / 65536 ^ j : Nat) : Int) := by
  intro j
  induction j generalizing n with
  | zero => simp [dv_dig]
  | succ j ih =>
    by_cases h : n = 0
    · subst h; simp [dig_zero, dv]
    · rw [dig_pos h, List.drop_succ_cons, ih, Nat.pow_succ, Nat.mul_comm, Nat.div_div_eq_div_mul]
set_option maxRecDepth 20000 in
theorem c_plain01 (s : Bool) (m : Nat) (hm : m < 9223372036854775808) : ACalls seat 82 [nv s m] [] (fun x _ => x = .ret (.tup [.int .i64 (sg s m), .bool true])) := by
  refine ACalls.body seat_ok Tryd.func82 rfl rfl ?_
  unfold nv
  have hl : (dig m).length ≤ 4 := dig_length_lt (Nat.lt_of_lt_of_le hm (by decide))
  have hD := dig_Dg m
  have hdv := dv_drop m
  have hend := dv_dig m
  conv => whnf
  repeat' ((first | refine zs (by omega) ?_ | refine zq6 ?_ | refine zs (by dsimp only; omega) ?_ | refine Req.mk ⟨rfl, rfl, rfl, by simp [ci_length, *], rfl, by simp [okCell], by dsimp only; omega, by omega, by decide⟩ ?_ | refine zs (show pendP _ _ by repeat' constructor) ?_ | (with_reducible first | refine brT ‹_› ?_ | refine brF ‹_› ?_ | refine zt (by omega) ?_ | refine zf (by omega) ?_ | refine brNot ?_)); conv => whnf)
  refine Sat.cut (fun x t h => x = .exit 0 ∧ t = (uu::.ptr 0 0::uu::uu::.int .i64 (-(m : Int))::uu::uu::uu::uu::uu::uu::uu::uu::uu::uu::uu::uu::uu::uu::uu::uu::uu::uu::uu::uu::uu::uu::uu::uu::uu::uu::uu::uu::uu::uu::uu::uu::uu::uu::uu::uu::uu::uu::uu::[]) ∧ h = [.var [.bool s, lv (dig m)] 123]) ?_ ?_
  · refine Sat.invP seat_ok seat_g (maskOf 44 [1, 4, 5]) 1 (fun μ t h => ∃ j : Nat, j ≤ (dig m).length ∧ μ = j ∧ t = (uu::.ptr 0 0::uu::uu::.int .i64 (-dv ((dig m).drop j))::.int .i64 ((j : Int) - 1)::uu::uu::uu::uu::uu::uu::uu::uu::uu::uu::uu::uu::uu::uu::uu::uu::uu::uu::uu::uu::uu::uu::uu::uu::uu::uu::uu::uu::uu::uu::uu::uu::uu::uu::uu::uu::uu::uu::[]) ∧ h = [.var [.bool s, lv (dig m)] 123])
      ?_ ⟨(dig m).length, _, WeakL.of_eq ?_, _, Nat.le_refl _, rfl, rfl, rfl⟩ ?_
    · rintro _ _ _ ⟨j, -, -, rfl, rfl⟩
      exact ⟨rfl, (by simp [IdsL, Ids, IdsH, IdsC, lv_ids, ci_ids]), (by simp [IdsL, Ids, IdsH, IdsC, lv_ids, ci_ids])⟩
    · rw [List.drop_length]; rfl
    rintro j _ _ ⟨_, hj, rfl, rfl, rfl⟩
    cases j with
    | zero =>
      rw [List.drop_zero, hend]
      conv => whnf
      repeat' ((first | refine zs (by omega) ?_ | refine zq6 ?_ | refine zs (by dsimp only; omega) ?_ | refine Req.mk ⟨rfl, rfl, rfl, by simp [ci_length, *], rfl, by simp [okCell], by dsimp only; omega, by omega, by decide⟩ ?_ | refine zs (show pendP _ _ by repeat' constructor) ?_ | (with_reducible first | refine brT ‹_› ?_ | refine brF ‹_› ?_ | refine zt (by omega) ?_ | refine zf (by omega) ?_ | refine brNot ?_)); conv => whnf)
      exact ⟨_, keepT_weak (maskOf 44 [1, 4]) _, rfl, rfl, rfl⟩
    | succ j =>
      obtain ⟨x, hx⟩ : ∃ x, (dig m)[j]? = some x := ⟨_, List.getElem?_eq_getElem (by omega)⟩
      have hxb := hD x (List.mem_of_getElem? hx)
      have hdr := drop_cons' hx
      have h1 := hdv (j + 1)
      have h2 := hdv j
      rw [hdr] at h2
      simp only [dv] at h2
      have h3 : m / 65536 ^ j ≤ m := Nat.div_le_self _ _
      have hds : dv ((dig m).drop j) = x + 65536 * dv ((dig m).drop (j + 1)) := by rw [hdr]; rfl
      have hv0 : 0 ≤ dv ((dig m).drop (j + 1)) := by rw [h1]; exact Int.natCast_nonneg _
      generalize dv ((dig m).drop (j + 1)) = V at *
      have ej : ((j + 1 : Nat) : Int) - 1 = j := by omega
      rw [ej]
      have hnx : -V * 65536 - x = -(x + 65536 * V) := by omega
      conv => whnf
      repeat' ((first | refine zs (by omega) ?_ | refine zq6 ?_ | refine zs (by dsimp only; omega) ?_ | refine Req.mk ⟨rfl, rfl, rfl, by simp [ci_length, *], rfl, by simp [okCell], by dsimp only; omega, by omega, by decide⟩ ?_ | refine zs (show pendP _ _ by repeat' constructor) ?_ | (with_reducible first | refine brT ‹_› ?_ | refine brF ‹_› ?_ | refine zt (by omega) ?_ | refine zf (by omega) ?_ | refine brNot ?_)); conv => whnf)
      repeat' (first | (refine ldI _ (ci_sub .i64 hx) ?_; conv => whnf) | ((first | refine zs (by omega) ?_ | refine zq6 ?_ | refine zs (by dsimp only; omega) ?_ | refine Req.mk ⟨rfl, rfl, rfl, by simp [ci_length, *], rfl, by simp [okCell], by dsimp only; omega, by omega, by decide⟩ ?_ | refine zs (show pendP _ _ by repeat' constructor) ?_ | (with_reducible first | refine brT ‹_› ?_ | refine brF ‹_› ?_ | refine zt (by omega) ?_ | refine zf (by omega) ?_ | refine brNot ?_)); conv => whnf))
      exact ⟨_, _, Nat.lt_succ_self j, WeakL.of_eq (by rw [hds, ← hnx]; rfl), j, by omega, rfl, rfl, rfl⟩
  · rintro _ _ _ ⟨rfl, rfl, rfl⟩
    cases s with
    | true =>
      conv => whnf
      rfl
    | false =>
      rw [show sg false m = 0 - -(m : Int) by simp [sg]]
      conv => whnf
      repeat' ((first | refine zs (by omega) ?_ | refine zq6 ?_ | refine zs (by dsimp only; omega) ?_ | refine Req.mk ⟨rfl, rfl, rfl, by simp [ci_length, *], rfl, by simp [okCell], by dsimp only; omega, by omega, by decide⟩ ?_ | refine zs (show pendP _ _ by repeat' constructor) ?_ | (with_reducible first | refine brT ‹_› ?_ | refine brF ‹_› ?_ | refine zt (by omega) ?_ | refine zf (by omega) ?_ | refine brNot ?_)); conv => whnf)
      rfl
end Go.Proofs.YteicdddheaajlaaDoor
namespace Go.Proofs.YteicdddheaajlaaDoor
open Go.Abs
theorem fdiv_is {a b c : Int} (h : b = c) (hc : 0 < c) : a.fdiv b = a / c := by subst h; exact Int.fdiv_eq_ediv_of_nonneg a (by omega)
theorem and_u64 {n : Int} (h1 : 0 ≤ n) : IntKind.wrap .u64 ((BitVec.ofInt (IntKind.bits .u64) n &&& BitVec.ofInt (IntKind.bits .u64) 4294967295).toNat : Int) = n % 4294967296 := by
  show IntKind.wrap .u64 ((BitVec.ofInt 64 n &&& BitVec.ofInt 64 4294967295).toNat : Int) = _
  rw [and_low 32 (by decide) n 4294967295 4294967296 (by decide) (by decide)]
  exact wrap_u64 (by omega) (by omega)
theorem prod_bound {x y b : Int} (hx : 0 ≤ x ∧ x ≤ b) (hy : 0 ≤ y ∧ y ≤ b) : 0 ≤ x * y ∧ x * y ≤ b * b :=
  ⟨Int.mul_nonneg hx.1 hy.1, Int.mul_le_mul hx.2 hy.2 hy.1 (by omega)⟩
theorem c_mul64 (x y : Int) (hx : U64 x) (hy : U64 y) : ACalls seat 95 [.int .u64 x, .int .u64 y] [] (fun r _ => r = .ret (.tup [.int .u64 (x * y / 18446744073709551616), .int .u64 (x * y % 18446744073709551616)])) := by
  refine ACalls.body seat_ok Tryd.func95 rfl rfl ?_
  obtain ⟨x1, x2⟩ := hx
  obtain ⟨y1, y2⟩ := hy
  have e : x * y = 18446744073709551616 * (x / 4294967296 * (y / 4294967296)) + 4294967296 * (x / 4294967296 * (y % 4294967296) + x % 4294967296 * (y / 4294967296)) + x % 4294967296 * (y % 4294967296) := by
    have h1 := Int.mul_ediv_add_emod x 4294967296
    have h2 := Int.mul_ediv_add_emod y 4294967296
    generalize x / 4294967296 = a at *
    generalize x % 4294967296 = b at *
    generalize y / 4294967296 = c at *
    generalize y % 4294967296 = d at *
    subst h1 h2; grind
  have p00 := prod_bound (b := 4294967295) (x := x % 4294967296) (y := y % 4294967296) (by omega) (by omega)
  have p01 := prod_bound (b := 4294967295) (x := x % 4294967296) (y := y / 4294967296) (by omega) (by omega)
  have p10 := prod_bound (b := 4294967295) (x := x / 4294967296) (y := y % 4294967296) (by omega) (by omega)
  have p11 := prod_bound (b := 4294967295) (x := x / 4294967296) (y := y / 4294967296) (by omega) (by omega)
  rw [show (4294967295 : Int) * 4294967295 = 18446744065119617025 by decide] at p00 p01 p10 p11
  conv => whnf
  repeat' (first | (refine WrapH.is _ (and_u64 (by omega)) ?_; conv => whnf) | (refine NumH.is _ (fdiv_is (c := 4294967296) rfl (by decide)) ?_; conv => whnf) | ((first | refine zs (by omega) ?_ | refine zq6 ?_ | refine zs (by dsimp only; omega) ?_ | refine zs (show pendP _ _ by repeat' constructor) ?_ | (with_reducible first | refine brT ‹_› ?_ | refine brF ‹_› ?_ | refine zt (by omega) ?_ | refine zf (by omega) ?_ | refine brNot ?_)); conv => whnf))
  refine congrArg AEnd.ret (congrArg AV.tup (congrArg (fun v => [AV.int .u64 v, _]) ?_))
  generalize x / 4294967296 * (y / 4294967296) = q11 at *
  generalize x / 4294967296 * (y % 4294967296) = q10 at *
  generalize x % 4294967296 * (y / 4294967296) = q01 at *
  generalize x % 4294967296 * (y % 4294967296) = q00 at *
  omega
theorem or_add {a b : Nat} {k : Nat} (hb : b < 2 ^ k) : (2 ^ k * a) ||| b = 2 ^ k * a + b := (Nat.two_pow_add_eq_or_of_lt hb a).symm
theorem or_u64 {a b : Int} {k : Nat} (ha : 0 ≤ a) (hb : 0 ≤ b ∧ b < 2 ^ k) (hs : 2 ^ k * a + b < 18446744073709551616) : IntKind.wrap .u64 ((BitVec.ofInt (IntKind.bits .u64) (2 ^ k * a) ||| BitVec.ofInt (IntKind.bits .u64) b).toNat : Int) = 2 ^ k * a + b := by
  obtain ⟨x, rfl⟩ := Int.eq_ofNat_of_zero_le ha
  obtain ⟨y, rfl⟩ := Int.eq_ofNat_of_zero_le hb.1
  have hy : y < 2 ^ k := by have := hb.2; rw [show ((2 : Int) ^ k) = ((2 ^ k : Nat) : Int) by rw [Int.natCast_pow]; rfl] at this; exact Int.ofNat_lt.1 this
  have e1 : ((2 : Int) ^ k * (x : Int)) = ((2 ^ k * x : Nat) : Int) := by rw [Int.natCast_mul, Int.natCast_pow]; rfl
  have hlt : 2 ^ k * x + y < 18446744073709551616 := by rw [e1] at hs; omega
  show IntKind.wrap .u64 ((BitVec.ofInt 64 (2 ^ k * (x : Int)) ||| BitVec.ofInt 64 (y : Int)).toNat : Int) = _
  rw [e1, BitVec.ofInt_natCast, BitVec.ofInt_natCast, BitVec.toNat_or, BitVec.toNat_ofNat, BitVec.toNat_ofNat, Nat.mod_eq_of_lt (by omega), Nat.mod_eq_of_lt (by omega), or_add hy]
  exact wrap_u64 (by omega) (by omega)
theorem and_u64' {n : Int} : IntKind.wrap .u64 ((BitVec.ofInt (IntKind.bits .u64) n &&& BitVec.ofInt (IntKind.bits .u64) 4294967295).toNat : Int) = n % 4294967296 := by
  show IntKind.wrap .u64 ((BitVec.ofInt 64 n &&& BitVec.ofInt 64 4294967295).toNat : Int) = _
  rw [and_low 32 (by decide) n 4294967295 4294967296 (by decide) (by decide)]
  exact wrap_u64 (by omega) (by omega)
theorem wrap_u8 {n : Int} (h1 : 0 ≤ n) (h2 : n < 256) : IntKind.wrap .u8 n = n := by rw [wrap_u8m]; omega
set_option maxRecDepth 20000 in
theorem c_len17 : ACalls seat 100 [.int .u64 100000000000000000] [] (fun x _ => x = .ret (.int .i64 7)) := by
  refine ACalls.body seat_ok Tryd.func100 rfl rfl ?_
  conv => whnf
  refine CallH.body seat_ok Tryd.func101 rfl rfl ?_
  conv => whnf
  repeat' (first | exact rfl | (refine WrapH.is _ (wrap_u8 (by omega) (by omega)) ?_; conv => whnf) | (refine Req.mk ⟨by decide, by decide⟩ ?_; conv => whnf) | (refine ldI 1 rfl ?_; conv => whnf) | (refine WrapH.is (kd := .i64) (n := ((1 : UInt8).toNat : Int)) 1 rfl ?_; conv => whnf) | (refine NumH.is _ (fdiv_is (c := 4294967296) rfl (by decide)) ?_; conv => whnf) | (refine NumH.is _ (fdiv_is (c := 65536) rfl (by decide)) ?_; conv => whnf) | (refine NumH.is _ (fdiv_is (c := 256) rfl (by decide)) ?_; conv => whnf) | ((first | refine zs (by omega) ?_ | refine zq6 ?_ | refine zs (by dsimp only; omega) ?_ | refine zs (show pendP _ _ by repeat' constructor) ?_ | (with_reducible first | refine brT ‹_› ?_ | refine brF ‹_› ?_ | refine zt (by omega) ?_ | refine zf (by omega) ?_ | refine brNot ?_)); conv => whnf))
end Go.Proofs.YteicdddheaajlaaDoor
namespace Go.Proofs.YteicdddheaajlaaDoor
open Go.Abs
structure RS where
  below : Bool
  ds : List Int
  pt : Int
  seen : Bool
def dsF (ds : List Int) (c : Int) : List Int := if c ≠ 48 ∨ 0 < ds.length then ds ++ [c - 48] else ds
def ptF (seen : Bool) (ds : List Int) (pt : Int) : Int := if seen = false then (if 0 < ds.length then pt + 1 else pt) else (if ds.length = 0 then pt - 1 else pt)
def rdStep (r : RS) (b : UInt8) : RS :=
  if kindN b.toNat = 0 then ⟨r.below, dsF r.ds b.toNat, ptF r.seen (dsF r.ds b.toNat) r.pt, r.seen⟩
  else if kindN b.toNat = 1 then ⟨r.below, r.ds, r.pt, true⟩
  else if kindN b.toNat = 3 then ⟨(b.toNat : Int) == 45, r.ds, r.pt, r.seen⟩
  else r
def rdM (l : List UInt8) : RS := l.foldl rdStep ⟨false, [], 0, false⟩
def powF (cap : Int) (p : Int) (C : List UInt8) : Int := C.foldl (fun p c => if cap < 10 * p + ((c.toNat : Int) - 48) then cap else 10 * p + ((c.toNat : Int) - 48)) p
def stripL (l : List Int) : List Int := (l.reverse.dropWhile (· == 0)).reverse
theorem stripL_last (l : List Int) (x : Int) : stripL (l ++ [x]) = if x = 0 then stripL l else l ++ [x] := by
  unfold stripL
  rw [List.reverse_append]
  by_cases h : x = 0 <;> simp [h]
theorem rdStep_len (r : RS) (b : UInt8) : (rdStep r b).ds.length ≤ r.ds.length + 1 ∧ (-(r.pt.natAbs : Int) - 1 ≤ (rdStep r b).pt ∧ (rdStep r b).pt ≤ r.pt.natAbs + 1) := by
  have hd : ∀ c, (dsF r.ds c).length ≤ r.ds.length + 1 := fun c => by unfold dsF; split <;> simp
  have hp : ∀ ds, -(r.pt.natAbs : Int) - 1 ≤ ptF r.seen ds r.pt ∧ ptF r.seen ds r.pt ≤ r.pt.natAbs + 1 := fun ds => by unfold ptF; repeat' split
                                                                                                                       all_goals omega
  unfold rdStep
  split
  · exact ⟨hd _, hp _⟩
  · split
    · exact ⟨Nat.le_succ _, by simp only; omega⟩
    · split
      · exact ⟨Nat.le_succ _, by simp only; omega⟩
      · exact ⟨Nat.le_succ _, by omega⟩
theorem rdM_snoc (l : List UInt8) (b : UInt8) : rdM (l ++ [b]) = rdStep (rdM l) b := by simp [rdM]
theorem rdM_bd : ∀ (n : Nat) (l : List UInt8), l.length = n → (rdM l).ds.length ≤ n ∧ (-(n : Int) ≤ (rdM l).pt ∧ (rdM l).pt ≤ n)
  | 0, l, h => by
    obtain rfl := List.length_eq_zero_iff.1 h
    exact ⟨Nat.le_refl _, by simp [rdM]⟩
  | n + 1, l, h => by
    have hne : l ≠ [] := by intro h2; rw [h2] at h; simp at h
    have e := (List.dropLast_concat_getLast hne).symm
    have hl : l.dropLast.length = n := by rw [List.length_dropLast]; omega
    have ih := rdM_bd n _ hl
    rw [e, rdM_snoc]
    have := rdStep_len (rdM l.dropLast) (l.getLast hne)
    omega
theorem powF_snoc (cap p : Int) (C : List UInt8) (c : UInt8) : powF cap p (C ++ [c]) = if cap < 10 * powF cap p C + ((c.toNat : Int) - 48) then cap else 10 * powF cap p C + ((c.toNat : Int) - 48) := by unfold powF; rw [List.foldl_append]; rfl
theorem powF_bd {cap : Int} (hc : 0 ≤ cap) : ∀ (n : Nat) (C : List UInt8), C.length = n → (∀ c ∈ C, kindN c.toNat = 0) → 0 ≤ powF cap 0 C ∧ powF cap 0 C ≤ cap
  | 0, C, h, _ => by
    obtain rfl := List.length_eq_zero_iff.1 h
    simpa [powF] using hc
  | n + 1, C, h, hk => by
    have hne : C ≠ [] := by intro h2; rw [h2] at h; simp at h
    have e := (List.dropLast_concat_getLast hne).symm
    have hl : C.dropLast.length = n := by rw [List.length_dropLast]; omega
    have ih := powF_bd hc n _ hl (fun c h => hk c (List.dropLast_subset _ h))
    have h0 := kindN_cases (C.getLast hne).toNat
    have h1 := hk _ (List.getLast_mem hne)
    rw [e, powF_snoc]
    split <;> omega
def expB : Option (UInt8 × List UInt8 × List UInt8) → List UInt8
  | none => []
  | some (e, sg, C) => e :: (sg ++ C)
def exOK : Option (UInt8 × List UInt8 × List UInt8) → Prop
  | none => True
  | some (e, sg, C) => kindN e.toNat = 2 ∧ (sg = [] ∨ sg = [43] ∨ sg = [45]) ∧ C ≠ [] ∧ ∀ c ∈ C, kindN c.toNat = 0
def exPow (cap : Int) : Option (UInt8 × List UInt8 × List UInt8) → Int
  | none => 0
  | some (_, sg, C) => powF cap 0 C
def exDown : Option (UInt8 × List UInt8 × List UInt8) → Bool
  | none => false
  | some (_, sg, _) => sg == [45]
def numV (r : RS) (pow : Int) (down : Bool) : AV := .agg [.bool r.below, .vec (ci .u8 (stripL r.ds)) (stripL r.ds).length none, .int .i64 (r.pt + if down then 0 - pow else pow)]
end Go.Proofs.YteicdddheaajlaaDoor
namespace Go.Proofs.YteicdddheaajlaaDoor
open Go.Abs
def rStep (r : Nat × Nat × Bool) (b : UInt8) : Nat × Nat × Bool :=
  if kindN b.toNat = 1 then (r.1, r.2.1, true) else (r.1 * 10 + ((b.toNat : Int) - 48).toNat, if r.2.2 = true then r.2.1 + 1 else r.2.1, r.2.2)
def rFold (l : List UInt8) : Nat × Nat × Bool := l.foldl rStep (0, 0, false)
theorem rFold_snoc (l : List UInt8) (b : UInt8) : rFold (l ++ [b]) = rStep (rFold l) b := by simp [rFold]
theorem ten_le {n k : Nat} (h : n ≤ 4 * k) : 10 ^ n ≤ 65536 ^ k :=
  calc 10 ^ n ≤ 16 ^ n := Nat.pow_le_pow_left (by decide) n
    _ ≤ 16 ^ (4 * k) := Nat.pow_le_pow_right (by decide) h
    _ = 65536 ^ k := by rw [Nat.pow_mul]
theorem rFold_bd : ∀ (n : Nat) (l : List UInt8), l.length = n → (∀ b ∈ l, kindN b.toNat = 0 ∨ kindN b.toNat = 1) → (rFold l).1 < 10 ^ n ∧ (rFold l).2.1 ≤ n
  | 0, l, h, _ => by
    obtain rfl := List.length_eq_zero_iff.1 h
    decide
  | n + 1, l, h, hk => by
    have hne : l ≠ [] := by intro h2; rw [h2] at h; simp at h
    have e := (List.dropLast_concat_getLast hne).symm
    have hl : l.dropLast.length = n := by rw [List.length_dropLast]; omega
    have ih := rFold_bd n _ hl (fun c h => hk c (List.dropLast_subset _ h))
    have h0 := kindN_cases (l.getLast hne).toNat
    have h1 := hk _ (List.getLast_mem hne)
    rw [e, rFold_snoc]
    generalize l.getLast hne = b at *
    generalize rFold l.dropLast = r at *
    unfold rStep
    have hp : 10 ^ (n + 1) = 10 ^ n * 10 := Nat.pow_succ ..
    split
    · exact ⟨by rw [hp]; omega, by simp only; omega⟩
    · refine ⟨?_, ?_⟩
      · simp only; rw [hp]; omega
      · simp only; split <;> omega
theorem c_small (n : Nat) (h : n ≤ 100000) : ACalls seat 81 [.int .i64 n] [] (fun x _ => x = .ret (nv false n)) := by
  have co : ACalls seat 90 [.int .i64 n] [] (fun x _ => x = .ret (nv false n)) := by
    have c0 := c_of n (show I64 n by unfold I64; omega)
    rw [decide_eq_false (by omega), Int.natAbs_natCast] at c0
    exact c0
  refine ACalls.body seat_ok Tryd.func81 rfl rfl ?_
  conv => whnf
  repeat' (first | exact rfl | (refine CallH.lift seat_g co (by simp [Closed, ClosedL]) (nv_closed _ _) ?_; conv => whnf) | ((first | refine zs (by omega) ?_ | refine zq6 ?_ | refine zs (by dsimp only; omega) ?_ | refine zs (show pendP _ _ by repeat' constructor) ?_ | (with_reducible first | refine brT ‹_› ?_ | refine brF ‹_› ?_ | refine zt (by omega) ?_ | refine zf (by omega) ?_ | refine brNot ?_)); conv => whnf))
def rV (below : Bool) (N : Nat) (P : Int) : AV := .agg [.bool below, .bool false, lv (dig N), .int .i64 P]
theorem rV_closed (below : Bool) (N : Nat) (P : Int) : Closed (rV below N P) := by simp [rV, Closed, ClosedL, lv_closed]
def dgV (N : Nat) (v : AV) : Prop := (v = .nils ∧ N = 0) ∨ v = lv (dig N)
set_option maxRecDepth 20000 in
set_option maxHeartbeats 2000000 in
theorem c_rread (S M : List UInt8) (ex : Option (UInt8 × List UInt8 × List UInt8)) (hS : S = [] ∨ S = [43] ∨ S = [45]) (hM : ∀ b ∈ M, kindN b.toNat = 0 ∨ kindN b.toNat = 1) (hex : exOK ex) (hl : (S ++ (M ++ expB ex)).length ≤ 400) :
    ACalls seat 79 [.str (S ++ (M ++ expB ex))] [] (fun x _ => x = .ret (rV (S == [45]) (rFold M).1 ((if exDown ex = true then 0 - exPow 1000 ex else exPow 1000 ex) - (rFold M).2.1))) := by
  refine ACalls.weakR ?_
  refine ACalls.bodyS seat_ok Tryd.func79 rfl rfl ?_
  obtain ⟨s, hs⟩ : ∃ s, s = S ++ (M ++ expB ex) := ⟨_, rfl⟩
  have hlen : s.length = S.length + (M.length + (expB ex).length) := by rw [hs, List.length_append, List.length_append]
  have hsM : ∀ (p : Nat) (b : UInt8), M[p]? = some b → s[S.length + p]? = some b := fun p b h => by
    rw [hs, List.getElem?_append_right (by omega), Nat.add_sub_cancel_left, List.getElem?_append_left (List.getElem?_eq_some_iff.1 h).1]; exact h
  rw [← hs] at hl ⊢
  obtain ⟨pw, hpw⟩ : ∃ pw, pw = exPow 1000 ex := ⟨_, rfl⟩
  obtain ⟨dn, hdn⟩ : ∃ dn, dn = exDown ex := ⟨_, rfl⟩
  have hpb : 0 ≤ pw ∧ pw ≤ 1000 := by
    rw [hpw]
    cases ex with
    | none => simp [exPow]
    | some x => exact powF_bd (by decide) _ _ rfl hex.2.2.2
  rw [← hpw, ← hdn]
  refine Sat.splitAt seat_ok (fun t h => t = (.str s::uu::.ptr 0 0::.ptr 1 0::.int .i64 S.length::.int .i64 0::.bool false::uu::uu::uu::uu::uu::uu::uu::uu::uu::uu::uu::uu::uu::uu::uu::uu::uu::uu::uu::uu::uu::uu::uu::uu::uu::uu::uu::uu::uu::uu::uu::uu::uu::uu::uu::uu::uu::uu::uu::uu::uu::uu::uu::uu::uu::uu::uu::uu::uu::uu::uu::uu::uu::uu::uu::uu::uu::uu::uu::uu::uu::uu::uu::uu::uu::uu::uu::uu::uu::uu::uu::uu::uu::uu::uu::uu::uu::uu::uu::uu::uu::uu::uu::uu::uu::uu::uu::uu::[]) ∧ h = [.var [.bool false, .bool false, .nils, .int .i64 0] 125, .var [.bool (S == [45]), .bool false, .nils, .int .i64 0] 125]) 6 ?_ ?_
  · have cs := c_rsign s 0
    rw [List.drop_zero] at cs
    rcases hS with rfl | rfl | rfl
    · have hk : kd s ≠ 3 := by
        rw [hs]
        cases M with
        | cons b l => have := hM b (.head _); simp only [List.nil_append, List.cons_append, kd]; omega
        | nil =>
          cases ex with
          | none => decide
          | some x => obtain ⟨e, sg, C⟩ := x; have := hex.1; simp only [List.nil_append, expB, kd]; omega
      rw [decide_eq_false hk] at cs
      conv => whnf
      repeat' (first | exact ⟨_, keepT_weak (maskOf 95 [0, 2, 3, 4, 5, 6]) _, rfl, rfl⟩ | (refine lf seat_g cs ?_; conv => whnf) | ((first | refine zs (by omega) ?_ | refine zq6 ?_ | refine zs (by dsimp only; omega) ?_ | refine zs (show pendP _ _ by repeat' constructor) ?_ | (with_reducible first | refine brT ‹_› ?_ | refine brF ‹_› ?_ | refine zt (by omega) ?_ | refine zf (by omega) ?_ | refine brNot ?_)); conv => whnf))
    · have hk : kd s = 3 := by rw [hs]; rfl
      have eb : (s[(0 : Int).toNat]?) = some 43 := by rw [hs]; rfl
      have gl : (0 : Int) < s.length := by simp only [List.length_singleton] at hlen; omega
      rw [decide_eq_true hk] at cs
      conv => whnf
      repeat' (first | exact ⟨_, keepT_weak (maskOf 95 [0, 2, 3, 4, 5, 6]) _, rfl, rfl⟩ | (refine lf seat_g cs ?_; conv => whnf) | (refine ldI _ eb ?_; conv => whnf) | ((first | refine zs (by omega) ?_ | refine zq6 ?_ | refine zs (by dsimp only; omega) ?_ | refine zs (show pendP _ _ by repeat' constructor) ?_ | (with_reducible first | refine brT ‹_› ?_ | refine brF ‹_› ?_ | refine zt (by omega) ?_ | refine zf (by omega) ?_ | refine brNot ?_)); conv => whnf))
    · have hk : kd s = 3 := by rw [hs]; rfl
      have eb : (s[(0 : Int).toNat]?) = some 45 := by rw [hs]; rfl
      have gl : (0 : Int) < s.length := by simp only [List.length_singleton] at hlen; omega
      rw [decide_eq_true hk] at cs
      conv => whnf
      repeat' (first | exact ⟨_, keepT_weak (maskOf 95 [0, 2, 3, 4, 5, 6]) _, rfl, rfl⟩ | (refine lf seat_g cs ?_; conv => whnf) | (refine ldI _ eb ?_; conv => whnf) | ((first | refine zs (by omega) ?_ | refine zq6 ?_ | refine zs (by dsimp only; omega) ?_ | refine zs (show pendP _ _ by repeat' constructor) ?_ | (with_reducible first | refine brT ‹_› ?_ | refine brF ‹_› ?_ | refine zt (by omega) ?_ | refine zf (by omega) ?_ | refine brNot ?_)); conv => whnf))
  rintro _ _ ⟨rfl, rfl⟩
  generalize (S == [45]) = bl
  have hML : M.length + S.length ≤ 400 := by omega
  refine Sat.splitAt seat_ok (fun t h => t = (.str s::uu::.ptr 0 0::.ptr 1 0::.int .i64 ((S.length + M.length : Nat) : Int)::.int .i64 ((rFold M).2.1 : Nat)::uu::uu::uu::uu::uu::uu::uu::uu::uu::uu::uu::uu::uu::uu::uu::uu::uu::uu::uu::uu::uu::uu::uu::uu::uu::uu::uu::uu::uu::uu::uu::uu::uu::uu::uu::uu::uu::uu::uu::uu::uu::uu::uu::uu::uu::uu::uu::uu::uu::uu::uu::uu::uu::uu::uu::uu::uu::uu::uu::uu::uu::uu::uu::uu::uu::uu::uu::uu::uu::uu::uu::uu::uu::uu::uu::uu::uu::uu::uu::uu::uu::uu::uu::uu::uu::uu::uu::uu::uu::[]) ∧ ∃ v, dgV (rFold M).1 v ∧ h = [.var [.bool false, .bool false, .nils, .int .i64 0] 125, .var [.bool bl, .bool false, v, .int .i64 0] 125]) 1 ?_ ?_
  · conv => whnf
    refine Sat.cut (fun x t h => x = .exit 0 ∧ t = (.str s::uu::.ptr 0 0::.ptr 1 0::.int .i64 ((S.length + M.length : Nat) : Int)::.int .i64 ((rFold M).2.1 : Nat)::uu::uu::uu::uu::uu::uu::uu::uu::uu::uu::uu::uu::uu::uu::uu::uu::uu::uu::uu::uu::uu::uu::uu::uu::uu::uu::uu::uu::uu::uu::uu::uu::uu::uu::uu::uu::uu::uu::uu::uu::uu::uu::uu::uu::uu::uu::uu::uu::uu::uu::uu::uu::uu::uu::uu::uu::uu::uu::uu::uu::uu::uu::uu::uu::uu::uu::uu::uu::uu::uu::uu::uu::uu::uu::uu::uu::uu::uu::uu::uu::uu::uu::uu::uu::uu::uu::uu::uu::uu::[]) ∧ ∃ v, dgV (rFold M).1 v ∧ h = [.var [.bool false, .bool false, .nils, .int .i64 0] 125, .var [.bool bl, .bool false, v, .int .i64 0] 125]) ?_ ?_
    · refine Sat.invP seat_ok seat_g (maskOf 95 [0, 2, 3, 4, 5, 6]) 2 (fun μ t h => ∃ (p : Nat) (n : Int) (v : AV), p ≤ M.length ∧ n = ((S.length + p : Nat) : Int) ∧ dgV (rFold (M.take p)).1 v ∧ μ = M.length - p ∧
        t = (.str s::uu::.ptr 0 0::.ptr 1 0::.int .i64 n::.int .i64 ((rFold (M.take p)).2.1 : Nat)::.bool (rFold (M.take p)).2.2::uu::uu::uu::uu::uu::uu::uu::uu::uu::uu::uu::uu::uu::uu::uu::uu::uu::uu::uu::uu::uu::uu::uu::uu::uu::uu::uu::uu::uu::uu::uu::uu::uu::uu::uu::uu::uu::uu::uu::uu::uu::uu::uu::uu::uu::uu::uu::uu::uu::uu::uu::uu::uu::uu::uu::uu::uu::uu::uu::uu::uu::uu::uu::uu::uu::uu::uu::uu::uu::uu::uu::uu::uu::uu::uu::uu::uu::uu::uu::uu::uu::uu::uu::uu::uu::uu::uu::uu::[]) ∧ h = [.var [.bool false, .bool false, .nils, .int .i64 0] 125, .var [.bool bl, .bool false, v, .int .i64 0] 125])
        ?_ ⟨_, _, WeakL.of_eq rfl, 0, _, _, by omega, by omega, .inl ⟨rfl, rfl⟩, rfl, rfl, rfl⟩ ?_
      · rintro _ _ _ ⟨p, n, v, -, -, hv, -, rfl, rfl⟩
        rcases hv with ⟨rfl, -⟩ | rfl
        · exact ⟨rfl, (by simp [IdsL, Ids, IdsH, IdsC, lv_ids, ci_ids]), (by simp [IdsL, Ids, IdsH, IdsC, lv_ids, ci_ids])⟩
        · exact ⟨rfl, (by simp [IdsL, Ids, IdsH, IdsC, lv_ids, ci_ids]), (by simp [IdsL, Ids, IdsH, IdsC, lv_ids, ci_ids])⟩
      rintro _ _ _ ⟨p, n, v, hp, hn, hv, rfl, rfl, rfl⟩
      by_cases g : p < M.length
      · obtain ⟨b, hb⟩ : ∃ b, M[p]? = some b := ⟨_, List.getElem?_eq_getElem g⟩
        have eb : (s[n.toNat]?) = some b := by rw [hn, Int.toNat_natCast]; exact hsM p b hb
        have gl : n < s.length := by omega
        have hst : rFold (M.take (p + 1)) = rStep (rFold (M.take p)) b := by
          rw [← rFold_snoc]; congr 1
          rw [List.take_succ_eq_append_getElem g]; congr 2
          exact (List.getElem?_eq_some_iff.1 hb).2
        have hk := hM b (List.mem_of_getElem? hb)
        have hbd := rFold_bd p (M.take p) (by rw [List.length_take]; omega) (fun c h => hM c (List.mem_of_mem_take h))
        have hcs := kindN_cases b.toNat
        obtain ⟨⟨N, bh, pt⟩, hR⟩ : ∃ R, rFold (M.take p) = R := ⟨_, rfl⟩
        rw [hR] at hst hbd hv
        simp only [hR]
        simp only at hbd hv
        unfold rStep at hst
        rcases hk with hk | hk
        · have hc : 48 ≤ (b.toNat : Int) ∧ (b.toNat : Int) ≤ 57 := by omega
          rw [if_neg (by omega)] at hst
          simp only at hst
          have hN : N < 65536 ^ 100 := Nat.lt_of_lt_of_le hbd.1 (ten_le (by omega))
          have hdl := dig_length_lt hN
          have hdl2 : (dig (N * 10)).length ≤ 20000 := Nat.le_trans (dig_length_lt (k := 101) (by rw [Nat.pow_succ]; omega)) (by decide)
          obtain ⟨c, hcc⟩ : ∃ c : Nat, (b.toNat : Int) - 48 = c := ⟨((b.toNat : Int) - 48).toNat, by omega⟩
          have h48 : ((b.toNat : Int) - 48).toNat = c := by omega
          rw [h48] at hst
          have s10 := c_small 10 (by decide)
          have sd := c_small c (by omega)
          have m1 : ACalls seat 80 [nv false N, nv false 10] [] (fun x _ => x = .ret (nv false (N * 10))) := c_mul false false N 10 (by omega) (Nat.le_trans (dig_length_lt (k := 1) (by decide)) (by decide))
          have a1 : ACalls seat 87 [nv false (N * 10), nv false c] [] (fun x _ => x = .ret (nv false (N * 10 + c))) := c_add false false (N * 10) c (by omega) (Nat.le_trans (dig_length_lt (k := 1) (by omega)) (by decide))
          have wv : ∀ u, Weak u (.agg [.bool false, v]) → Weak u (nv false N) := fun u hu => hu.trans (by
            rcases hv with ⟨rfl, rfl⟩ | rfl
            · exact Weak.agg (WeakL.cons (Weak.refl _) (WeakL.cons Weak.nils (WeakL.refl _)))
            · exact Weak.refl _)
          have hn1 : n + 1 = ((S.length + (p + 1) : Nat) : Int) := by omega
          have hcl : IdsC (fun i => i < 2) (.var [.bool bl, .bool false, v, .int .i64 0] 125) := by
            rcases hv with ⟨rfl, -⟩ | rfl
            · simp [IdsC, IdsL, Ids]
            · simp [IdsC, IdsL, Ids, lv_ids]
          have hbh : bh ≤ 400 := by omega
          cases pt with
          | false =>
            have hst' : rFold (M.take (p + 1)) = (N * 10 + c, bh, false) := by rw [hst]; rfl
            clear hst hk hcs hbd
            conv => whnf
            repeat' (first | exact ⟨_, _, Nat.sub_lt_sub_left g (Nat.lt_succ_self p), WeakL.of_eq rfl, p + 1, n + 1, _, by omega, hn1, .inr (by rw [hst']), rfl, by rw [hst']; rfl, rfl⟩ | (refine ldI _ eb ?_; conv => whnf) | (refine DrawH.plan seat_ok (.take 0 (.take 1 (.take 4 (.take 5 (.take 6 (.take 7 (.take 8 (.perform 2 none (.perform 3 none (.perform 9 none (.perform 10 none (.take 11 (.perform 12 none Plan.done))))))))))))) 0 (by kernel_rfl) ?_; conv => whnf) | (refine WrapH.is _ ((wrap_u8 (by omega) (by omega)).trans hcc) ?_; conv => whnf) | (refine CallH.lift seat_g s10 (by simp [Closed, ClosedL]) (nv_closed _ _) ?_; conv => whnf) | (refine CallH.lift seat_g sd (by simp [Closed, ClosedL]) (nv_closed _ _) ?_; conv => whnf) | (refine CallH.lift seat_g a1 ⟨nv_closed _ _, nv_closed _ _, trivial⟩ (nv_closed _ _) ?_; conv => whnf) | (refine CallH.weakA (WeakL.cons (wv _ (Weak.refl _)) (WeakL.refl _)) (CallH.lift seat_g m1 ⟨nv_closed _ _, nv_closed _ _, trivial⟩ (nv_closed _ _) ?_); conv => whnf) | ((first | refine zs (by omega) ?_ | refine zq6 ?_ | refine zs (by dsimp only; omega) ?_ | refine zs (show pendP _ _ by repeat' constructor) ?_ | (with_reducible first | refine brT ‹_› ?_ | refine brF ‹_› ?_ | refine zt (by omega) ?_ | refine zf (by omega) ?_ | refine brNot ?_)); conv => whnf))
          | true =>
            have hst' : rFold (M.take (p + 1)) = (N * 10 + c, bh + 1, true) := by rw [hst]; rfl
            clear hst hk hcs hbd
            conv => whnf
            repeat' (first | exact ⟨_, _, Nat.sub_lt_sub_left g (Nat.lt_succ_self p), WeakL.of_eq rfl, p + 1, n + 1, _, by omega, hn1, .inr (by rw [hst']), rfl, by rw [hst']; rfl, rfl⟩ | (refine ldI _ eb ?_; conv => whnf) | (refine DrawH.plan seat_ok (.take 0 (.take 1 (.take 4 (.take 5 (.take 6 (.take 7 (.take 8 (.perform 2 none (.perform 3 none (.perform 9 none (.perform 10 none (.take 11 (.perform 12 none Plan.done))))))))))))) 0 (by kernel_rfl) ?_; conv => whnf) | (refine WrapH.is _ ((wrap_u8 (by omega) (by omega)).trans hcc) ?_; conv => whnf) | (refine CallH.lift seat_g s10 (by simp [Closed, ClosedL]) (nv_closed _ _) ?_; conv => whnf) | (refine CallH.lift seat_g sd (by simp [Closed, ClosedL]) (nv_closed _ _) ?_; conv => whnf) | (refine CallH.lift seat_g a1 ⟨nv_closed _ _, nv_closed _ _, trivial⟩ (nv_closed _ _) ?_; conv => whnf) | (refine CallH.weakA (WeakL.cons (wv _ (Weak.refl _)) (WeakL.refl _)) (CallH.lift seat_g m1 ⟨nv_closed _ _, nv_closed _ _, trivial⟩ (nv_closed _ _) ?_); conv => whnf) | ((first | refine zs (by omega) ?_ | refine zq6 ?_ | refine zs (by dsimp only; omega) ?_ | refine zs (show pendP _ _ by repeat' constructor) ?_ | (with_reducible first | refine brT ‹_› ?_ | refine brF ‹_› ?_ | refine zt (by omega) ?_ | refine zf (by omega) ?_ | refine brNot ?_)); conv => whnf))
        · have hc : (b.toNat : Int) = 46 := by omega
          have hn1 : n + 1 = ((S.length + (p + 1) : Nat) : Int) := by omega
          rw [if_pos hk] at hst
          simp only at hst
          clear hk hcs hbd
          conv => whnf
          repeat' (first | exact ⟨_, _, Nat.sub_lt_sub_left g (Nat.lt_succ_self p), WeakL.of_eq rfl, p + 1, n + 1, v, by omega, hn1, by rw [hst]; exact hv, rfl, by rw [hst]; rfl, rfl⟩ | (refine ldI _ eb ?_; conv => whnf) | ((first | refine zs (by omega) ?_ | refine zq6 ?_ | refine zs (by dsimp only; omega) ?_ | refine zs (show pendP _ _ by repeat' constructor) ?_ | (with_reducible first | refine brT ‹_› ?_ | refine brF ‹_› ?_ | refine zt (by omega) ?_ | refine zf (by omega) ?_ | refine brNot ?_)); conv => whnf))
      · obtain rfl : p = M.length := by omega
        rw [List.take_length] at *
        generalize rFold M = R at *
        cases ex with
        | none =>
          have g2 : ¬ (n < s.length) := by rw [hlen, hn]; simp [expB]
          have e : n = ((S.length + M.length : Nat) : Int) := hn
          conv => whnf
          repeat' ((first | refine zs (by omega) ?_ | refine zq6 ?_ | refine zs (by dsimp only; omega) ?_ | refine zs (show pendP _ _ by repeat' constructor) ?_ | (with_reducible first | refine brT ‹_› ?_ | refine brF ‹_› ?_ | refine zt (by omega) ?_ | refine zf (by omega) ?_ | refine brNot ?_)); conv => whnf)
          exact ⟨_, keepT_weak (maskOf 95 [0, 2, 3, 4, 5]) _, rfl, by rw [← e]; rfl, v, hv, rfl⟩
        | some x =>
          obtain ⟨e, sg, C⟩ := x
          have he := hex.1
          have hlen2 : s.length = S.length + (M.length + (1 + (sg.length + C.length))) := by rw [hlen]; simp [expB]; omega
          have g2 : n < s.length := by omega
          have eb : (s[n.toNat]?) = some e := by
            rw [hs, hn, Int.toNat_natCast, List.getElem?_append_right (by omega), List.getElem?_append_right (by omega), show S.length + M.length - S.length - M.length = 0 by omega]; rfl
          have hcs := kindN_cases e.toNat
          have en : n = ((S.length + M.length : Nat) : Int) := hn
          by_cases h1 : (e.toNat : Int) = 101
          · conv => whnf
            repeat' (first | exact ⟨_, keepT_weak (maskOf 95 [0, 2, 3, 4, 5]) _, rfl, by rw [← en]; rfl, v, hv, rfl⟩ | (refine ldI _ eb ?_; conv => whnf) | ((first | refine zs (by omega) ?_ | refine zq6 ?_ | refine zs (by dsimp only; omega) ?_ | refine zs (show pendP _ _ by repeat' constructor) ?_ | (with_reducible first | refine brT ‹_› ?_ | refine brF ‹_› ?_ | refine zt (by omega) ?_ | refine zf (by omega) ?_ | refine brNot ?_)); conv => whnf))
          · have h2 : (e.toNat : Int) = 69 := by omega
            conv => whnf
            repeat' (first | exact ⟨_, keepT_weak (maskOf 95 [0, 2, 3, 4, 5]) _, rfl, by rw [← en]; rfl, v, hv, rfl⟩ | (refine ldI _ eb ?_; conv => whnf) | ((first | refine zs (by omega) ?_ | refine zq6 ?_ | refine zs (by dsimp only; omega) ?_ | refine zs (show pendP _ _ by repeat' constructor) ?_ | (with_reducible first | refine brT ‹_› ?_ | refine brF ‹_› ?_ | refine zt (by omega) ?_ | refine zf (by omega) ?_ | refine brNot ?_)); conv => whnf))
    · rintro _ _ _ ⟨rfl, rfl, v, hv, rfl⟩
      conv => whnf
      exact ⟨_, WeakL.refl _, rfl, v, hv, rfl⟩
  rintro _ _ ⟨rfl, v, hv, rfl⟩
  have hbh := (rFold_bd _ M rfl hM).2
  obtain ⟨B, hB⟩ : ∃ B, S.length + M.length = B := ⟨_, rfl⟩
  rw [hB]
  clear hsM hS
  refine Sat.splitAt seat_ok (fun t h => t = (uu::uu::.ptr 0 0::.ptr 1 0::uu::.int .i64 ((rFold M).2.1 : Nat)::uu::.int .i64 pw::.bool dn::uu::uu::uu::uu::uu::uu::uu::uu::uu::uu::uu::uu::uu::uu::uu::uu::uu::uu::uu::uu::uu::uu::uu::uu::uu::uu::uu::uu::uu::uu::uu::uu::uu::uu::uu::uu::uu::uu::uu::uu::uu::uu::uu::uu::uu::uu::uu::uu::uu::uu::uu::uu::uu::uu::uu::uu::uu::uu::uu::uu::uu::uu::uu::uu::uu::uu::uu::uu::uu::uu::uu::uu::uu::uu::uu::uu::uu::uu::uu::uu::uu::uu::uu::uu::uu::uu::[]) ∧ h = [.var [.bool false, .bool false, .nils, .int .i64 0] 125, .var [.bool bl, .bool false, v, .int .i64 0] 125]) 3 ?_ ?_
  · generalize rFold M = R at *
    cases ex with
    | none =>
      have e0 : s.length = B := by rw [hlen]; simp [expB]; omega
      have g2 : ¬ ((B : Int) < s.length) := by omega
      simp only [exPow, exDown] at hpw hdn
      subst hpw hdn
      conv => whnf
      repeat' (first | exact ⟨_, keepT_weak (maskOf 95 [2, 3, 5, 7, 8]) _, rfl, rfl⟩ | ((first | refine zs (by omega) ?_ | refine zq6 ?_ | refine zs (by dsimp only; omega) ?_ | refine zs (show pendP _ _ by repeat' constructor) ?_ | (with_reducible first | refine brT ‹_› ?_ | refine brF ‹_› ?_ | refine zt (by omega) ?_ | refine zf (by omega) ?_ | refine brNot ?_)); conv => whnf))
    | some x =>
      obtain ⟨e, sg, C⟩ := x
      obtain ⟨he, hsg, hC, hCk⟩ := hex
      simp only [exPow, exDown] at hpw hdn
      have hlC : 0 < C.length := List.length_pos_iff.2 hC
      have hlen2 : s.length = B + (1 + (sg.length + C.length)) := by rw [hlen]; simp [expB]; omega
      have g2 : (B : Int) < s.length := by omega
      have hCi : ∀ (q : Nat) (c : UInt8), C[q]? = some c → s[B + 1 + sg.length + q]? = some c := fun q c h => by
        rw [hs, List.getElem?_append_right (by omega), List.getElem?_append_right (by omega), show B + 1 + sg.length + q - S.length - M.length = (sg.length + q) + 1 by omega, expB, List.getElem?_cons_succ, List.getElem?_append_right (by omega), Nat.add_sub_cancel_left]; exact h
      have hsx : ∀ x, sg = [x] → s[B + 1]? = some x := fun x h => by
        rw [hs, List.getElem?_append_right (by omega), List.getElem?_append_right (by omega), show B + 1 - S.length - M.length = 0 + 1 by omega, expB, List.getElem?_cons_succ, h]; rfl
      have hloop : ∀ (dn : Bool) (n0 : Int) (T : List AV) (H : Heap), n0 = ((B + 1 + sg.length : Nat) : Int) → True := fun _ _ _ _ _ => trivial
      have cs := c_rsign s (B + 1)
      have cs' : ∀ (m : Int) (y : Bool), m = ((B + 1 : Nat) : Int) → decide (kd (s.drop (B + 1)) = 3) = y → ACalls seat 77 [.str s, .int .i64 m] [] (fun x _ => x = .ret (.bool y)) := fun m y h1 h2 => by rw [h1, ← h2]; exact cs
      have hst : ∀ (q : Nat) (c : UInt8), q < C.length → C[q]? = some c → powF 1000 0 (C.take (q + 1)) = if 1000 < powF 1000 0 (C.take q) * 10 + ((c.toNat : Int) - 48) then 1000 else powF 1000 0 (C.take q) * 10 + ((c.toNat : Int) - 48) := fun q c gq hc => by
        rw [Int.mul_comm (powF 1000 0 (C.take q)) 10, ← powF_snoc]; congr 1
        rw [List.take_succ_eq_append_getElem gq]; congr 2
        exact (List.getElem?_eq_some_iff.1 hc).2
      clear hs hlen hloop cs hM hpb
      rcases Classical.em (sg = []) with rfl | hne
      · obtain ⟨c0, hc0⟩ : ∃ c0, C[0]? = some c0 := ⟨_, List.getElem?_eq_getElem hlC⟩
        have e1 : s[B + 1]? = some c0 := hCi 0 c0 hc0
        have hk0 := hCk c0 (List.mem_of_getElem? hc0)
        have hy : decide (kd (s.drop (B + 1)) = 3) = false := decide_eq_false (by rw [kd_some e1, hk0]; decide)
        have hd2 : dn = false := by rw [hdn]; rfl
        simp only [List.length_nil] at hCi hlen2
        subst hd2
        conv => whnf
        repeat' (first | (refine CallH.lift seat_g (cs' _ _ (by omega) hy) (by simp [Closed, ClosedL]) (by simp [Closed]) ?_; conv => whnf) | ((first | refine zs (by omega) ?_ | refine zq6 ?_ | refine zs (by dsimp only; omega) ?_ | refine zs (show pendP _ _ by repeat' constructor) ?_ | (with_reducible first | refine brT ‹_› ?_ | refine brF ‹_› ?_ | refine zt (by omega) ?_ | refine zf (by omega) ?_ | refine brNot ?_)); conv => whnf))
        refine Sat.cut (fun x t h => x = .exit 2 ∧ t = (uu::uu::.ptr 0 0::.ptr 1 0::uu::.int .i64 (R.2.1 : Nat)::uu::.int .i64 pw::.bool false::uu::uu::uu::uu::uu::uu::uu::uu::uu::uu::uu::uu::uu::uu::uu::uu::uu::uu::uu::uu::uu::uu::uu::uu::uu::uu::uu::uu::uu::uu::uu::uu::uu::uu::uu::uu::uu::uu::uu::uu::uu::uu::uu::uu::uu::uu::uu::uu::uu::uu::uu::uu::uu::uu::uu::uu::uu::uu::uu::uu::uu::uu::uu::uu::uu::uu::uu::uu::uu::uu::uu::uu::uu::uu::uu::uu::uu::uu::uu::uu::uu::uu::uu::uu::uu::uu::[]) ∧ h = [.var [.bool false, .bool false, .nils, .int .i64 0] 125, .var [.bool bl, .bool false, v, .int .i64 0] 125]) ?_ ?_
        · refine Sat.invP seat_ok seat_g (maskOf 95 [0, 2, 3, 4, 5, 7, 8]) 2 (fun μ t h => ∃ (q : Nat) (n : Int), q ≤ C.length ∧ n = ((B + 1 + 0 + q : Nat) : Int) ∧ μ = C.length - q ∧ t = (.str s::uu::.ptr 0 0::.ptr 1 0::.int .i64 n::.int .i64 (R.2.1 : Nat)::uu::.int .i64 (powF 1000 0 (C.take q))::.bool false::uu::uu::uu::uu::uu::uu::uu::uu::uu::uu::uu::uu::uu::uu::uu::uu::uu::uu::uu::uu::uu::uu::uu::uu::uu::uu::uu::uu::uu::uu::uu::uu::uu::uu::uu::uu::uu::uu::uu::uu::uu::uu::uu::uu::uu::uu::uu::uu::uu::uu::uu::uu::uu::uu::uu::uu::uu::uu::uu::uu::uu::uu::uu::uu::uu::uu::uu::uu::uu::uu::uu::uu::uu::uu::uu::uu::uu::uu::uu::uu::uu::uu::uu::uu::uu::uu::[]) ∧ h = [.var [.bool false, .bool false, .nils, .int .i64 0] 125, .var [.bool bl, .bool false, v, .int .i64 0] 125]) ?_ ⟨_, _, WeakL.of_eq rfl, 0, _, by omega, by omega, rfl, rfl, rfl⟩ ?_
          · rintro _ _ _ ⟨q, n, -, -, -, rfl, rfl⟩
            rcases hv with ⟨rfl, -⟩ | rfl
            · exact ⟨rfl, (by simp [IdsL, Ids, IdsH, IdsC, lv_ids, ci_ids]), (by simp [IdsL, Ids, IdsH, IdsC, lv_ids, ci_ids])⟩
            · exact ⟨rfl, (by simp [IdsL, Ids, IdsH, IdsC, lv_ids, ci_ids]), (by simp [IdsL, Ids, IdsH, IdsC, lv_ids, ci_ids])⟩
          rintro _ _ _ ⟨q, n, hq, hn, rfl, rfl, rfl⟩
          by_cases gq : q < C.length
          · obtain ⟨c, hc⟩ : ∃ c, C[q]? = some c := ⟨_, List.getElem?_eq_getElem gq⟩
            have ec : (s[n.toNat]?) = some c := by rw [hn, Int.toNat_natCast]; exact hCi q c hc
            have hc0 := hCk c (List.mem_of_getElem? hc)
            have hcc := kindN_cases c.toNat
            have hpb2 := powF_bd (cap := 1000) (by decide) _ (C.take q) rfl (fun c h => hCk c (List.mem_of_mem_take h))
            have hst := hst q c gq hc
            have gn : n < s.length := by omega
            generalize powF 1000 0 (C.take q) = P at *
            have hc2 : 48 ≤ (c.toNat : Int) ∧ (c.toNat : Int) ≤ 57 := by omega
            clear hcc
            by_cases gp : P * 10 + ((c.toNat : Int) - 48) > 1000
            · rw [if_pos gp] at hst
              conv => whnf
              repeat' (first | exact ⟨_, _, Nat.sub_lt_sub_left gq (Nat.lt_succ_self q), WeakL.of_eq rfl, q + 1, n + 1, by omega, by omega, rfl, by rw [hst]; rfl, rfl⟩ | (refine ldI _ ec ?_; conv => whnf) | (refine WrapH.is _ (wrap_u8 (by omega) (by omega)) ?_; conv => whnf) | ((first | refine zs (by omega) ?_ | refine zq6 ?_ | refine zs (by dsimp only; omega) ?_ | refine zs (show pendP _ _ by repeat' constructor) ?_ | (with_reducible first | refine brT ‹_› ?_ | refine brF ‹_› ?_ | refine zt (by omega) ?_ | refine zf (by omega) ?_ | refine brNot ?_)); conv => whnf))
            · rw [if_neg gp] at hst
              conv => whnf
              repeat' (first | exact ⟨_, _, Nat.sub_lt_sub_left gq (Nat.lt_succ_self q), WeakL.of_eq rfl, q + 1, n + 1, by omega, by omega, rfl, by rw [hst]; rfl, rfl⟩ | (refine ldI _ ec ?_; conv => whnf) | (refine WrapH.is _ (wrap_u8 (by omega) (by omega)) ?_; conv => whnf) | ((first | refine zs (by omega) ?_ | refine zq6 ?_ | refine zs (by dsimp only; omega) ?_ | refine zs (show pendP _ _ by repeat' constructor) ?_ | (with_reducible first | refine brT ‹_› ?_ | refine brF ‹_› ?_ | refine zt (by omega) ?_ | refine zf (by omega) ?_ | refine brNot ?_)); conv => whnf))
          · rw [List.take_of_length_le (by omega), ← hpw]
            conv => whnf
            repeat' ((first | refine zs (by omega) ?_ | refine zq6 ?_ | refine zs (by dsimp only; omega) ?_ | refine zs (show pendP _ _ by repeat' constructor) ?_ | (with_reducible first | refine brT ‹_› ?_ | refine brF ‹_› ?_ | refine zt (by omega) ?_ | refine zf (by omega) ?_ | refine brNot ?_)); conv => whnf)
            exact ⟨_, keepT_weak (maskOf 95 [2, 3, 5, 7, 8]) _, rfl, rfl, rfl⟩
        · rintro _ _ _ ⟨rfl, rfl, rfl⟩
          conv => whnf
          exact ⟨_, WeakL.refl _, rfl, rfl⟩
      · obtain ⟨x, rfl, hx⟩ : ∃ x, sg = [x] ∧ kindN x.toNat = 3 := by
          rcases hsg with h | h | h
          · exact absurd h hne
          · exact ⟨43, h, by decide⟩
          · exact ⟨45, h, by decide⟩
        have e1 : s[B + 1]? = some x := hsx x rfl
        have ex1 : (s[((B : Int) + 1).toNat]?) = some x := by rw [show ((B : Int) + 1).toNat = B + 1 by omega]; exact e1
        have hy : decide (kd (s.drop (B + 1)) = 3) = true := decide_eq_true (by rw [kd_some e1, hx])
        have hd2 : ((x.toNat : Int) == 45) = dn := by
          rw [hdn]
          rcases hsg with h | h | h
          · cases h
          · cases h; rfl
          · cases h; rfl
        simp only [List.length_singleton] at hCi hlen2
        conv => whnf
        repeat' (first | (refine ldI _ ex1 ?_; conv => whnf) | (refine CallH.lift seat_g (cs' _ _ (by omega) hy) (by simp [Closed, ClosedL]) (by simp [Closed]) ?_; conv => whnf) | ((first | refine zs (by omega) ?_ | refine zq6 ?_ | refine zs (by dsimp only; omega) ?_ | refine zs (show pendP _ _ by repeat' constructor) ?_ | (with_reducible first | refine brT ‹_› ?_ | refine brF ‹_› ?_ | refine zt (by omega) ?_ | refine zf (by omega) ?_ | refine brNot ?_)); conv => whnf))
        rw [hd2]
        refine Sat.cut (fun x t h => x = .exit 2 ∧ t = (uu::uu::.ptr 0 0::.ptr 1 0::uu::.int .i64 (R.2.1 : Nat)::uu::.int .i64 pw::.bool dn::uu::uu::uu::uu::uu::uu::uu::uu::uu::uu::uu::uu::uu::uu::uu::uu::uu::uu::uu::uu::uu::uu::uu::uu::uu::uu::uu::uu::uu::uu::uu::uu::uu::uu::uu::uu::uu::uu::uu::uu::uu::uu::uu::uu::uu::uu::uu::uu::uu::uu::uu::uu::uu::uu::uu::uu::uu::uu::uu::uu::uu::uu::uu::uu::uu::uu::uu::uu::uu::uu::uu::uu::uu::uu::uu::uu::uu::uu::uu::uu::uu::uu::uu::uu::uu::uu::[]) ∧ h = [.var [.bool false, .bool false, .nils, .int .i64 0] 125, .var [.bool bl, .bool false, v, .int .i64 0] 125]) ?_ ?_
        · refine Sat.invP seat_ok seat_g (maskOf 95 [0, 2, 3, 4, 5, 7, 8]) 2 (fun μ t h => ∃ (q : Nat) (n : Int), q ≤ C.length ∧ n = ((B + 1 + 1 + q : Nat) : Int) ∧ μ = C.length - q ∧ t = (.str s::uu::.ptr 0 0::.ptr 1 0::.int .i64 n::.int .i64 (R.2.1 : Nat)::uu::.int .i64 (powF 1000 0 (C.take q))::.bool dn::uu::uu::uu::uu::uu::uu::uu::uu::uu::uu::uu::uu::uu::uu::uu::uu::uu::uu::uu::uu::uu::uu::uu::uu::uu::uu::uu::uu::uu::uu::uu::uu::uu::uu::uu::uu::uu::uu::uu::uu::uu::uu::uu::uu::uu::uu::uu::uu::uu::uu::uu::uu::uu::uu::uu::uu::uu::uu::uu::uu::uu::uu::uu::uu::uu::uu::uu::uu::uu::uu::uu::uu::uu::uu::uu::uu::uu::uu::uu::uu::uu::uu::uu::uu::uu::uu::[]) ∧ h = [.var [.bool false, .bool false, .nils, .int .i64 0] 125, .var [.bool bl, .bool false, v, .int .i64 0] 125]) ?_ ⟨_, _, WeakL.of_eq rfl, 0, _, by omega, by omega, rfl, rfl, rfl⟩ ?_
          · rintro _ _ _ ⟨q, n, -, -, -, rfl, rfl⟩
            rcases hv with ⟨rfl, -⟩ | rfl
            · exact ⟨rfl, (by simp [IdsL, Ids, IdsH, IdsC, lv_ids, ci_ids]), (by simp [IdsL, Ids, IdsH, IdsC, lv_ids, ci_ids])⟩
            · exact ⟨rfl, (by simp [IdsL, Ids, IdsH, IdsC, lv_ids, ci_ids]), (by simp [IdsL, Ids, IdsH, IdsC, lv_ids, ci_ids])⟩
          rintro _ _ _ ⟨q, n, hq, hn, rfl, rfl, rfl⟩
          by_cases gq : q < C.length
          · obtain ⟨c, hc⟩ : ∃ c, C[q]? = some c := ⟨_, List.getElem?_eq_getElem gq⟩
            have ec : (s[n.toNat]?) = some c := by rw [hn, Int.toNat_natCast]; exact hCi q c hc
            have hc0 := hCk c (List.mem_of_getElem? hc)
            have hcc := kindN_cases c.toNat
            have hpb2 := powF_bd (cap := 1000) (by decide) _ (C.take q) rfl (fun c h => hCk c (List.mem_of_mem_take h))
            have hst := hst q c gq hc
            have gn : n < s.length := by omega
            generalize powF 1000 0 (C.take q) = P at *
            have hc2 : 48 ≤ (c.toNat : Int) ∧ (c.toNat : Int) ≤ 57 := by omega
            clear hcc
            by_cases gp : P * 10 + ((c.toNat : Int) - 48) > 1000
            · rw [if_pos gp] at hst
              conv => whnf
              repeat' (first | exact ⟨_, _, Nat.sub_lt_sub_left gq (Nat.lt_succ_self q), WeakL.of_eq rfl, q + 1, n + 1, by omega, by omega, rfl, by rw [hst]; rfl, rfl⟩ | (refine ldI _ ec ?_; conv => whnf) | (refine WrapH.is _ (wrap_u8 (by omega) (by omega)) ?_; conv => whnf) | ((first | refine zs (by omega) ?_ | refine zq6 ?_ | refine zs (by dsimp only; omega) ?_ | refine zs (show pendP _ _ by repeat' constructor) ?_ | (with_reducible first | refine brT ‹_› ?_ | refine brF ‹_› ?_ | refine zt (by omega) ?_ | refine zf (by omega) ?_ | refine brNot ?_)); conv => whnf))
            · rw [if_neg gp] at hst
              conv => whnf
              repeat' (first | exact ⟨_, _, Nat.sub_lt_sub_left gq (Nat.lt_succ_self q), WeakL.of_eq rfl, q + 1, n + 1, by omega, by omega, rfl, by rw [hst]; rfl, rfl⟩ | (refine ldI _ ec ?_; conv => whnf) | (refine WrapH.is _ (wrap_u8 (by omega) (by omega)) ?_; conv => whnf) | ((first | refine zs (by omega) ?_ | refine zq6 ?_ | refine zs (by dsimp only; omega) ?_ | refine zs (show pendP _ _ by repeat' constructor) ?_ | (with_reducible first | refine brT ‹_› ?_ | refine brF ‹_› ?_ | refine zt (by omega) ?_ | refine zf (by omega) ?_ | refine brNot ?_)); conv => whnf))
          · rw [List.take_of_length_le (by omega), ← hpw]
            conv => whnf
            repeat' ((first | refine zs (by omega) ?_ | refine zq6 ?_ | refine zs (by dsimp only; omega) ?_ | refine zs (show pendP _ _ by repeat' constructor) ?_ | (with_reducible first | refine brT ‹_› ?_ | refine brF ‹_› ?_ | refine zt (by omega) ?_ | refine zf (by omega) ?_ | refine brNot ?_)); conv => whnf)
            exact ⟨_, keepT_weak (maskOf 95 [2, 3, 5, 7, 8]) _, rfl, rfl, rfl⟩
        · rintro _ _ _ ⟨rfl, rfl, rfl⟩
          conv => whnf
          exact ⟨_, WeakL.refl _, rfl, rfl⟩
  rintro _ _ ⟨rfl, rfl⟩
  clear hpw hdn hs hlen
  have hw : ∀ z : Int, Weak (.agg [.bool bl, .bool false, v, .int .i64 z]) (rV bl (rFold M).1 z) := fun z => Weak.agg (WeakL.cons (Weak.refl _) (WeakL.cons (Weak.refl _) (WeakL.cons (by
    rcases hv with ⟨rfl, h⟩ | rfl
    · rw [h]; exact Weak.nils
    · exact Weak.refl _) (WeakL.refl _))))
  refine codeR_sound seat_ok _ _ _ _ ?_
  generalize rFold M = R at *
  rcases hv with ⟨rfl, -⟩ | rfl
  · cases dn with
    | false =>
      conv => whnf
      repeat' ((first | refine zs (by omega) ?_ | refine zq6 ?_ | refine zs (by dsimp only; omega) ?_ | refine zs (show pendP _ _ by repeat' constructor) ?_ | (with_reducible first | refine brT ‹_› ?_ | refine brF ‹_› ?_ | refine zt (by omega) ?_ | refine zf (by omega) ?_ | refine brNot ?_)); conv => whnf)
      exact .inl ⟨_, _, rfl, hw _, rfl⟩
    | true =>
      conv => whnf
      repeat' ((first | refine zs (by omega) ?_ | refine zq6 ?_ | refine zs (by dsimp only; omega) ?_ | refine zs (show pendP _ _ by repeat' constructor) ?_ | (with_reducible first | refine brT ‹_› ?_ | refine brF ‹_› ?_ | refine zt (by omega) ?_ | refine zf (by omega) ?_ | refine brNot ?_)); conv => whnf)
      exact .inl ⟨_, _, rfl, hw _, rfl⟩
  · cases dn with
    | false =>
      conv => whnf
      repeat' ((first | refine zs (by omega) ?_ | refine zq6 ?_ | refine zs (by dsimp only; omega) ?_ | refine zs (show pendP _ _ by repeat' constructor) ?_ | (with_reducible first | refine brT ‹_› ?_ | refine brF ‹_› ?_ | refine zt (by omega) ?_ | refine zf (by omega) ?_ | refine brNot ?_)); conv => whnf)
      exact .inl ⟨_, _, rfl, hw _, rfl⟩
    | true =>
      conv => whnf
      repeat' ((first | refine zs (by omega) ?_ | refine zq6 ?_ | refine zs (by dsimp only; omega) ?_ | refine zs (show pendP _ _ by repeat' constructor) ?_ | (with_reducible first | refine brT ‹_› ?_ | refine brF ‹_› ?_ | refine zt (by omega) ?_ | refine zf (by omega) ?_ | refine brNot ?_)); conv => whnf)
      exact .inl ⟨_, _, rfl, hw _, rfl⟩
end Go.Proofs.YteicdddheaajlaaDoor
namespace Go.Proofs.YteicdddheaajlaaDoor
open Go.Abs
def digL (l : List UInt8) : Prop := ∀ b ∈ l, kindN b.toNat = 0
def dotL : Option (List UInt8) → List UInt8
  | none => []
  | some B => 46 :: B
def txt (S A : List UInt8) (B : Option (List UInt8)) (ex : Option (UInt8 × List UInt8 × List UInt8)) : List UInt8 := S ++ ((A ++ dotL B) ++ expB ex)
structure TxtOK (S A : List UInt8) (B : Option (List UInt8)) (ex : Option (UInt8 × List UInt8 × List UInt8)) : Prop where
  hS : S = [] ∨ S = [43] ∨ S = [45]
  hA : digL A
  hB : digL (B.getD [])
  some : 0 < A.length + (B.getD []).length
  hex : exOK ex
theorem run_take : ∀ l : List UInt8, digL (l.take (runN l)) ∧ kd (l.drop (runN l)) ≠ 0
  | [] => ⟨by simp [digL], by decide⟩
  | b :: l => by
    by_cases h : kindN b.toNat = 0
    · rw [runN_0 h, List.take_succ_cons, List.drop_succ_cons]
      have ih := run_take l
      refine ⟨fun x hx => ?_, ih.2⟩
      rcases List.mem_cons.1 hx with rfl | hx
      · exact h
      · exact ih.1 x hx
    · have : runN (b :: l) = 0 := if_neg h
      rw [this]
      exact ⟨by simp [digL], h⟩
theorem run_app : ∀ (A r : List UInt8), digL A → kd r ≠ 0 → runN (A ++ r) = A.length
  | [], r, _, h => by
    cases r with
    | nil => rfl
    | cons b l => exact if_neg h
  | b :: A, r, hA, h => by rw [List.cons_append, runN_0 (hA b (.head _)), run_app A r (fun x hx => hA x (.tail _ hx)) h]; rfl
theorem run_all (A : List UInt8) (hA : digL A) : runN A = A.length := by
  have := run_app A [] hA (by decide)
  rwa [List.append_nil] at this
theorem run_full {l : List UInt8} (h : runN l = l.length) : digL l := by
  have := (run_take l).1
  rwa [h, List.take_length] at this
theorem kd1 {l : List UInt8} (h : kd l = 1) : ∃ r, l = 46 :: r := by
  cases l with
  | nil => exact absurd h (by decide)
  | cons b r =>
    have hc := kindN_cases b.toNat
    have h : kindN b.toNat = 1 := h
    exact ⟨r, by rw [show b = 46 from UInt8.toNat_inj.1 (by show b.toNat = 46; omega)]⟩
theorem kd3 {l : List UInt8} (h : kd l = 3) : ∃ r, l = 43 :: r ∨ l = 45 :: r := by
  cases l with
  | nil => exact absurd h (by decide)
  | cons b r =>
    have hc := kindN_cases b.toNat
    have h : kindN b.toNat = 3 := h
    refine ⟨r, ?_⟩
    rcases (by omega : b.toNat = 43 ∨ b.toNat = 45) with h | h
    · exact .inl (by rw [show b = 43 from UInt8.toNat_inj.1 h])
    · exact .inr (by rw [show b = 45 from UInt8.toNat_inj.1 h])
theorem addA_full {n : Nat} {a : Nat × Bool} {m : Nat} (h : addA n a = (m, true)) : n + a.1 = m ∧ a.2 = true := by
  unfold addA at h; exact ⟨congrArg Prod.fst h, congrArg Prod.snd h⟩
theorem expS_full {l : List UInt8} {e : UInt8} (he : kindN e.toNat = 2) (h : (expS l).1 = l.length ∧ (expS l).2 = true) : ∃ ex, e :: l = expB ex ∧ exOK ex := by
  unfold expS at h
  by_cases h3 : kd l = 3
  · rw [if_pos h3] at h
    obtain ⟨r, hr⟩ := kd3 h3
    rcases hr with rfl | rfl
    · simp only [List.drop_one, List.tail_cons, List.length_cons, decide_eq_true_eq] at h
      exact ⟨some (e, [43], r), rfl, he, .inr (.inl rfl), by intro h2; rw [h2] at h; simp [runN] at h, run_full (by omega)⟩
    · simp only [List.drop_one, List.tail_cons, List.length_cons, decide_eq_true_eq] at h
      exact ⟨some (e, [45], r), rfl, he, .inr (.inr rfl), by intro h2; rw [h2] at h; simp [runN] at h, run_full (by omega)⟩
  · rw [if_neg h3] at h
    simp only [decide_eq_true_eq] at h
    exact ⟨some (e, [], l), rfl, he, .inl rfl, by intro h2; rw [h2] at h; simp [runN] at h, run_full (by omega)⟩
theorem eS_full {sm : Bool} {l : List UInt8} (h : (eS sm l).1 = l.length ∧ (eS sm l).2 = true) : sm = true ∧ ∃ ex, l = expB ex ∧ exOK ex := by
  unfold eS at h
  cases sm with
  | false => exact absurd h.2 (by rw [if_pos rfl]; decide)
  | true =>
    refine ⟨rfl, ?_⟩
    have n0 : ¬ (true = false) := by decide
    rw [if_neg n0] at h
    by_cases h2 : kd l = 2
    · rw [if_pos h2] at h
      cases l with
      | nil => exact absurd h2 (by decide)
      | cons e r =>
        refine expS_full h2 ?_
        simp only [List.drop_one, List.tail_cons, List.length_cons] at h
        exact ⟨by omega, h.2⟩
    · rw [if_neg h2] at h
      exact ⟨none, List.length_eq_zero_iff.1 h.1.symm, trivial⟩
theorem scan_core {l : List UInt8} (h : addA (runN l) (ptS (decide (0 < runN l)) (l.drop (runN l))) = (l.length, true)) :
    ∃ A B ex, l = (A ++ dotL B) ++ expB ex ∧ digL A ∧ digL (B.getD []) ∧ 0 < A.length + (B.getD []).length ∧ exOK ex := by
  obtain ⟨h1, h2⟩ := addA_full h
  have hle := runN_le l
  have hm : (ptS (decide (0 < runN l)) (l.drop (runN l))).1 = (l.drop (runN l)).length := by rw [List.length_drop]; omega
  have hA := (run_take l).1
  have hAl : (l.take (runN l)).length = runN l := by rw [List.length_take]; omega
  have hl := (List.take_append_drop (runN l) l).symm
  generalize l.drop (runN l) = m at *
  generalize l.take (runN l) = A at *
  unfold ptS at hm h2
  by_cases hk : kd m = 1
  · rw [if_pos hk] at hm h2
    obtain ⟨m', rfl⟩ := kd1 hk
    simp only [List.drop_one, List.tail_cons] at hm h2
    have hle2 := runN_le m'
    have hB := (run_take m').1
    have hBl : (m'.take (runN m')).length = runN m' := by rw [List.length_take]; omega
    have hl2 := (List.take_append_drop (runN m') m').symm
    have hd : (m'.drop (runN m')).length = m'.length - runN m' := List.length_drop
    simp only [addA, List.length_cons] at hm h2
    have := eS_full (sm := decide (0 < runN l) || decide (0 < runN m')) (l := m'.drop (runN m')) ⟨by omega, h2⟩
    obtain ⟨hsm, ex, he, hex⟩ := this
    refine ⟨A, some (m'.take (runN m')), ex, ?_, hA, hB, ?_, hex⟩
    · rw [← he]; simp only [dotL, List.append_assoc, List.cons_append]; rw [← hl2]; exact hl
    · simp only [Option.getD_some, hBl, hAl]
      simp only [Bool.or_eq_true, decide_eq_true_eq] at hsm
      omega
  · rw [if_neg hk] at hm h2
    obtain ⟨hsm, ex, he, hex⟩ := eS_full ⟨hm, h2⟩
    refine ⟨A, none, ex, ?_, hA, by simp [digL], ?_, hex⟩
    · rw [← he]; simp only [dotL, List.append_nil]; exact hl
    · simp only [decide_eq_true_eq] at hsm
      simp only [Option.getD_none, List.length_nil, hAl]; omega
theorem scan_dec {s : List UInt8} (h : scR true s 0 = (s.length, true)) : ∃ S A B ex, s = txt S A B ex ∧ TxtOK S A B ex := by
  rw [scR_S, addA_zero, List.drop_zero] at h
  unfold scS at h
  by_cases h3 : kd s = 3
  · rw [if_pos ⟨rfl, h3⟩] at h
    obtain ⟨r, hr⟩ := kd3 h3
    have hg : ∀ x : UInt8, s = x :: r → ∃ A B ex, r = (A ++ dotL B) ++ expB ex ∧ digL A ∧ digL (B.getD []) ∧ 0 < A.length + (B.getD []).length ∧ exOK ex := fun x hx => by
      subst hx
      simp only [List.drop_one, List.tail_cons, List.length_cons] at h
      obtain ⟨g1, g2⟩ := addA_full h
      refine scan_core (Prod.ext ?_ g2)
      show _ = r.length
      omega
    rcases hr with h | h
    · obtain ⟨A, B, ex, hr, h1, h2, h3, h4⟩ := hg _ h
      exact ⟨[43], A, B, ex, by rw [h, hr]; rfl, .inr (.inl rfl), h1, h2, h3, h4⟩
    · obtain ⟨A, B, ex, hr, h1, h2, h3, h4⟩ := hg _ h
      exact ⟨[45], A, B, ex, by rw [h, hr]; rfl, .inr (.inr rfl), h1, h2, h3, h4⟩
  · rw [if_neg (fun h => h3 h.2)] at h
    obtain ⟨A, B, ex, hr, h1, h2, h3, h4⟩ := scan_core h
    exact ⟨[], A, B, ex, hr, .inl rfl, h1, h2, h3, h4⟩
theorem expB_kd (ex : Option (UInt8 × List UInt8 × List UInt8)) (h : exOK ex) : (ex = none ∧ kd (expB ex) = -1) ∨ (ex ≠ none ∧ kd (expB ex) = 2) := by
  cases ex with
  | none => exact .inl ⟨rfl, rfl⟩
  | some x => exact .inr ⟨by simp, h.1⟩
theorem eS_txt (ex : Option (UInt8 × List UInt8 × List UInt8)) (h : exOK ex) : eS true (expB ex) = ((expB ex).length, true) := by
  unfold eS
  have n0 : ¬ (true = false) := by decide
  rw [if_neg n0]
  cases ex with
  | none => rfl
  | some x =>
    obtain ⟨e, sg, C⟩ := x
    obtain ⟨he, hsg, hC, hCk⟩ := h
    have hr := run_all C hCk
    have h0 : 0 < C.length := List.length_pos_iff.2 hC
    have hk : kd (expB (some (e, sg, C))) = 2 := he
    rw [if_pos hk]
    unfold expB
    simp only [List.drop_one, List.tail_cons, List.length_cons]
    unfold expS
    rcases hsg with rfl | rfl | rfl
    · have hk3 : kd ([] ++ C) ≠ 3 := by
        cases C with
        | nil => decide
        | cons c l => have : kindN c.toNat = 0 := hCk c (.head _); simp only [List.nil_append, kd]; omega
      rw [if_neg hk3, List.nil_append, hr, decide_eq_true h0, Nat.add_comm]
    · rw [if_pos (by rfl)]
      simp only [List.cons_append, List.nil_append, List.drop_one, List.tail_cons, List.length_cons]
      rw [hr, decide_eq_true h0]; congr 1; omega
    · rw [if_pos (by rfl)]
      simp only [List.cons_append, List.nil_append, List.drop_one, List.tail_cons, List.length_cons]
      rw [hr, decide_eq_true h0]; congr 1; omega
theorem scan_coreT {A : List UInt8} {B : Option (List UInt8)} {ex} (hA : digL A) (hB : digL (B.getD [])) (h0 : 0 < A.length + (B.getD []).length) (hex : exOK ex) :
    addA (runN ((A ++ dotL B) ++ expB ex)) (ptS (decide (0 < runN ((A ++ dotL B) ++ expB ex))) (((A ++ dotL B) ++ expB ex).drop (runN ((A ++ dotL B) ++ expB ex)))) = (((A ++ dotL B) ++ expB ex).length, true) := by
  have hke := expB_kd ex hex
  have hkm : kd (dotL B ++ expB ex) ≠ 0 := by
    cases B with
    | none => simp only [dotL, List.nil_append]; omega
    | some B => intro h; exact absurd (show (1 : Int) = 0 from h) (by decide)
  rw [List.append_assoc, run_app A _ hA hkm, List.drop_left]
  cases B with
  | none =>
    rw [show dotL none ++ expB ex = expB ex from rfl]
    unfold ptS
    simp only [Option.getD_none, List.length_nil, Nat.add_zero] at h0
    rw [if_neg (by omega), decide_eq_true h0, eS_txt ex hex]
    simp [addA]
  | some B =>
    simp only [Option.getD_some] at h0 hB
    unfold ptS
    rw [if_pos (by rfl)]
    simp only [dotL, List.cons_append, List.drop_one, List.tail_cons]
    rw [run_app B _ hB (by omega), List.drop_left]
    rw [show (decide (0 < A.length) || decide (0 < B.length)) = true by simp only [Bool.or_eq_true, decide_eq_true_eq]; omega, eS_txt ex hex]
    simp [addA]
    omega
theorem scan_txt {S A : List UInt8} {B : Option (List UInt8)} {ex} (h : TxtOK S A B ex) : scR true (txt S A B ex) 0 = ((txt S A B ex).length, true) := by
  obtain ⟨hS, hA, hB, h0, hex⟩ := h
  have hc := scan_coreT hA hB h0 hex
  rw [scR_S, addA_zero, List.drop_zero]
  unfold scS txt
  rcases hS with rfl | rfl | rfl
  · have hk : kd ([] ++ (A ++ dotL B ++ expB ex)) ≠ 3 := by
      have hke := expB_kd ex hex
      cases A with
      | cons a l => have : kindN a.toNat = 0 := hA a (.head _); simp only [List.nil_append, List.cons_append, kd]; omega
      | nil =>
        cases B with
        | some B => intro h; exact absurd (show (1 : Int) = 3 from h) (by decide)
        | none => simp only [dotL, List.nil_append]; omega
    rw [if_neg (fun h => hk h.2), List.nil_append]; exact hc
  · rw [if_pos ⟨rfl, rfl⟩]
    simp only [List.cons_append, List.nil_append, List.drop_one, List.tail_cons, List.length_cons]
    rw [hc]; simp only [addA, Nat.add_comm]
  · rw [if_pos ⟨rfl, rfl⟩]
    simp only [List.cons_append, List.nil_append, List.drop_one, List.tail_cons, List.length_cons]
    rw [hc]; simp only [addA, Nat.add_comm]
end Go.Proofs.YteicdddheaajlaaDoor
namespace Go.Proofs.YteicdddheaajlaaDoor
open Go.Abs
set_option maxRecDepth 20000 in
set_option maxHeartbeats 2000000 in
theorem c_dread (M : List UInt8) (ex : Option (UInt8 × List UInt8 × List UInt8)) (hM : ∀ b ∈ M, kindN b.toNat ≠ 2) (hex : exOK ex) (hl : (M ++ expB ex).length ≤ 1000000) :
    ACalls seat 93 [.str (M ++ expB ex)] [] (fun x _ => x = .ret (numV (rdM M) (exPow 1099511627776 ex) (exDown ex))) := by
  refine ACalls.weakR ?_
  refine ACalls.body seat_ok Tryd.func93 rfl rfl ?_
  obtain ⟨s, hs⟩ : ∃ s, s = M ++ expB ex := ⟨_, rfl⟩
  have hsM : ∀ (p : Nat) (b : UInt8), M[p]? = some b → s[p]? = some b := fun p b h => by
    rw [hs, List.getElem?_append_left (List.getElem?_eq_some_iff.1 h).1]; exact h
  have hlen : s.length = M.length + (expB ex).length := by rw [hs, List.length_append]
  rw [← hs] at hl ⊢
  obtain ⟨pw, hpw⟩ : ∃ pw, pw = exPow 1099511627776 ex := ⟨_, rfl⟩
  obtain ⟨dn, hdn⟩ : ∃ dn, dn = exDown ex := ⟨_, rfl⟩
  have hpb : 0 ≤ pw ∧ pw ≤ 1099511627776 := by
    rw [hpw]
    cases ex with
    | none => simp [exPow]
    | some x => exact powF_bd (by decide) _ _ rfl hex.2.2.2
  rw [← hpw, ← hdn]
  conv => whnf
  refine Sat.nilTokH 1 1 5 1 rfl rfl ?_
  refine Sat.cut (fun x t h => x = .exit 0 ∧ t = (uu::uu::.ptr 0 0::.ptr 1 0::uu::.bool dn::.int .i64 pw::uu::uu::uu::uu::uu::uu::uu::uu::uu::uu::uu::uu::uu::uu::uu::uu::uu::uu::uu::uu::uu::uu::uu::uu::uu::uu::uu::uu::uu::uu::uu::uu::uu::uu::uu::uu::uu::uu::uu::uu::uu::uu::uu::uu::uu::uu::uu::uu::uu::uu::uu::uu::uu::uu::uu::uu::uu::uu::uu::uu::uu::uu::uu::uu::uu::uu::uu::uu::uu::uu::uu::uu::uu::uu::uu::uu::uu::uu::uu::uu::uu::uu::uu::uu::uu::uu::uu::uu::uu::uu::uu::uu::uu::uu::uu::uu::uu::uu::uu::uu::uu::uu::uu::uu::uu::uu::uu::uu::uu::uu::uu::uu::uu::uu::uu::uu::uu::[]) ∧ h = [.var [.bool false, .nils, .int .i64 0] 141, .var [.bool (rdM M).below, .vec (ci .u8 (rdM M).ds) (rdM M).ds.length (some 2), .int .i64 (rdM M).pt] 141, .tok (rdM M).ds.length 5 1]) ?_ ?_
  · refine Sat.invP seat_ok seat_g (maskOf 124 [0, 2, 3, 4, 5, 6, 7]) 3 (fun μ t h => (∃ p : Nat, p ≤ M.length ∧ μ = s.length + 2 - p ∧
        t = (.str s::uu::.ptr 0 0::.ptr 1 0::.bool (rdM (M.take p)).seen::.bool false::.int .i64 0::.int .i64 p::uu::uu::uu::uu::uu::uu::uu::uu::uu::uu::uu::uu::uu::uu::uu::uu::uu::uu::uu::uu::uu::uu::uu::uu::uu::uu::uu::uu::uu::uu::uu::uu::uu::uu::uu::uu::uu::uu::uu::uu::uu::uu::uu::uu::uu::uu::uu::uu::uu::uu::uu::uu::uu::uu::uu::uu::uu::uu::uu::uu::uu::uu::uu::uu::uu::uu::uu::uu::uu::uu::uu::uu::uu::uu::uu::uu::uu::uu::uu::uu::uu::uu::uu::uu::uu::uu::uu::uu::uu::uu::uu::uu::uu::uu::uu::uu::uu::uu::uu::uu::uu::uu::uu::uu::uu::uu::uu::uu::uu::uu::uu::uu::uu::uu::uu::uu::[]) ∧
        h = [.var [.bool false, .nils, .int .i64 0] 141, .var [.bool (rdM (M.take p)).below, .vec (ci .u8 (rdM (M.take p)).ds) (rdM (M.take p)).ds.length (some 2), .int .i64 (rdM (M.take p)).pt] 141, .tok (rdM (M.take p)).ds.length 5 1]) ∨
      (μ = 0 ∧ t = (.str s::uu::.ptr 0 0::.ptr 1 0::.bool (rdM M).seen::.bool dn::.int .i64 pw::.int .i64 (s.length + 1)::uu::uu::uu::uu::uu::uu::uu::uu::uu::uu::uu::uu::uu::uu::uu::uu::uu::uu::uu::uu::uu::uu::uu::uu::uu::uu::uu::uu::uu::uu::uu::uu::uu::uu::uu::uu::uu::uu::uu::uu::uu::uu::uu::uu::uu::uu::uu::uu::uu::uu::uu::uu::uu::uu::uu::uu::uu::uu::uu::uu::uu::uu::uu::uu::uu::uu::uu::uu::uu::uu::uu::uu::uu::uu::uu::uu::uu::uu::uu::uu::uu::uu::uu::uu::uu::uu::uu::uu::uu::uu::uu::uu::uu::uu::uu::uu::uu::uu::uu::uu::uu::uu::uu::uu::uu::uu::uu::uu::uu::uu::uu::uu::uu::uu::uu::uu::[]) ∧
        h = [.var [.bool false, .nils, .int .i64 0] 141, .var [.bool (rdM M).below, .vec (ci .u8 (rdM M).ds) (rdM M).ds.length (some 2), .int .i64 (rdM M).pt] 141, .tok (rdM M).ds.length 5 1]))
      ?_ ⟨_, _, WeakL.of_eq rfl, .inl ⟨0, by omega, rfl, rfl, rfl⟩⟩ ?_
    · rintro _ _ _ (⟨p, -, -, rfl, rfl⟩ | ⟨-, rfl, rfl⟩)
      · exact ⟨rfl, (by simp [IdsL, Ids, IdsH, IdsC, lv_ids, ci_ids]), (by simp [IdsL, Ids, IdsH, IdsC, lv_ids, ci_ids])⟩
      · exact ⟨rfl, (by simp [IdsL, Ids, IdsH, IdsC, lv_ids, ci_ids]), (by simp [IdsL, Ids, IdsH, IdsC, lv_ids, ci_ids])⟩
    rintro _ _ _ (⟨p, hp, rfl, rfl, rfl⟩ | ⟨rfl, rfl, rfl⟩)
    rotate_left
    · have g : ¬ ((s.length : Int) + 1 < s.length) := by omega
      conv => whnf
      repeat' ((first | refine zs (by omega) ?_ | refine zq6 ?_ | refine zs (by dsimp only; omega) ?_ | refine zs (show pendP _ _ by repeat' constructor) ?_ | (with_reducible first | refine brT ‹_› ?_ | refine brF ‹_› ?_ | refine zt (by omega) ?_ | refine zf (by omega) ?_ | refine brNot ?_)); conv => whnf)
      exact ⟨_, keepT_weak (maskOf 124 [2, 3, 5, 6]) _, rfl, rfl, rfl⟩
    by_cases g : p < M.length
    · obtain ⟨b, hb⟩ : ∃ b, M[p]? = some b := ⟨_, List.getElem?_eq_getElem g⟩
      have eb : (s[(p : Int).toNat]?) = some b := hsM p b hb
      have gl : p < s.length := by omega
      have ck := c_kind b.toNat
      have hst : rdM (M.take (p + 1)) = rdStep (rdM (M.take p)) b := by
        rw [← rdM_snoc]; congr 1
        rw [List.take_succ_eq_append_getElem g]; congr 2
        exact (List.getElem?_eq_some_iff.1 hb).2
      have hk2 := hM b (List.mem_of_getElem? hb)
      have hbd := rdM_bd p (M.take p) (by rw [List.length_take]; omega)
      have hcs := kindN_cases b.toNat
      obtain ⟨⟨bl, ds, pt, sn⟩, hR⟩ : ∃ R, rdM (M.take p) = R := ⟨_, rfl⟩
      have q1 : (rdM (M.take p)).below = bl := by rw [hR]
      have q2 : (rdM (M.take p)).ds = ds := by rw [hR]
      have q3 : (rdM (M.take p)).pt = pt := by rw [hR]
      have q4 : (rdM (M.take p)).seen = sn := by rw [hR]
      rw [q1, q2, q3, q4]
      rw [hR] at hst hbd
      clear q1 q2 q3 q4
      have hcl : (ci .u8 ds).length = ds.length * 1 := by rw [ci_length]; omega
      simp only at hbd
      unfold rdStep at hst
      rcases hcs with ⟨hk, hc⟩ | ⟨hk, hc⟩ | ⟨hk, -⟩ | ⟨hk, hc⟩ | ⟨hk, -⟩
      · rw [if_pos hk] at hst
        simp only at hst
        generalize kindN b.toNat = k at *
        by_cases h48 : (b.toNat : Int) = 48
        · by_cases h0 : ds.length = 0
          · obtain rfl := List.length_eq_zero_iff.1 h0
            have e1 : dsF [] b.toNat = [] := by simp [dsF, h48]
            rw [e1] at hst
            cases sn with
            | false =>
              have e2 : ptF false [] pt = pt := by simp [ptF]
              rw [e2] at hst
              conv => whnf
              repeat' (first | exact ⟨_, _, Nat.sub_lt_sub_left (by omega) (Nat.lt_succ_self p), WeakL.of_eq rfl, .inl ⟨p + 1, by omega, rfl, by rw [hst]; rfl, by rw [hst]; rfl⟩⟩ | (refine ldI _ eb ?_; conv => whnf) | (refine lf seat_g ck ?_; conv => whnf) | (refine WrapH.is _ (wrap_u8 (by omega) (by omega)) ?_; conv => whnf) | ((first | refine zs (by omega) ?_ | refine zq6 ?_ | refine zs (by dsimp only; omega) ?_ | refine Req.mk ⟨rfl, rfl, rfl, by simp [ci_length, *], rfl, by simp [okCell], by dsimp only; omega, by omega, by decide⟩ ?_ | refine zs (show pendP _ _ by repeat' constructor) ?_ | (with_reducible first | refine brT ‹_› ?_ | refine brF ‹_› ?_ | refine zt (by omega) ?_ | refine zf (by omega) ?_ | refine brNot ?_)); conv => whnf))
            | true =>
              have e2 : ptF true [] pt = pt - 1 := by simp [ptF]
              rw [e2] at hst
              conv => whnf
              repeat' (first | exact ⟨_, _, Nat.sub_lt_sub_left (by omega) (Nat.lt_succ_self p), WeakL.of_eq rfl, .inl ⟨p + 1, by omega, rfl, by rw [hst]; rfl, by rw [hst]; rfl⟩⟩ | (refine ldI _ eb ?_; conv => whnf) | (refine lf seat_g ck ?_; conv => whnf) | (refine WrapH.is _ (wrap_u8 (by omega) (by omega)) ?_; conv => whnf) | ((first | refine zs (by omega) ?_ | refine zq6 ?_ | refine zs (by dsimp only; omega) ?_ | refine Req.mk ⟨rfl, rfl, rfl, by simp [ci_length, *], rfl, by simp [okCell], by dsimp only; omega, by omega, by decide⟩ ?_ | refine zs (show pendP _ _ by repeat' constructor) ?_ | (with_reducible first | refine brT ‹_› ?_ | refine brF ‹_› ?_ | refine zt (by omega) ?_ | refine zf (by omega) ?_ | refine brNot ?_)); conv => whnf))
          · have e1 : dsF ds b.toNat = ds ++ [(b.toNat : Int) - 48] := if_pos (.inr (by omega))
            have h1 : 0 < (ds ++ [(b.toNat : Int) - 48]).length := by simp
            have hcp : ci .u8 (ds ++ [(b.toNat : Int) - 48]) = ci .u8 ds ++ [.int .u8 ((b.toNat : Int) - 48)] := by simp [ci]
            have hll : (ds ++ [(b.toNat : Int) - 48]).length = ds.length + 1 := by simp
            rw [e1] at hst
            cases sn with
            | false =>
              have e2 : ptF false (ds ++ [(b.toNat : Int) - 48]) pt = pt + 1 := by simp [ptF]
              rw [e2] at hst
              conv => whnf
              repeat' (first | exact ⟨_, _, Nat.sub_lt_sub_left (by omega) (Nat.lt_succ_self p), WeakL.of_eq rfl, .inl ⟨p + 1, by omega, rfl, by rw [hst]; rfl, by rw [hst]; simp only [hcp, hll]; rfl⟩⟩ | (refine ldI _ eb ?_; conv => whnf) | (refine lf seat_g ck ?_; conv => whnf) | (refine WrapH.is _ (wrap_u8 (by omega) (by omega)) ?_; conv => whnf) | (refine Req.mk ⟨rfl, rfl, rfl, hcl, rfl, by simp [okCell], by dsimp only; omega, by dsimp only; omega, by decide⟩ ?_; conv => whnf) | ((first | refine zs (by omega) ?_ | refine zq6 ?_ | refine zs (by dsimp only; omega) ?_ | refine Req.mk ⟨rfl, rfl, rfl, by simp [ci_length, *], rfl, by simp [okCell], by dsimp only; omega, by omega, by decide⟩ ?_ | refine zs (show pendP _ _ by repeat' constructor) ?_ | (with_reducible first | refine brT ‹_› ?_ | refine brF ‹_› ?_ | refine zt (by omega) ?_ | refine zf (by omega) ?_ | refine brNot ?_)); conv => whnf))
            | true =>
              have e2 : ptF true (ds ++ [(b.toNat : Int) - 48]) pt = pt := by simp [ptF]
              rw [e2] at hst
              conv => whnf
              repeat' (first | exact ⟨_, _, Nat.sub_lt_sub_left (by omega) (Nat.lt_succ_self p), WeakL.of_eq rfl, .inl ⟨p + 1, by omega, rfl, by rw [hst]; rfl, by rw [hst]; simp only [hcp, hll]; rfl⟩⟩ | (refine ldI _ eb ?_; conv => whnf) | (refine lf seat_g ck ?_; conv => whnf) | (refine WrapH.is _ (wrap_u8 (by omega) (by omega)) ?_; conv => whnf) | (refine Req.mk ⟨rfl, rfl, rfl, hcl, rfl, by simp [okCell], by dsimp only; omega, by dsimp only; omega, by decide⟩ ?_; conv => whnf) | ((first | refine zs (by omega) ?_ | refine zq6 ?_ | refine zs (by dsimp only; omega) ?_ | refine Req.mk ⟨rfl, rfl, rfl, by simp [ci_length, *], rfl, by simp [okCell], by dsimp only; omega, by omega, by decide⟩ ?_ | refine zs (show pendP _ _ by repeat' constructor) ?_ | (with_reducible first | refine brT ‹_› ?_ | refine brF ‹_› ?_ | refine zt (by omega) ?_ | refine zf (by omega) ?_ | refine brNot ?_)); conv => whnf))
        · have e1 : dsF ds b.toNat = ds ++ [(b.toNat : Int) - 48] := if_pos (.inl h48)
          have h1 : 0 < (ds ++ [(b.toNat : Int) - 48]).length := by simp
          have hcp : ci .u8 (ds ++ [(b.toNat : Int) - 48]) = ci .u8 ds ++ [.int .u8 ((b.toNat : Int) - 48)] := by simp [ci]
          have hll : (ds ++ [(b.toNat : Int) - 48]).length = ds.length + 1 := by simp
          rw [e1] at hst
          cases sn with
          | false =>
            have e2 : ptF false (ds ++ [(b.toNat : Int) - 48]) pt = pt + 1 := by simp [ptF]
            rw [e2] at hst
            conv => whnf
            repeat' (first | exact ⟨_, _, Nat.sub_lt_sub_left (by omega) (Nat.lt_succ_self p), WeakL.of_eq rfl, .inl ⟨p + 1, by omega, rfl, by rw [hst]; rfl, by rw [hst]; simp only [hcp, hll]; rfl⟩⟩ | (refine ldI _ eb ?_; conv => whnf) | (refine lf seat_g ck ?_; conv => whnf) | (refine WrapH.is _ (wrap_u8 (by omega) (by omega)) ?_; conv => whnf) | (refine Req.mk ⟨rfl, rfl, rfl, hcl, rfl, by simp [okCell], by dsimp only; omega, by dsimp only; omega, by decide⟩ ?_; conv => whnf) | ((first | refine zs (by omega) ?_ | refine zq6 ?_ | refine zs (by dsimp only; omega) ?_ | refine Req.mk ⟨rfl, rfl, rfl, by simp [ci_length, *], rfl, by simp [okCell], by dsimp only; omega, by omega, by decide⟩ ?_ | refine zs (show pendP _ _ by repeat' constructor) ?_ | (with_reducible first | refine brT ‹_› ?_ | refine brF ‹_› ?_ | refine zt (by omega) ?_ | refine zf (by omega) ?_ | refine brNot ?_)); conv => whnf))
          | true =>
            have e2 : ptF true (ds ++ [(b.toNat : Int) - 48]) pt = pt := by simp [ptF]
            rw [e2] at hst
            conv => whnf
            repeat' (first | exact ⟨_, _, Nat.sub_lt_sub_left (by omega) (Nat.lt_succ_self p), WeakL.of_eq rfl, .inl ⟨p + 1, by omega, rfl, by rw [hst]; rfl, by rw [hst]; simp only [hcp, hll]; rfl⟩⟩ | (refine ldI _ eb ?_; conv => whnf) | (refine lf seat_g ck ?_; conv => whnf) | (refine WrapH.is _ (wrap_u8 (by omega) (by omega)) ?_; conv => whnf) | (refine Req.mk ⟨rfl, rfl, rfl, hcl, rfl, by simp [okCell], by dsimp only; omega, by dsimp only; omega, by decide⟩ ?_; conv => whnf) | ((first | refine zs (by omega) ?_ | refine zq6 ?_ | refine zs (by dsimp only; omega) ?_ | refine Req.mk ⟨rfl, rfl, rfl, by simp [ci_length, *], rfl, by simp [okCell], by dsimp only; omega, by omega, by decide⟩ ?_ | refine zs (show pendP _ _ by repeat' constructor) ?_ | (with_reducible first | refine brT ‹_› ?_ | refine brF ‹_› ?_ | refine zt (by omega) ?_ | refine zf (by omega) ?_ | refine brNot ?_)); conv => whnf))
      · rw [if_neg (by omega), if_pos hk] at hst
        generalize kindN b.toNat = k at *
        conv => whnf
        repeat' (first | exact ⟨_, _, Nat.sub_lt_sub_left (by omega) (Nat.lt_succ_self p), WeakL.of_eq rfl, .inl ⟨p + 1, by omega, rfl, by rw [hst]; rfl, by rw [hst]; rfl⟩⟩ | (refine ldI _ eb ?_; conv => whnf) | (refine lf seat_g ck ?_; conv => whnf) | (refine WrapH.is _ (wrap_u8 (by omega) (by omega)) ?_; conv => whnf) | ((first | refine zs (by omega) ?_ | refine zq6 ?_ | refine zs (by dsimp only; omega) ?_ | refine Req.mk ⟨rfl, rfl, rfl, by simp [ci_length, *], rfl, by simp [okCell], by dsimp only; omega, by omega, by decide⟩ ?_ | refine zs (show pendP _ _ by repeat' constructor) ?_ | (with_reducible first | refine brT ‹_› ?_ | refine brF ‹_› ?_ | refine zt (by omega) ?_ | refine zf (by omega) ?_ | refine brNot ?_)); conv => whnf))
      · exact absurd hk hk2
      · rw [if_neg (by omega), if_neg (by omega), if_pos hk] at hst
        generalize kindN b.toNat = k at *
        conv => whnf
        repeat' (first | exact ⟨_, _, Nat.sub_lt_sub_left (by omega) (Nat.lt_succ_self p), WeakL.of_eq rfl, .inl ⟨p + 1, by omega, rfl, by rw [hst]; rfl, by rw [hst]; rfl⟩⟩ | (refine ldI _ eb ?_; conv => whnf) | (refine lf seat_g ck ?_; conv => whnf) | (refine WrapH.is _ (wrap_u8 (by omega) (by omega)) ?_; conv => whnf) | ((first | refine zs (by omega) ?_ | refine zq6 ?_ | refine zs (by dsimp only; omega) ?_ | refine Req.mk ⟨rfl, rfl, rfl, by simp [ci_length, *], rfl, by simp [okCell], by dsimp only; omega, by omega, by decide⟩ ?_ | refine zs (show pendP _ _ by repeat' constructor) ?_ | (with_reducible first | refine brT ‹_› ?_ | refine brF ‹_› ?_ | refine zt (by omega) ?_ | refine zf (by omega) ?_ | refine brNot ?_)); conv => whnf))
      · rw [if_neg (by omega), if_neg (by omega), if_neg (by omega)] at hst
        generalize kindN b.toNat = k at *
        conv => whnf
        repeat' (first | exact ⟨_, _, Nat.sub_lt_sub_left (by omega) (Nat.lt_succ_self p), WeakL.of_eq rfl, .inl ⟨p + 1, by omega, rfl, by rw [hst]; rfl, by rw [hst]; rfl⟩⟩ | (refine ldI _ eb ?_; conv => whnf) | (refine lf seat_g ck ?_; conv => whnf) | (refine WrapH.is _ (wrap_u8 (by omega) (by omega)) ?_; conv => whnf) | ((first | refine zs (by omega) ?_ | refine zq6 ?_ | refine zs (by dsimp only; omega) ?_ | refine Req.mk ⟨rfl, rfl, rfl, by simp [ci_length, *], rfl, by simp [okCell], by dsimp only; omega, by omega, by decide⟩ ?_ | refine zs (show pendP _ _ by repeat' constructor) ?_ | (with_reducible first | refine brT ‹_› ?_ | refine brF ‹_› ?_ | refine zt (by omega) ?_ | refine zf (by omega) ?_ | refine brNot ?_)); conv => whnf))
    · obtain rfl : p = M.length := by omega
      rw [List.take_length]
      have hbd := rdM_bd M.length M rfl
      generalize rdM M = R at *
      cases ex with
      | none =>
        have e0 : s.length = M.length := by rw [hlen]; rfl
        have g2 : ¬ ((M.length : Int) < s.length) := by omega
        simp only [exPow, exDown] at hpw hdn
        subst hpw hdn
        conv => whnf
        repeat' ((first | refine zs (by omega) ?_ | refine zq6 ?_ | refine zs (by dsimp only; omega) ?_ | refine zs (show pendP _ _ by repeat' constructor) ?_ | (with_reducible first | refine brT ‹_› ?_ | refine brF ‹_› ?_ | refine zt (by omega) ?_ | refine zf (by omega) ?_ | refine brNot ?_)); conv => whnf)
        exact ⟨_, keepT_weak (maskOf 124 [2, 3, 5, 6]) _, rfl, rfl, rfl⟩
      | some x =>
        obtain ⟨e, sg, C⟩ := x
        obtain ⟨he, hsg, hC, hCk⟩ := hex
        simp only [exPow, exDown] at hpw hdn
        have hlC : 0 < C.length := List.length_pos_iff.2 hC
        have hlen2 : s.length = M.length + (1 + (sg.length + C.length)) := by rw [hlen]; simp [expB]; omega
        have g2 : (M.length : Int) < s.length := by omega
        have eb : (s[((M.length : Nat) : Int).toNat]?) = some e := by
          rw [hs, Int.toNat_natCast, List.getElem?_append_right (Nat.le_refl _), Nat.sub_self]; rfl
        have ck := c_kind e.toNat
        rw [he] at ck
        have hCi : ∀ (q : Nat) (c : UInt8), C[q]? = some c → s[M.length + 1 + sg.length + q]? = some c := fun q c h => by
          rw [hs, List.getElem?_append_right (by omega), show M.length + 1 + sg.length + q - M.length = (sg.length + q) + 1 by omega, expB, List.getElem?_cons_succ, List.getElem?_append_right (by omega), Nat.add_sub_cancel_left]; exact h
        have hsx : ∀ x, sg = [x] → (s[((M.length : Int) + 1).toNat]?) = some x := fun x h => by
          rw [hs, show ((M.length : Int) + 1).toNat = M.length + 1 by omega, List.getElem?_append_right (by omega), Nat.add_sub_cancel_left, h]; rfl
        clear hsM hM hs hlen hbd
        rcases Classical.em (sg = []) with rfl | hne
        · obtain ⟨c0, hc0⟩ : ∃ c0, C[0]? = some c0 := ⟨_, List.getElem?_eq_getElem hlC⟩
          have e1 : (s[((M.length : Int) + 1).toNat]?) = some c0 := by
            rw [show ((M.length : Int) + 1).toNat = M.length + 1 + [].length + 0 by simp]; exact hCi 0 c0 hc0
          have ck1 := c_kind c0.toNat
          rw [hCk c0 (List.mem_of_getElem? hc0)] at ck1
          have hd2 : dn = false := by rw [hdn]; rfl
          simp only [List.length_nil] at hCi hlen2
          subst hd2
          conv => whnf
          repeat' (first | (refine ldI _ eb ?_; conv => whnf) | (refine ldI _ e1 ?_; conv => whnf) | (refine lf seat_g ck ?_; conv => whnf) | (refine lf seat_g ck1 ?_; conv => whnf) | ((first | refine zs (by omega) ?_ | refine zq6 ?_ | refine zs (by dsimp only; omega) ?_ | refine Req.mk ⟨rfl, rfl, rfl, by simp [ci_length, *], rfl, by simp [okCell], by dsimp only; omega, by omega, by decide⟩ ?_ | refine zs (show pendP _ _ by repeat' constructor) ?_ | (with_reducible first | refine brT ‹_› ?_ | refine brF ‹_› ?_ | refine zt (by omega) ?_ | refine zf (by omega) ?_ | refine brNot ?_)); conv => whnf))
          refine Sat.cut (fun x t h => x = .exit 3 ∧ (∃ n : Int, n = s.length ∧ t = (.str s::uu::.ptr 0 0::.ptr 1 0::.bool R.seen::.bool false::.int .i64 pw::.int .i64 n::uu::uu::uu::uu::uu::uu::uu::uu::uu::uu::uu::uu::uu::uu::uu::uu::uu::uu::uu::uu::uu::uu::uu::uu::uu::uu::uu::uu::uu::uu::uu::uu::uu::uu::uu::uu::uu::uu::uu::uu::uu::uu::uu::uu::uu::uu::uu::uu::uu::uu::uu::uu::uu::uu::uu::uu::uu::uu::uu::uu::uu::uu::uu::uu::uu::uu::uu::uu::uu::uu::uu::uu::uu::uu::uu::uu::uu::uu::uu::uu::uu::uu::uu::uu::uu::uu::uu::uu::uu::uu::uu::uu::uu::uu::uu::uu::uu::uu::uu::uu::uu::uu::uu::uu::uu::uu::uu::uu::uu::uu::uu::uu::uu::uu::uu::uu::[])) ∧ h = [.var [.bool false, .nils, .int .i64 0] 141, .var [.bool R.below, .vec (ci .u8 R.ds) R.ds.length (some 2), .int .i64 R.pt] 141, .tok R.ds.length 5 1]) ?_ ?_
          · refine Sat.invP seat_ok seat_g (maskOf 124 [0, 2, 3, 4, 5, 6, 7]) 3 (fun μ t h => ∃ (q : Nat) (n : Int), q ≤ C.length ∧ n = ((M.length + 1 + 0 + q : Nat) : Int) ∧ μ = C.length - q ∧ t = (.str s::uu::.ptr 0 0::.ptr 1 0::.bool R.seen::.bool false::.int .i64 (powF 1099511627776 0 (C.take q))::.int .i64 n::uu::uu::uu::uu::uu::uu::uu::uu::uu::uu::uu::uu::uu::uu::uu::uu::uu::uu::uu::uu::uu::uu::uu::uu::uu::uu::uu::uu::uu::uu::uu::uu::uu::uu::uu::uu::uu::uu::uu::uu::uu::uu::uu::uu::uu::uu::uu::uu::uu::uu::uu::uu::uu::uu::uu::uu::uu::uu::uu::uu::uu::uu::uu::uu::uu::uu::uu::uu::uu::uu::uu::uu::uu::uu::uu::uu::uu::uu::uu::uu::uu::uu::uu::uu::uu::uu::uu::uu::uu::uu::uu::uu::uu::uu::uu::uu::uu::uu::uu::uu::uu::uu::uu::uu::uu::uu::uu::uu::uu::uu::uu::uu::uu::uu::uu::uu::[]) ∧ h = [.var [.bool false, .nils, .int .i64 0] 141, .var [.bool R.below, .vec (ci .u8 R.ds) R.ds.length (some 2), .int .i64 R.pt] 141, .tok R.ds.length 5 1]) ?_ ⟨_, _, WeakL.of_eq rfl, 0, _, by omega, by omega, rfl, rfl, rfl⟩ ?_
            · rintro _ _ _ ⟨q, n, -, -, -, rfl, rfl⟩
              exact ⟨rfl, (by simp [IdsL, Ids, IdsH, IdsC, lv_ids, ci_ids]), (by simp [IdsL, Ids, IdsH, IdsC, lv_ids, ci_ids])⟩
            rintro _ _ _ ⟨q, n, hq, hn, rfl, rfl, rfl⟩
            by_cases gq : q < C.length
            · obtain ⟨c, hc⟩ : ∃ c, C[q]? = some c := ⟨_, List.getElem?_eq_getElem gq⟩
              have ec : (s[n.toNat]?) = some c := by rw [hn, Int.toNat_natCast]; exact hCi q c hc
              have hcm := List.mem_of_getElem? hc
              have hc0 := hCk c hcm
              have hcc := kindN_cases c.toNat
              have hpb2 := powF_bd (cap := 1099511627776) (by decide) _ (C.take q) rfl (fun c h => hCk c (List.mem_of_mem_take h))
              have hst : powF 1099511627776 0 (C.take (q + 1)) = if 1099511627776 < 10 * powF 1099511627776 0 (C.take q) + ((c.toNat : Int) - 48) then 1099511627776 else 10 * powF 1099511627776 0 (C.take q) + ((c.toNat : Int) - 48) := by
                rw [← powF_snoc]; congr 1
                rw [List.take_succ_eq_append_getElem gq]; congr 2
                exact (List.getElem?_eq_some_iff.1 hc).2
              generalize powF 1099511627776 0 (C.take q) = P at *
              conv => whnf
              repeat' (first | exact ⟨_, _, Nat.sub_lt_sub_left gq (Nat.lt_succ_self q), WeakL.of_eq rfl, q + 1, n + 1, by omega, by omega, rfl, by rw [hst]; rfl, rfl⟩ | (refine ldI _ ec ?_; conv => whnf) | (refine WrapH.is _ (wrap_u8 (by omega) (by omega)) ?_; conv => whnf) | ((first | refine zs (by omega) ?_ | refine zq6 ?_ | refine zs (by dsimp only; omega) ?_ | refine Req.mk ⟨rfl, rfl, rfl, by simp [ci_length, *], rfl, by simp [okCell], by dsimp only; omega, by omega, by decide⟩ ?_ | refine zs (show pendP _ _ by repeat' constructor) ?_ | (with_reducible first | refine brT ‹_› ?_ | refine brF ‹_› ?_ | refine zt (by omega) ?_ | refine zf (by omega) ?_ | refine brNot ?_)); conv => whnf))
            · rw [List.take_of_length_le (by omega), ← hpw]
              conv => whnf
              repeat' ((first | refine zs (by omega) ?_ | refine zq6 ?_ | refine zs (by dsimp only; omega) ?_ | refine zs (show pendP _ _ by repeat' constructor) ?_ | (with_reducible first | refine brT ‹_› ?_ | refine brF ‹_› ?_ | refine zt (by omega) ?_ | refine zf (by omega) ?_ | refine brNot ?_)); conv => whnf)
              exact ⟨_, keepT_weak (maskOf 124 [0, 2, 3, 4, 5, 6, 7]) _, rfl, ⟨n, by omega, rfl⟩, rfl⟩
          · rintro _ _ _ ⟨rfl, ⟨n, hn, rfl⟩, rfl⟩
            conv => whnf
            repeat' ((first | refine zs (by omega) ?_ | refine zq6 ?_ | refine zs (by dsimp only; omega) ?_ | refine zs (show pendP _ _ by repeat' constructor) ?_ | (with_reducible first | refine brT ‹_› ?_ | refine brF ‹_› ?_ | refine zt (by omega) ?_ | refine zf (by omega) ?_ | refine brNot ?_)); conv => whnf)
            exact ⟨_, _, Nat.lt_of_lt_of_le (Nat.succ_pos 0) (by omega), WeakL.of_eq rfl, .inr ⟨rfl, by rw [hn]; rfl, rfl⟩⟩
        · obtain ⟨x, rfl, hx⟩ : ∃ x, sg = [x] ∧ kindN x.toNat = 3 := by
            rcases hsg with h | h | h
            · exact absurd h hne
            · exact ⟨43, h, by decide⟩
            · exact ⟨45, h, by decide⟩
          have e1 : (s[((M.length : Int) + 1).toNat]?) = some x := hsx x rfl
          have ck1 := c_kind x.toNat
          rw [hx] at ck1
          have hd2 : ((x.toNat : Int) == 45) = dn := by
            rw [hdn]
            rcases hsg with h | h | h
            · cases h
            · cases h; rfl
            · cases h; rfl
          simp only [List.length_singleton] at hCi hlen2
          conv => whnf
          repeat' (first | (refine ldI _ eb ?_; conv => whnf) | (refine ldI _ e1 ?_; conv => whnf) | (refine lf seat_g ck ?_; conv => whnf) | (refine lf seat_g ck1 ?_; conv => whnf) | ((first | refine zs (by omega) ?_ | refine zq6 ?_ | refine zs (by dsimp only; omega) ?_ | refine Req.mk ⟨rfl, rfl, rfl, by simp [ci_length, *], rfl, by simp [okCell], by dsimp only; omega, by omega, by decide⟩ ?_ | refine zs (show pendP _ _ by repeat' constructor) ?_ | (with_reducible first | refine brT ‹_› ?_ | refine brF ‹_› ?_ | refine zt (by omega) ?_ | refine zf (by omega) ?_ | refine brNot ?_)); conv => whnf))
          rw [hd2]
          refine Sat.cut (fun x t h => x = .exit 3 ∧ (∃ n : Int, n = s.length ∧ t = (.str s::uu::.ptr 0 0::.ptr 1 0::.bool R.seen::.bool dn::.int .i64 pw::.int .i64 n::uu::uu::uu::uu::uu::uu::uu::uu::uu::uu::uu::uu::uu::uu::uu::uu::uu::uu::uu::uu::uu::uu::uu::uu::uu::uu::uu::uu::uu::uu::uu::uu::uu::uu::uu::uu::uu::uu::uu::uu::uu::uu::uu::uu::uu::uu::uu::uu::uu::uu::uu::uu::uu::uu::uu::uu::uu::uu::uu::uu::uu::uu::uu::uu::uu::uu::uu::uu::uu::uu::uu::uu::uu::uu::uu::uu::uu::uu::uu::uu::uu::uu::uu::uu::uu::uu::uu::uu::uu::uu::uu::uu::uu::uu::uu::uu::uu::uu::uu::uu::uu::uu::uu::uu::uu::uu::uu::uu::uu::uu::uu::uu::uu::uu::uu::uu::[])) ∧ h = [.var [.bool false, .nils, .int .i64 0] 141, .var [.bool R.below, .vec (ci .u8 R.ds) R.ds.length (some 2), .int .i64 R.pt] 141, .tok R.ds.length 5 1]) ?_ ?_
          · refine Sat.invP seat_ok seat_g (maskOf 124 [0, 2, 3, 4, 5, 6, 7]) 3 (fun μ t h => ∃ (q : Nat) (n : Int), q ≤ C.length ∧ n = ((M.length + 1 + 1 + q : Nat) : Int) ∧ μ = C.length - q ∧ t = (.str s::uu::.ptr 0 0::.ptr 1 0::.bool R.seen::.bool dn::.int .i64 (powF 1099511627776 0 (C.take q))::.int .i64 n::uu::uu::uu::uu::uu::uu::uu::uu::uu::uu::uu::uu::uu::uu::uu::uu::uu::uu::uu::uu::uu::uu::uu::uu::uu::uu::uu::uu::uu::uu::uu::uu::uu::uu::uu::uu::uu::uu::uu::uu::uu::uu::uu::uu::uu::uu::uu::uu::uu::uu::uu::uu::uu::uu::uu::uu::uu::uu::uu::uu::uu::uu::uu::uu::uu::uu::uu::uu::uu::uu::uu::uu::uu::uu::uu::uu::uu::uu::uu::uu::uu::uu::uu::uu::uu::uu::uu::uu::uu::uu::uu::uu::uu::uu::uu::uu::uu::uu::uu::uu::uu::uu::uu::uu::uu::uu::uu::uu::uu::uu::uu::uu::uu::uu::uu::uu::[]) ∧ h = [.var [.bool false, .nils, .int .i64 0] 141, .var [.bool R.below, .vec (ci .u8 R.ds) R.ds.length (some 2), .int .i64 R.pt] 141, .tok R.ds.length 5 1]) ?_ ⟨_, _, WeakL.of_eq rfl, 0, _, by omega, by omega, rfl, rfl, rfl⟩ ?_
            · rintro _ _ _ ⟨q, n, -, -, -, rfl, rfl⟩
              exact ⟨rfl, (by simp [IdsL, Ids, IdsH, IdsC, lv_ids, ci_ids]), (by simp [IdsL, Ids, IdsH, IdsC, lv_ids, ci_ids])⟩
            rintro _ _ _ ⟨q, n, hq, hn, rfl, rfl, rfl⟩
            by_cases gq : q < C.length
            · obtain ⟨c, hc⟩ : ∃ c, C[q]? = some c := ⟨_, List.getElem?_eq_getElem gq⟩
              have ec : (s[n.toNat]?) = some c := by rw [hn, Int.toNat_natCast]; exact hCi q c hc
              have hcm := List.mem_of_getElem? hc
              have hc0 := hCk c hcm
              have hcc := kindN_cases c.toNat
              have hpb2 := powF_bd (cap := 1099511627776) (by decide) _ (C.take q) rfl (fun c h => hCk c (List.mem_of_mem_take h))
              have hst : powF 1099511627776 0 (C.take (q + 1)) = if 1099511627776 < 10 * powF 1099511627776 0 (C.take q) + ((c.toNat : Int) - 48) then 1099511627776 else 10 * powF 1099511627776 0 (C.take q) + ((c.toNat : Int) - 48) := by
                rw [← powF_snoc]; congr 1
                rw [List.take_succ_eq_append_getElem gq]; congr 2
                exact (List.getElem?_eq_some_iff.1 hc).2
              generalize powF 1099511627776 0 (C.take q) = P at *
              conv => whnf
              repeat' (first | exact ⟨_, _, Nat.sub_lt_sub_left gq (Nat.lt_succ_self q), WeakL.of_eq rfl, q + 1, n + 1, by omega, by omega, rfl, by rw [hst]; rfl, rfl⟩ | (refine ldI _ ec ?_; conv => whnf) | (refine WrapH.is _ (wrap_u8 (by omega) (by omega)) ?_; conv => whnf) | ((first | refine zs (by omega) ?_ | refine zq6 ?_ | refine zs (by dsimp only; omega) ?_ | refine Req.mk ⟨rfl, rfl, rfl, by simp [ci_length, *], rfl, by simp [okCell], by dsimp only; omega, by omega, by decide⟩ ?_ | refine zs (show pendP _ _ by repeat' constructor) ?_ | (with_reducible first | refine brT ‹_› ?_ | refine brF ‹_› ?_ | refine zt (by omega) ?_ | refine zf (by omega) ?_ | refine brNot ?_)); conv => whnf))
            · rw [List.take_of_length_le (by omega), ← hpw]
              conv => whnf
              repeat' ((first | refine zs (by omega) ?_ | refine zq6 ?_ | refine zs (by dsimp only; omega) ?_ | refine zs (show pendP _ _ by repeat' constructor) ?_ | (with_reducible first | refine brT ‹_› ?_ | refine brF ‹_› ?_ | refine zt (by omega) ?_ | refine zf (by omega) ?_ | refine brNot ?_)); conv => whnf)
              exact ⟨_, keepT_weak (maskOf 124 [0, 2, 3, 4, 5, 6, 7]) _, rfl, ⟨n, by omega, rfl⟩, rfl⟩
          · rintro _ _ _ ⟨rfl, ⟨n, hn, rfl⟩, rfl⟩
            conv => whnf
            repeat' ((first | refine zs (by omega) ?_ | refine zq6 ?_ | refine zs (by dsimp only; omega) ?_ | refine zs (show pendP _ _ by repeat' constructor) ?_ | (with_reducible first | refine brT ‹_› ?_ | refine brF ‹_› ?_ | refine zt (by omega) ?_ | refine zf (by omega) ?_ | refine brNot ?_)); conv => whnf)
            exact ⟨_, _, Nat.lt_of_lt_of_le (Nat.succ_pos 0) (by omega), WeakL.of_eq rfl, .inr ⟨rfl, by rw [hn]; rfl, rfl⟩⟩
  · rintro _ _ _ ⟨rfl, rfl, rfl⟩
    have hbd := rdM_bd M.length M rfl
    have hMl : M.length ≤ 1000000 := by omega
    clear hsM hM hpw hdn hs hlen
    generalize rdM M = R at *
    conv => whnf
    refine Sat.cut (fun x t h => x = .exit 5 ∧ t = (uu::uu::.ptr 0 0::.ptr 1 0::uu::.bool dn::.int .i64 pw::uu::uu::uu::uu::uu::uu::uu::uu::uu::uu::uu::uu::uu::uu::uu::uu::uu::uu::uu::uu::uu::uu::uu::uu::uu::uu::uu::uu::uu::uu::uu::uu::uu::uu::uu::uu::uu::uu::uu::uu::uu::uu::uu::uu::uu::uu::uu::uu::uu::uu::uu::uu::uu::uu::uu::uu::uu::uu::uu::uu::uu::uu::uu::uu::uu::uu::uu::uu::uu::uu::uu::uu::uu::uu::uu::uu::uu::uu::uu::uu::uu::uu::uu::uu::uu::uu::uu::uu::uu::uu::uu::uu::uu::uu::uu::uu::uu::uu::uu::uu::uu::uu::uu::uu::uu::uu::uu::uu::uu::uu::uu::uu::uu::uu::uu::uu::uu::[]) ∧ ∃ (g : Option Nat), h = [.var [.bool false, .nils, .int .i64 0] 141, .var [.bool R.below, .vec (ci .u8 (stripL R.ds)) (stripL R.ds).length g, .int .i64 R.pt] 141, .tok R.ds.length 5 1]) ?_ ?_
    · refine Sat.invP seat_ok seat_g (maskOf 124 [2, 3, 5, 6]) 3 (fun μ t h => ∃ (d : List Int) (g : Option Nat), (g = none ∨ g = some 2) ∧ d.length ≤ 1000000 ∧ stripL d = stripL R.ds ∧ μ = d.length ∧ t = (uu::uu::.ptr 0 0::.ptr 1 0::uu::.bool dn::.int .i64 pw::uu::uu::uu::uu::uu::uu::uu::uu::uu::uu::uu::uu::uu::uu::uu::uu::uu::uu::uu::uu::uu::uu::uu::uu::uu::uu::uu::uu::uu::uu::uu::uu::uu::uu::uu::uu::uu::uu::uu::uu::uu::uu::uu::uu::uu::uu::uu::uu::uu::uu::uu::uu::uu::uu::uu::uu::uu::uu::uu::uu::uu::uu::uu::uu::uu::uu::uu::uu::uu::uu::uu::uu::uu::uu::uu::uu::uu::uu::uu::uu::uu::uu::uu::uu::uu::uu::uu::uu::uu::uu::uu::uu::uu::uu::uu::uu::uu::uu::uu::uu::uu::uu::uu::uu::uu::uu::uu::uu::uu::uu::uu::uu::uu::uu::uu::uu::uu::[]) ∧
        h = [.var [.bool false, .nils, .int .i64 0] 141, .var [.bool R.below, .vec (ci .u8 d) d.length g, .int .i64 R.pt] 141, .tok R.ds.length 5 1]) ?_ ⟨_, _, WeakL.of_eq rfl, R.ds, some 2, .inr rfl, by omega, rfl, rfl, rfl, rfl⟩ ?_
      · rintro _ _ _ ⟨d, g, hg, -, -, -, rfl, rfl⟩
        rcases hg with rfl | rfl
        · exact ⟨rfl, (by simp [IdsL, Ids, IdsH, IdsC, lv_ids, ci_ids]), (by simp [IdsL, Ids, IdsH, IdsC, lv_ids, ci_ids])⟩
        · exact ⟨rfl, (by simp [IdsL, Ids, IdsH, IdsC, lv_ids, ci_ids]), (by simp [IdsL, Ids, IdsH, IdsC, lv_ids, ci_ids])⟩
      rintro _ _ _ ⟨d, g, hg, hdl, hd, rfl, rfl, rfl⟩
      rcases List.eq_nil_or_concat d with rfl | ⟨d', x, rfl⟩
      · have e0 : stripL [] = [] := rfl
        rw [← hd, e0]
        conv => whnf
        repeat' ((first | refine zs (by omega) ?_ | refine zq6 ?_ | refine zs (by dsimp only; omega) ?_ | refine zs (show pendP _ _ by repeat' constructor) ?_ | (with_reducible first | refine brT ‹_› ?_ | refine brF ‹_› ?_ | refine zt (by omega) ?_ | refine zf (by omega) ?_ | refine brNot ?_)); conv => whnf)
        exact ⟨_, keepT_weak (maskOf 124 [2, 3, 5, 6]) _, rfl, rfl, g, rfl⟩
      · rw [List.concat_eq_append] at *
        have hl2 : (d' ++ [x]).length = d'.length + 1 := by simp
        have h0 : (0 : Int) < (d' ++ [x]).length := by omega
        have ex : (d' ++ [x])[((d' ++ [x]).length - 1 : Int).toNat]? = some x := by
          rw [hl2, show (((d'.length + 1 : Nat) : Int) - 1).toNat = d'.length by omega]; simp
        have hld := ci_sub .u8 ex
        rw [stripL_last] at hd
        by_cases hx : x = 0
        · rw [if_pos hx] at hd
          have hpt : AV.vec (((ci .u8 (d' ++ [x])).drop (0 * 1)).take ((((d' ++ [x]).length - 1 : Int).toNat - 0) * 1)) (((d' ++ [x]).length - 1 : Int).toNat - 0) none = .vec (ci .u8 d') d'.length none := by
            rw [hl2, show (((d'.length + 1 : Nat) : Int) - 1).toNat = d'.length by omega]
            simp [ci]
          conv => whnf
          repeat' (first | (refine ldI _ hld ?_; conv => whnf) | ((first | refine zs (by omega) ?_ | refine zq6 ?_ | refine zs (by dsimp only; omega) ?_ | refine Req.mk ⟨rfl, rfl, rfl, by simp [ci_length, *], rfl, by simp [okCell], by dsimp only; omega, by omega, by decide⟩ ?_ | refine zs (show pendP _ _ by repeat' constructor) ?_ | (with_reducible first | refine brT ‹_› ?_ | refine brF ‹_› ?_ | refine zt (by omega) ?_ | refine zf (by omega) ?_ | refine brNot ?_)); conv => whnf))
          exact ⟨_, _, by rw [hl2]; exact Nat.lt_succ_self _, WeakL.of_eq rfl, d', none, .inl rfl, by omega, hd, rfl, rfl, congrArg (fun v : AV => ([.var [.bool false, .nils, .int .i64 0] 141, .var [.bool R.below, v, .int .i64 R.pt] 141, .tok R.ds.length 5 1] : Heap)) hpt⟩
        · rw [if_neg hx] at hd
          rw [← hd]
          conv => whnf
          repeat' (first | (refine ldI _ hld ?_; conv => whnf) | ((first | refine zs (by omega) ?_ | refine zq6 ?_ | refine zs (by dsimp only; omega) ?_ | refine Req.mk ⟨rfl, rfl, rfl, by simp [ci_length, *], rfl, by simp [okCell], by dsimp only; omega, by omega, by decide⟩ ?_ | refine zs (show pendP _ _ by repeat' constructor) ?_ | (with_reducible first | refine brT ‹_› ?_ | refine brF ‹_› ?_ | refine zt (by omega) ?_ | refine zf (by omega) ?_ | refine brNot ?_)); conv => whnf))
          exact ⟨_, keepT_weak (maskOf 124 [2, 3, 5, 6]) _, rfl, rfl, g, rfl⟩
    · rintro _ _ _ ⟨rfl, rfl, g, rfl⟩
      have hw : ∀ (z : Int), Weak (.agg [.bool R.below, .vec (ci .u8 (stripL R.ds)) (stripL R.ds).length g, .int .i64 z]) (.agg [.bool R.below, .vec (ci .u8 (stripL R.ds)) (stripL R.ds).length none, .int .i64 z]) := fun z => Weak.agg (WeakL.cons (Weak.refl _) (WeakL.cons Weak.tok (WeakL.refl _)))
      unfold numV
      cases dn with
      | false =>
        conv => whnf
        repeat' ((first | refine zs (by omega) ?_ | refine zq6 ?_ | refine zs (by dsimp only; omega) ?_ | refine zs (show pendP _ _ by repeat' constructor) ?_ | (with_reducible first | refine brT ‹_› ?_ | refine brF ‹_› ?_ | refine zt (by omega) ?_ | refine zf (by omega) ?_ | refine brNot ?_)); conv => whnf)
        exact .inl ⟨_, _, rfl, hw _, rfl⟩
      | true =>
        conv => whnf
        repeat' ((first | refine zs (by omega) ?_ | refine zq6 ?_ | refine zs (by dsimp only; omega) ?_ | refine zs (show pendP _ _ by repeat' constructor) ?_ | (with_reducible first | refine brT ‹_› ?_ | refine brF ‹_› ?_ | refine zt (by omega) ?_ | refine zf (by omega) ?_ | refine brNot ?_)); conv => whnf)
        exact .inl ⟨_, _, rfl, hw _, rfl⟩
end Go.Proofs.YteicdddheaajlaaDoor
namespace Go.Proofs.YteicdddheaajlaaDoor
open Go.Abs
theorem div_fin {A B1 B0 q X : Int} (hX : X = A * 4294967296 + B1) (b3 : 0 ≤ B0) (b4 : B0 < 4294967296) (hm : (A * 18446744073709551616 + (B1 * 4294967296 + B0)) % 128 = 0) (h1 : q * 12800000000000000000 ≤ X * 4294967296 + B0) (h2 : X * 4294967296 + B0 < q * 12800000000000000000 + 12800000000000000000) :
    q = (A * 18446744073709551616 + (B1 * 4294967296 + B0)) / 128 / 100000000000000000 ∧ (X * 4294967296 % 18446744073709551616 + B0 - q * 12800000000000000000 % 18446744073709551616) % 18446744073709551616 / 128 = (A * 18446744073709551616 + (B1 * 4294967296 + B0)) / 128 % 100000000000000000 ∧ (X * 4294967296 + B0 - q * 12800000000000000000) / 128 = (A * 18446744073709551616 + (B1 * 4294967296 + B0)) / 128 % 100000000000000000 := by
  have hT : A * 18446744073709551616 + (B1 * 4294967296 + B0) = X * 4294967296 + B0 := by omega
  rw [hT] at hm ⊢
  clear hT hX
  have e : (X * 4294967296 % 18446744073709551616 + B0 - q * 12800000000000000000 % 18446744073709551616) % 18446744073709551616 = X * 4294967296 + B0 - q * 12800000000000000000 := by
    have e1 : (X * 4294967296 % 18446744073709551616 + B0 - q * 12800000000000000000 % 18446744073709551616) % 18446744073709551616 = (X * 4294967296 + B0 - q * 12800000000000000000) % 18446744073709551616 := by omega
    rw [e1, Int.emod_eq_of_lt (by omega) (by omega)]
  rw [e]
  clear e
  generalize X * 4294967296 + B0 = T at *
  have e2 : T / 128 * 128 = T := by omega
  generalize T / 128 = N at *
  subst e2
  refine ⟨?_, ?_, ?_⟩ <;> omega
set_option maxRecDepth 20000 in
set_option maxHeartbeats 1000000 in
theorem c_div17 (hi lo : Int) (hh : 0 ≤ hi ∧ hi ≤ 400) (hl : U64 lo) : ACalls seat 96 [.int .u64 hi, .int .u64 lo, .int .u64 100000000000000000] [] (fun x _ => x = .ret (.tup [.int .u64 ((hi * 18446744073709551616 + lo) / 100000000000000000), .int .u64 ((hi * 18446744073709551616 + lo) % 100000000000000000)])) := by
  refine ACalls.body seat_ok Tryd.func96 rfl rfl ?_
  obtain ⟨l1, l2⟩ := hl
  obtain ⟨h1, h2⟩ := hh
  by_cases g : hi = 0
  · subst g
    rw [show (0 : Int) * 18446744073709551616 + lo = lo by omega]
    conv => whnf
    repeat' ((first | refine zs (by omega) ?_ | refine zq6 ?_ | refine zs (by dsimp only; omega) ?_ | refine zs (show pendP _ _ by repeat' constructor) ?_ | (with_reducible first | refine brT ‹_› ?_ | refine brF ‹_› ?_ | refine zt (by omega) ?_ | refine zf (by omega) ?_ | refine brNot ?_)); conv => whnf)
    refine DrawH.plan seat_ok (.take 0 (.take 1 (.take 2 (.take 3 (.take 4 (.take 5 (.take 6 (.take 7 Plan.done)))))))) 0 (by kernel_rfl) ?_
    conv => whnf
    repeat' (first | exact rfl | ((first | refine zs (by omega) ?_ | refine zq6 ?_ | refine zs (by dsimp only; omega) ?_ | refine zs (show pendP _ _ by repeat' constructor) ?_ | (with_reducible first | refine brT ‹_› ?_ | refine brF ‹_› ?_ | refine zt (by omega) ?_ | refine zf (by omega) ?_ | refine brNot ?_)); conv => whnf) | (refine And.intro ?_ ?_ <;> (conv => whnf)))
  have hor : IntKind.wrap .u64 ((BitVec.ofInt (IntKind.bits .u64) (hi * 128) ||| BitVec.ofInt (IntKind.bits .u64) (lo / 144115188075855872)).toNat : Int) = hi * 128 + lo / 144115188075855872 := by
    have := or_u64 (a := hi) (b := lo / 144115188075855872) (k := 7) h1 (by omega) (by omega)
    rw [show (2 : Int) ^ 7 * hi = hi * 128 by omega] at this
    exact this
  conv => whnf
  repeat' (first | (refine lf seat_g c_len17 ?_; conv => whnf) | (refine Req.mk (by decide) ?_; refine WrapH.is 12800000000000000000 (by decide) ?_; conv => whnf) | ((first | refine zs (by omega) ?_ | refine zq6 ?_ | refine zs (by dsimp only; omega) ?_ | refine zs (show pendP _ _ by repeat' constructor) ?_ | (with_reducible first | refine brT ‹_› ?_ | refine brF ‹_› ?_ | refine zt (by omega) ?_ | refine zf (by omega) ?_ | refine brNot ?_)); conv => whnf))
  refine NumH.is 2980232238 (by decide) ?_
  conv => whnf
  refine WrapH.is 3305111552 (by decide) ?_
  conv => whnf
  refine Req.mk (by decide) ?_
  conv => whnf
  refine WrapH.is (hi * 128) (wrap_u64 (n := hi * 128) (by omega) (by omega)) ?_
  conv => whnf
  repeat' ((first | refine zs (by omega) ?_ | refine zq6 ?_ | refine zs (by dsimp only; omega) ?_ | refine zs (show pendP _ _ by repeat' constructor) ?_ | (with_reducible first | refine brT ‹_› ?_ | refine brF ‹_› ?_ | refine zt (by omega) ?_ | refine zf (by omega) ?_ | refine brNot ?_)); conv => whnf)
  refine NumH.is (lo / 144115188075855872) (fdiv_is (c := 144115188075855872) (by decide) (by decide)) ?_
  conv => whnf
  refine WrapH.is _ hor ?_
  conv => whnf
  refine Req.mk (by decide) ?_
  conv => whnf
  refine WrapH.is (lo * 128 % 18446744073709551616) (wrap_u64m (n := lo * 128)) ?_
  conv => whnf
  refine Req.mk (by decide) ?_
  conv => whnf
  have eN : hi * 18446744073709551616 + lo = ((hi * 128 + lo / 144115188075855872) * 18446744073709551616 + lo * 128 % 18446744073709551616) / 128 := by omega
  have eN2 : ((hi * 128 + lo / 144115188075855872) * 18446744073709551616 + lo * 128 % 18446744073709551616) % 128 = 0 := by omega
  rw [eN]
  have hA : 0 ≤ hi * 128 + lo / 144115188075855872 ∧ hi * 128 + lo / 144115188075855872 ≤ 51400 := by omega
  have hB : 0 ≤ lo * 128 % 18446744073709551616 ∧ lo * 128 % 18446744073709551616 < 18446744073709551616 := by omega
  clear hor eN
  generalize hi * 128 + lo / 144115188075855872 = A at *
  generalize lo * 128 % 18446744073709551616 = B at *
  clear g h1 h2 l1 l2
  refine NumH.is (B / 4294967296) (fdiv_is (c := 4294967296) (by decide) (by decide)) ?_
  conv => whnf
  refine WrapH.is _ and_u64' ?_
  conv => whnf
  have hq1 : IntKind.wrap .u64 (A.tdiv 2980232238) = 0 := by
    rw [Int.tdiv_eq_ediv_of_nonneg hA.1, Int.ediv_eq_zero_of_lt hA.1 (by omega)]; rfl
  have hB1 : B / 4294967296 * 4294967296 + B % 4294967296 = B := by omega
  have hB2 : 0 ≤ B / 4294967296 ∧ B / 4294967296 < 4294967296 ∧ 0 ≤ B % 4294967296 ∧ B % 4294967296 < 4294967296 := by omega
  generalize B / 4294967296 = B1 at *
  generalize B % 4294967296 = B0 at *
  subst hB1
  obtain ⟨b1, b2, b3, b4⟩ := hB2
  clear hB
  repeat' ((first | refine zs (by omega) ?_ | refine zq6 ?_ | refine zs (by dsimp only; omega) ?_ | refine zs (show pendP _ _ by repeat' constructor) ?_ | (with_reducible first | refine brT ‹_› ?_ | refine brF ‹_› ?_ | refine zt (by omega) ?_ | refine zf (by omega) ?_ | refine brNot ?_)); conv => whnf)
  refine Sat.unroll seat_ok 1 ?_
  conv => whnf
  repeat' ((first | refine zs (by omega) ?_ | refine zq6 ?_ | refine zs (by dsimp only; omega) ?_ | refine zs (show pendP _ _ by repeat' constructor) ?_ | (with_reducible first | refine brT ‹_› ?_ | refine brF ‹_› ?_ | refine zt (by omega) ?_ | refine zf (by omega) ?_ | refine brNot ?_)); conv => whnf)
  have hX : A * 4294967296 + B1 - A / 2980232238 * 12800000000000000000 = A * 4294967296 + B1 := by omega
  by_cases c : (A * 4294967296 + B1 - A / 2980232238 * 12800000000000000000) / 2980232238 * 3305111552 > 4294967296 * ((A * 4294967296 + B1 - A / 2980232238 * 12800000000000000000) - (A * 4294967296 + B1 - A / 2980232238 * 12800000000000000000) / 2980232238 * 2980232238) + B0
  · by_cases d : (A * 4294967296 + B1 - A / 2980232238 * 12800000000000000000) - (A * 4294967296 + B1 - A / 2980232238 * 12800000000000000000) / 2980232238 * 2980232238 + 2980232238 ≥ 4294967296
    · refine Sat.unroll seat_ok 1 ?_
      conv => whnf
      repeat' ((first | refine zs (by omega) ?_ | refine zq6 ?_ | refine zs (by dsimp only; omega) ?_ | refine zs (show pendP _ _ by repeat' constructor) ?_ | (with_reducible first | refine brT ‹_› ?_ | refine brF ‹_› ?_ | refine zt (by omega) ?_ | refine zf (by omega) ?_ | refine brNot ?_)); conv => whnf)
      repeat' (first | (refine NumH.is _ (fdiv_is (c := 128) (by decide) (by decide)) ?_; conv => whnf) | ((first | refine zs (by omega) ?_ | refine zq6 ?_ | refine zs (by dsimp only; omega) ?_ | refine zs (show pendP _ _ by repeat' constructor) ?_ | (with_reducible first | refine brT ‹_› ?_ | refine brF ‹_› ?_ | refine zt (by omega) ?_ | refine zf (by omega) ?_ | refine brNot ?_)); conv => whnf))
      refine congrArg AEnd.ret (congrArg AV.tup ?_)
      have f := div_fin (X := (A * 4294967296 + B1 - A / 2980232238 * 12800000000000000000)) (q := (A * 4294967296 + B1 - A / 2980232238 * 12800000000000000000) / 2980232238 - 1) (by omega) b3 b4 eN2 (by omega) (by omega)
      exact List.cons_eq_cons.2 ⟨congrArg (AV.int .u64) (by rw [← f.1]; omega), List.cons_eq_cons.2 ⟨congrArg (AV.int .u64) (by first | exact f.2.1 | exact f.2.2), rfl⟩⟩
    · refine Sat.unroll seat_ok 2 ?_
      conv => whnf
      repeat' ((first | refine zs (by omega) ?_ | refine zq6 ?_ | refine zs (by dsimp only; omega) ?_ | refine zs (show pendP _ _ by repeat' constructor) ?_ | (with_reducible first | refine brT ‹_› ?_ | refine brF ‹_› ?_ | refine zt (by omega) ?_ | refine zf (by omega) ?_ | refine brNot ?_)); conv => whnf)
      repeat' (first | (refine NumH.is _ (fdiv_is (c := 128) (by decide) (by decide)) ?_; conv => whnf) | ((first | refine zs (by omega) ?_ | refine zq6 ?_ | refine zs (by dsimp only; omega) ?_ | refine zs (show pendP _ _ by repeat' constructor) ?_ | (with_reducible first | refine brT ‹_› ?_ | refine brF ‹_› ?_ | refine zt (by omega) ?_ | refine zf (by omega) ?_ | refine brNot ?_)); conv => whnf))
      refine congrArg AEnd.ret (congrArg AV.tup ?_)
      have f := div_fin (X := (A * 4294967296 + B1 - A / 2980232238 * 12800000000000000000)) (q := (A * 4294967296 + B1 - A / 2980232238 * 12800000000000000000) / 2980232238 - 1) (by omega) b3 b4 eN2 (by omega) (by omega)
      exact List.cons_eq_cons.2 ⟨congrArg (AV.int .u64) (by rw [← f.1]; omega), List.cons_eq_cons.2 ⟨congrArg (AV.int .u64) (by first | exact f.2.1 | exact f.2.2), rfl⟩⟩
  · refine Sat.unroll seat_ok 1 ?_
    conv => whnf
    repeat' ((first | refine zs (by omega) ?_ | refine zq6 ?_ | refine zs (by dsimp only; omega) ?_ | refine zs (show pendP _ _ by repeat' constructor) ?_ | (with_reducible first | refine brT ‹_› ?_ | refine brF ‹_› ?_ | refine zt (by omega) ?_ | refine zf (by omega) ?_ | refine brNot ?_)); conv => whnf)
    repeat' (first | (refine NumH.is _ (fdiv_is (c := 128) (by decide) (by decide)) ?_; conv => whnf) | ((first | refine zs (by omega) ?_ | refine zq6 ?_ | refine zs (by dsimp only; omega) ?_ | refine zs (show pendP _ _ by repeat' constructor) ?_ | (with_reducible first | refine brT ‹_› ?_ | refine brF ‹_› ?_ | refine zt (by omega) ?_ | refine zf (by omega) ?_ | refine brNot ?_)); conv => whnf))
    refine congrArg AEnd.ret (congrArg AV.tup ?_)
    have f := div_fin (X := (A * 4294967296 + B1 - A / 2980232238 * 12800000000000000000)) (q := (A * 4294967296 + B1 - A / 2980232238 * 12800000000000000000) / 2980232238) (by omega) b3 b4 eN2 (by omega) (by omega)
    exact List.cons_eq_cons.2 ⟨congrArg (AV.int .u64) (by rw [← f.1]; omega), List.cons_eq_cons.2 ⟨congrArg (AV.int .u64) (by first | exact f.2.1 | exact f.2.2), rfl⟩⟩
end Go.Proofs.YteicdddheaajlaaDoor
