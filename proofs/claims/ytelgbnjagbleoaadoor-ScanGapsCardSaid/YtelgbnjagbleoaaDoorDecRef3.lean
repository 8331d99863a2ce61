/- The document's reading of a number's text: the walk. Conditions: the text is one, and has at most 400 bytes. -/
import Derived.Test.YtelgbnjagbleoaaDoorDecRef2
import Derived.Test.YtelgbnjagbleoaaDoorNearG
import Derived.Test.YtelgbnjagbleoaaDoorDecRead
import Derived.Test.YtelgbnjagbleoaaDoorBits
set_option linter.unusedSimpArgs false
set_option linter.unusedVariables false
set_option linter.deprecated false
namespace Go.Proofs.YtelgbnjagbleoaaDoor
open Go.Abs
def rStep (r : Nat × Nat × Bool) (b : UInt8) : Nat × Nat × Bool :=
  if kindN b.toNat = 1 then (r.1, r.2.1, true) else (r.1 * 10 + ((b.toNat : Int) - 48).toNat, if r.2.2 = true then r.2.1 + 1 else r.2.1, r.2.2)
def rFold (l : List UInt8) : Nat × Nat × Bool := l.foldl rStep (0, 0, false)
theorem rFold_snoc (l : List UInt8) (b : UInt8) : rFold (l ++ [b]) = rStep (rFold l) b := by simp [rFold]
theorem ten_le {n k : Nat} (h : n ≤ 4 * k) : 10 ^ n ≤ 65536 ^ k :=
  calc 10 ^ n ≤ 16 ^ n := Nat.pow_le_pow_left (by decide) n
    _ ≤ 16 ^ (4 * k) := Nat.pow_le_pow_right (by decide) h
    _ = 65536 ^ k := by rw [Nat.pow_mul]
theorem rFold_bd : ∀ (n : Nat) (l : List UInt8), l.length = n → (∀ b ∈ l, kindN b.toNat = 0 ∨ kindN b.toNat = 1) → (rFold l).1 < 10 ^ n ∧ (rFold l).2.1 ≤ n
  | 0, l, h, _ => by
    obtain rfl := List.length_eq_zero_iff.1 h
    decide
  | n + 1, l, h, hk => by
    have hne : l ≠ [] := by intro h2; rw [h2] at h; simp at h
    have e := (List.dropLast_concat_getLast hne).symm
    have hl : l.dropLast.length = n := by rw [List.length_dropLast]; omega
    have ih := rFold_bd n _ hl (fun c h => hk c (List.dropLast_subset _ h))
    have h0 := kindN_cases (l.getLast hne).toNat
    have h1 := hk _ (List.getLast_mem hne)
    rw [e, rFold_snoc]
    generalize l.getLast hne = b at *
    generalize rFold l.dropLast = r at *
    unfold rStep
    have hp : 10 ^ (n + 1) = 10 ^ n * 10 := Nat.pow_succ ..
    split
    · exact ⟨by rw [hp]; omega, by simp only; omega⟩
    · refine ⟨?_, ?_⟩
      · simp only; rw [hp]; omega
      · simp only; split <;> omega
theorem c_small (n : Nat) (h : n ≤ 100000) : ACalls seat 39 [.int .i64 n] [] (fun x _ => x = .ret (nv false n)) := by
  have co : ACalls seat 22 [.int .i64 n] [] (fun x _ => x = .ret (nv false n)) := by
    have c0 := c_of n (show I64 n by unfold I64; omega)
    rw [decide_eq_false (by omega), Int.natAbs_natCast] at c0
    exact c0
  refine ACalls.body seat_ok Tryd.func39 rfl rfl ?_
  conv => whnf
  repeat' (first | exact rfl | (refine CallH.lift seat_g co (by simp [Closed, ClosedL]) (nv_closed _ _) ?_; conv => whnf) | ((first | refine zq1 (by omega) ?_ | refine zq2 (by omega) ?_ | refine NumH.rem (by omega) ?_ | refine zq4 (by omega) ?_ | refine zq5 (by omega) ?_ | refine zq6 ?_ | refine Req.mk (by omega) ?_ | refine Req.mk (by dsimp only; omega) ?_ | refine Req.mk ⟨rfl, rfl, rfl, by simp [ci_length, *], rfl, by simp [okCell], by dsimp only; omega, by omega, by decide⟩ ?_ | refine Req.mk (show pendP _ _ by repeat' constructor) ?_ | (with_reducible refine brT ?_ ?_; next => assumption) | (with_reducible refine brF ?_ ?_; next => assumption) | (with_reducible refine brDT ?_ ?_; next => omega) | (with_reducible refine brDF ?_ ?_; next => omega) | (with_reducible refine brET ?_ ?_; next => omega) | (with_reducible refine brEF ?_ ?_; next => omega) | (with_reducible refine brNET ?_ ?_; next => omega) | (with_reducible refine brNEF ?_ ?_; next => omega) | with_reducible refine brNot ?_); conv => whnf))
def rV (below : Bool) (N : Nat) (P : Int) : AV := .agg [.bool below, .bool false, lv (dig N), .int .i64 P]
theorem rV_closed (below : Bool) (N : Nat) (P : Int) : Closed (rV below N P) := by simp [rV, Closed, ClosedL, lv_closed]
/-- no number yet, or one -/
def dgV (N : Nat) (v : AV) : Prop := (v = .nils ∧ N = 0) ∨ v = lv (dig N)
set_option maxRecDepth 20000 in
set_option maxHeartbeats 2000000 in
theorem c_rread (S M : List UInt8) (ex : Option (UInt8 × List UInt8 × List UInt8)) (hS : S = [] ∨ S = [43] ∨ S = [45]) (hM : ∀ b ∈ M, kindN b.toNat = 0 ∨ kindN b.toNat = 1) (hex : exOK ex) (hl : (S ++ (M ++ expB ex)).length ≤ 400) :
    ACalls seat 37 [.str (S ++ (M ++ expB ex))] [] (fun x _ => x = .ret (rV (S == [45]) (rFold M).1 ((if exDown ex = true then 0 - exPow 1000 ex else exPow 1000 ex) - (rFold M).2.1))) := by
  refine ACalls.weakR ?_
  refine ACalls.bodyS seat_ok Tryd.func37 rfl rfl ?_
  obtain ⟨s, hs⟩ : ∃ s, s = S ++ (M ++ expB ex) := ⟨_, rfl⟩
  have hlen : s.length = S.length + (M.length + (expB ex).length) := by rw [hs, List.length_append, List.length_append]
  have hsM : ∀ (p : Nat) (b : UInt8), M[p]? = some b → s[S.length + p]? = some b := fun p b h => by
    rw [hs, List.getElem?_append_right (by omega), Nat.add_sub_cancel_left, List.getElem?_append_left (List.getElem?_eq_some_iff.1 h).1]; exact h
  rw [← hs] at hl ⊢
  obtain ⟨pw, hpw⟩ : ∃ pw, pw = exPow 1000 ex := ⟨_, rfl⟩
  obtain ⟨dn, hdn⟩ : ∃ dn, dn = exDown ex := ⟨_, rfl⟩
  have hpb : 0 ≤ pw ∧ pw ≤ 1000 := by
    rw [hpw]
    cases ex with
    | none => simp [exPow]
    | some x => exact powF_bd (by decide) _ _ rfl hex.2.2.2
  rw [← hpw, ← hdn]
  refine Sat.splitAt seat_ok (fun t h => t = (.str s :: uu :: .ptr 0 0 :: .ptr 1 0 :: .int .i64 S.length :: .int .i64 0 :: .bool false :: uu :: uu :: uu :: uu :: uu :: uu :: uu :: uu :: uu :: uu :: uu :: uu :: uu :: uu :: uu :: uu :: uu :: uu :: uu :: uu :: uu :: uu :: uu :: uu :: uu :: uu :: uu :: uu :: uu :: uu :: uu :: uu :: uu :: uu :: uu :: uu :: uu :: uu :: uu :: uu :: uu :: uu :: uu :: uu :: uu :: uu :: uu :: uu :: uu :: uu :: uu :: uu :: uu :: uu :: uu :: uu :: uu :: uu :: uu :: uu :: uu :: uu :: uu :: uu :: uu :: uu :: uu :: uu :: uu :: uu :: uu :: uu :: uu :: uu :: uu :: uu :: uu :: uu :: uu :: uu :: uu :: uu :: uu :: uu :: uu :: uu :: uu :: uu :: []) ∧ h = [.var [.bool false, .bool false, .nils, .int .i64 0] 73, .var [.bool (S == [45]), .bool false, .nils, .int .i64 0] 73]) 6 ?_ ?_
  · have cs := c_rsign s 0
    rw [List.drop_zero] at cs
    rcases hS with rfl | rfl | rfl
    · have hk : kd s ≠ 3 := by
        rw [hs]
        cases M with
        | cons b l => have := hM b (.head _); simp only [List.nil_append, List.cons_append, kd]; omega
        | nil =>
          cases ex with
          | none => decide
          | some x => obtain ⟨e, sg, C⟩ := x; have := hex.1; simp only [List.nil_append, expB, kd]; omega
      rw [decide_eq_false hk] at cs
      conv => whnf
      repeat' (first | exact ⟨_, keepT_weak (maskOf 95 [0, 2, 3, 4, 5, 6]) _, rfl, rfl⟩ | (refine CallH.lift seat_g cs (by simp [Closed, ClosedL]) (by simp [Closed]) ?_; conv => whnf) | ((first | refine zq1 (by omega) ?_ | refine zq2 (by omega) ?_ | refine NumH.rem (by omega) ?_ | refine zq4 (by omega) ?_ | refine zq5 (by omega) ?_ | refine zq6 ?_ | refine Req.mk (by omega) ?_ | refine Req.mk (by dsimp only; omega) ?_ | refine Req.mk ⟨rfl, rfl, rfl, by simp [ci_length, *], rfl, by simp [okCell], by dsimp only; omega, by omega, by decide⟩ ?_ | refine Req.mk (show pendP _ _ by repeat' constructor) ?_ | (with_reducible refine brT ?_ ?_; next => assumption) | (with_reducible refine brF ?_ ?_; next => assumption) | (with_reducible refine brDT ?_ ?_; next => omega) | (with_reducible refine brDF ?_ ?_; next => omega) | (with_reducible refine brET ?_ ?_; next => omega) | (with_reducible refine brEF ?_ ?_; next => omega) | (with_reducible refine brNET ?_ ?_; next => omega) | (with_reducible refine brNEF ?_ ?_; next => omega) | with_reducible refine brNot ?_); conv => whnf))
    · have hk : kd s = 3 := by rw [hs]; rfl
      have eb : (s[(0 : Int).toNat]?) = some 43 := by rw [hs]; rfl
      have gl : (0 : Int) < s.length := by simp only [List.length_singleton] at hlen; omega
      rw [decide_eq_true hk] at cs
      conv => whnf
      repeat' (first | exact ⟨_, keepT_weak (maskOf 95 [0, 2, 3, 4, 5, 6]) _, rfl, rfl⟩ | (refine CallH.lift seat_g cs (by simp [Closed, ClosedL]) (by simp [Closed]) ?_; conv => whnf) | (refine ldI _ eb ?_; conv => whnf) | ((first | refine zq1 (by omega) ?_ | refine zq2 (by omega) ?_ | refine NumH.rem (by omega) ?_ | refine zq4 (by omega) ?_ | refine zq5 (by omega) ?_ | refine zq6 ?_ | refine Req.mk (by omega) ?_ | refine Req.mk (by dsimp only; omega) ?_ | refine Req.mk ⟨rfl, rfl, rfl, by simp [ci_length, *], rfl, by simp [okCell], by dsimp only; omega, by omega, by decide⟩ ?_ | refine Req.mk (show pendP _ _ by repeat' constructor) ?_ | (with_reducible refine brT ?_ ?_; next => assumption) | (with_reducible refine brF ?_ ?_; next => assumption) | (with_reducible refine brDT ?_ ?_; next => omega) | (with_reducible refine brDF ?_ ?_; next => omega) | (with_reducible refine brET ?_ ?_; next => omega) | (with_reducible refine brEF ?_ ?_; next => omega) | (with_reducible refine brNET ?_ ?_; next => omega) | (with_reducible refine brNEF ?_ ?_; next => omega) | with_reducible refine brNot ?_); conv => whnf))
    · have hk : kd s = 3 := by rw [hs]; rfl
      have eb : (s[(0 : Int).toNat]?) = some 45 := by rw [hs]; rfl
      have gl : (0 : Int) < s.length := by simp only [List.length_singleton] at hlen; omega
      rw [decide_eq_true hk] at cs
      conv => whnf
      repeat' (first | exact ⟨_, keepT_weak (maskOf 95 [0, 2, 3, 4, 5, 6]) _, rfl, rfl⟩ | (refine CallH.lift seat_g cs (by simp [Closed, ClosedL]) (by simp [Closed]) ?_; conv => whnf) | (refine ldI _ eb ?_; conv => whnf) | ((first | refine zq1 (by omega) ?_ | refine zq2 (by omega) ?_ | refine NumH.rem (by omega) ?_ | refine zq4 (by omega) ?_ | refine zq5 (by omega) ?_ | refine zq6 ?_ | refine Req.mk (by omega) ?_ | refine Req.mk (by dsimp only; omega) ?_ | refine Req.mk ⟨rfl, rfl, rfl, by simp [ci_length, *], rfl, by simp [okCell], by dsimp only; omega, by omega, by decide⟩ ?_ | refine Req.mk (show pendP _ _ by repeat' constructor) ?_ | (with_reducible refine brT ?_ ?_; next => assumption) | (with_reducible refine brF ?_ ?_; next => assumption) | (with_reducible refine brDT ?_ ?_; next => omega) | (with_reducible refine brDF ?_ ?_; next => omega) | (with_reducible refine brET ?_ ?_; next => omega) | (with_reducible refine brEF ?_ ?_; next => omega) | (with_reducible refine brNET ?_ ?_; next => omega) | (with_reducible refine brNEF ?_ ?_; next => omega) | with_reducible refine brNot ?_); conv => whnf))
  rintro _ _ ⟨rfl, rfl⟩
  generalize (S == [45]) = bl
  have hML : M.length + S.length ≤ 400 := by omega
  refine Sat.splitAt seat_ok (fun t h => t = (.str s :: uu :: .ptr 0 0 :: .ptr 1 0 :: .int .i64 ((S.length + M.length : Nat) : Int) :: .int .i64 ((rFold M).2.1 : Nat) :: uu :: uu :: uu :: uu :: uu :: uu :: uu :: uu :: uu :: uu :: uu :: uu :: uu :: uu :: uu :: uu :: uu :: uu :: uu :: uu :: uu :: uu :: uu :: uu :: uu :: uu :: uu :: uu :: uu :: uu :: uu :: uu :: uu :: uu :: uu :: uu :: uu :: uu :: uu :: uu :: uu :: uu :: uu :: uu :: uu :: uu :: uu :: uu :: uu :: uu :: uu :: uu :: uu :: uu :: uu :: uu :: uu :: uu :: uu :: uu :: uu :: uu :: uu :: uu :: uu :: uu :: uu :: uu :: uu :: uu :: uu :: uu :: uu :: uu :: uu :: uu :: uu :: uu :: uu :: uu :: uu :: uu :: uu :: uu :: uu :: uu :: uu :: uu :: uu :: []) ∧ ∃ v, dgV (rFold M).1 v ∧ h = [.var [.bool false, .bool false, .nils, .int .i64 0] 73, .var [.bool bl, .bool false, v, .int .i64 0] 73]) 1 ?_ ?_
  · conv => whnf
    refine Sat.cut (fun x t h => x = .exit 0 ∧ t = (.str s :: uu :: .ptr 0 0 :: .ptr 1 0 :: .int .i64 ((S.length + M.length : Nat) : Int) :: .int .i64 ((rFold M).2.1 : Nat) :: uu :: uu :: uu :: uu :: uu :: uu :: uu :: uu :: uu :: uu :: uu :: uu :: uu :: uu :: uu :: uu :: uu :: uu :: uu :: uu :: uu :: uu :: uu :: uu :: uu :: uu :: uu :: uu :: uu :: uu :: uu :: uu :: uu :: uu :: uu :: uu :: uu :: uu :: uu :: uu :: uu :: uu :: uu :: uu :: uu :: uu :: uu :: uu :: uu :: uu :: uu :: uu :: uu :: uu :: uu :: uu :: uu :: uu :: uu :: uu :: uu :: uu :: uu :: uu :: uu :: uu :: uu :: uu :: uu :: uu :: uu :: uu :: uu :: uu :: uu :: uu :: uu :: uu :: uu :: uu :: uu :: uu :: uu :: uu :: uu :: uu :: uu :: uu :: uu :: []) ∧ ∃ v, dgV (rFold M).1 v ∧ h = [.var [.bool false, .bool false, .nils, .int .i64 0] 73, .var [.bool bl, .bool false, v, .int .i64 0] 73]) ?_ ?_
    · refine Sat.invP seat_ok seat_g (maskOf 95 [0, 2, 3, 4, 5, 6]) 2 (fun μ t h => ∃ (p : Nat) (n : Int) (v : AV), p ≤ M.length ∧ n = ((S.length + p : Nat) : Int) ∧ dgV (rFold (M.take p)).1 v ∧ μ = M.length - p ∧
        t = (.str s :: uu :: .ptr 0 0 :: .ptr 1 0 :: .int .i64 n :: .int .i64 ((rFold (M.take p)).2.1 : Nat) :: .bool (rFold (M.take p)).2.2 :: uu :: uu :: uu :: uu :: uu :: uu :: uu :: uu :: uu :: uu :: uu :: uu :: uu :: uu :: uu :: uu :: uu :: uu :: uu :: uu :: uu :: uu :: uu :: uu :: uu :: uu :: uu :: uu :: uu :: uu :: uu :: uu :: uu :: uu :: uu :: uu :: uu :: uu :: uu :: uu :: uu :: uu :: uu :: uu :: uu :: uu :: uu :: uu :: uu :: uu :: uu :: uu :: uu :: uu :: uu :: uu :: uu :: uu :: uu :: uu :: uu :: uu :: uu :: uu :: uu :: uu :: uu :: uu :: uu :: uu :: uu :: uu :: uu :: uu :: uu :: uu :: uu :: uu :: uu :: uu :: uu :: uu :: uu :: uu :: uu :: uu :: uu :: uu :: []) ∧ h = [.var [.bool false, .bool false, .nils, .int .i64 0] 73, .var [.bool bl, .bool false, v, .int .i64 0] 73])
        ?_ ⟨_, _, WeakL.of_eq rfl, 0, _, _, by omega, by omega, .inl ⟨rfl, rfl⟩, rfl, rfl, rfl⟩ ?_
      · rintro _ _ _ ⟨p, n, v, -, -, hv, -, rfl, rfl⟩
        rcases hv with ⟨rfl, -⟩ | rfl
        · exact ⟨rfl, (by simp [IdsL, Ids, IdsH, IdsC, lv_ids, ci_ids]), (by simp [IdsL, Ids, IdsH, IdsC, lv_ids, ci_ids])⟩
        · exact ⟨rfl, (by simp [IdsL, Ids, IdsH, IdsC, lv_ids, ci_ids]), (by simp [IdsL, Ids, IdsH, IdsC, lv_ids, ci_ids])⟩
      rintro _ _ _ ⟨p, n, v, hp, hn, hv, rfl, rfl, rfl⟩
      by_cases g : p < M.length
      · obtain ⟨b, hb⟩ : ∃ b, M[p]? = some b := ⟨_, List.getElem?_eq_getElem g⟩
        have eb : (s[n.toNat]?) = some b := by rw [hn, Int.toNat_natCast]; exact hsM p b hb
        have gl : n < s.length := by omega
        have hst : rFold (M.take (p + 1)) = rStep (rFold (M.take p)) b := by
          rw [← rFold_snoc]; congr 1
          rw [List.take_succ_eq_append_getElem g]; congr 2
          exact (List.getElem?_eq_some_iff.1 hb).2
        have hk := hM b (List.mem_of_getElem? hb)
        have hbd := rFold_bd p (M.take p) (by rw [List.length_take]; omega) (fun c h => hM c (List.mem_of_mem_take h))
        have hcs := kindN_cases b.toNat
        obtain ⟨⟨N, bh, pt⟩, hR⟩ : ∃ R, rFold (M.take p) = R := ⟨_, rfl⟩
        rw [hR] at hst hbd hv
        simp only [hR]
        simp only at hbd hv
        unfold rStep at hst
        rcases hk with hk | hk
        · have hc : 48 ≤ (b.toNat : Int) ∧ (b.toNat : Int) ≤ 57 := by omega
          rw [if_neg (by omega)] at hst
          simp only at hst
          have hN : N < 65536 ^ 100 := Nat.lt_of_lt_of_le hbd.1 (ten_le (by omega))
          have hdl := dig_length_lt hN
          have hdl2 : (dig (N * 10)).length ≤ 20000 := Nat.le_trans (dig_length_lt (k := 101) (by rw [Nat.pow_succ]; omega)) (by decide)
          obtain ⟨c, hcc⟩ : ∃ c : Nat, (b.toNat : Int) - 48 = c := ⟨((b.toNat : Int) - 48).toNat, by omega⟩
          have h48 : ((b.toNat : Int) - 48).toNat = c := by omega
          rw [h48] at hst
          have s10 := c_small 10 (by decide)
          have sd := c_small c (by omega)
          have m1 : ACalls seat 38 [nv false N, nv false 10] [] (fun x _ => x = .ret (nv false (N * 10))) := c_mul false false N 10 (by omega) (Nat.le_trans (dig_length_lt (k := 1) (by decide)) (by decide))
          have a1 : ACalls seat 44 [nv false (N * 10), nv false c] [] (fun x _ => x = .ret (nv false (N * 10 + c))) := c_add false false (N * 10) c (by omega) (Nat.le_trans (dig_length_lt (k := 1) (by omega)) (by decide))
          have wv : ∀ u, Weak u (.agg [.bool false, v]) → Weak u (nv false N) := fun u hu => hu.trans (by
            rcases hv with ⟨rfl, rfl⟩ | rfl
            · exact Weak.agg (WeakL.cons (Weak.refl _) (WeakL.cons Weak.nils (WeakL.refl _)))
            · exact Weak.refl _)
          have hn1 : n + 1 = ((S.length + (p + 1) : Nat) : Int) := by omega
          have hcl : IdsC (fun i => i < 2) (.var [.bool bl, .bool false, v, .int .i64 0] 73) := by
            rcases hv with ⟨rfl, -⟩ | rfl
            · simp [IdsC, IdsL, Ids]
            · simp [IdsC, IdsL, Ids, lv_ids]
          have hbh : bh ≤ 400 := by omega
          cases pt with
          | false =>
            have hst' : rFold (M.take (p + 1)) = (N * 10 + c, bh, false) := by rw [hst]; rfl
            clear hst hk hcs hbd
            conv => whnf
            repeat' (first | exact ⟨_, _, Nat.sub_lt_sub_left g (Nat.lt_succ_self p), WeakL.of_eq rfl, p + 1, n + 1, _, by omega, hn1, .inr (by rw [hst']), rfl, by rw [hst']; rfl, rfl⟩ | (refine ldI _ eb ?_; conv => whnf) | (refine DrawH.plan seat_ok (.take 0 (.take 1 (.take 4 (.take 5 (.take 6 (.take 7 (.take 8 (.perform 2 none (.perform 3 none (.perform 9 none (.perform 10 none (.take 11 (.perform 12 none Plan.done))))))))))))) 0 (by kernel_rfl) ?_; conv => whnf) | (refine WrapH.is _ ((wrap_u8 (by omega) (by omega)).trans hcc) ?_; conv => whnf) | (refine CallH.lift seat_g s10 (by simp [Closed, ClosedL]) (nv_closed _ _) ?_; conv => whnf) | (refine CallH.lift seat_g sd (by simp [Closed, ClosedL]) (nv_closed _ _) ?_; conv => whnf) | (refine CallH.lift seat_g a1 ⟨nv_closed _ _, nv_closed _ _, trivial⟩ (nv_closed _ _) ?_; conv => whnf) | (refine CallH.weakA (WeakL.cons (wv _ (Weak.refl _)) (WeakL.refl _)) (CallH.lift seat_g m1 ⟨nv_closed _ _, nv_closed _ _, trivial⟩ (nv_closed _ _) ?_); conv => whnf) | ((first | refine zq1 (by omega) ?_ | refine zq2 (by omega) ?_ | refine NumH.rem (by omega) ?_ | refine zq4 (by omega) ?_ | refine zq5 (by omega) ?_ | refine zq6 ?_ | refine Req.mk (by omega) ?_ | refine Req.mk (by dsimp only; omega) ?_ | refine Req.mk ⟨rfl, rfl, rfl, by simp [ci_length, *], rfl, by simp [okCell], by dsimp only; omega, by omega, by decide⟩ ?_ | refine Req.mk (show pendP _ _ by repeat' constructor) ?_ | (with_reducible refine brT ?_ ?_; next => assumption) | (with_reducible refine brF ?_ ?_; next => assumption) | (with_reducible refine brDT ?_ ?_; next => omega) | (with_reducible refine brDF ?_ ?_; next => omega) | (with_reducible refine brET ?_ ?_; next => omega) | (with_reducible refine brEF ?_ ?_; next => omega) | (with_reducible refine brNET ?_ ?_; next => omega) | (with_reducible refine brNEF ?_ ?_; next => omega) | with_reducible refine brNot ?_); conv => whnf))
          | true =>
            have hst' : rFold (M.take (p + 1)) = (N * 10 + c, bh + 1, true) := by rw [hst]; rfl
            clear hst hk hcs hbd
            conv => whnf
            repeat' (first | exact ⟨_, _, Nat.sub_lt_sub_left g (Nat.lt_succ_self p), WeakL.of_eq rfl, p + 1, n + 1, _, by omega, hn1, .inr (by rw [hst']), rfl, by rw [hst']; rfl, rfl⟩ | (refine ldI _ eb ?_; conv => whnf) | (refine DrawH.plan seat_ok (.take 0 (.take 1 (.take 4 (.take 5 (.take 6 (.take 7 (.take 8 (.perform 2 none (.perform 3 none (.perform 9 none (.perform 10 none (.take 11 (.perform 12 none Plan.done))))))))))))) 0 (by kernel_rfl) ?_; conv => whnf) | (refine WrapH.is _ ((wrap_u8 (by omega) (by omega)).trans hcc) ?_; conv => whnf) | (refine CallH.lift seat_g s10 (by simp [Closed, ClosedL]) (nv_closed _ _) ?_; conv => whnf) | (refine CallH.lift seat_g sd (by simp [Closed, ClosedL]) (nv_closed _ _) ?_; conv => whnf) | (refine CallH.lift seat_g a1 ⟨nv_closed _ _, nv_closed _ _, trivial⟩ (nv_closed _ _) ?_; conv => whnf) | (refine CallH.weakA (WeakL.cons (wv _ (Weak.refl _)) (WeakL.refl _)) (CallH.lift seat_g m1 ⟨nv_closed _ _, nv_closed _ _, trivial⟩ (nv_closed _ _) ?_); conv => whnf) | ((first | refine zq1 (by omega) ?_ | refine zq2 (by omega) ?_ | refine NumH.rem (by omega) ?_ | refine zq4 (by omega) ?_ | refine zq5 (by omega) ?_ | refine zq6 ?_ | refine Req.mk (by omega) ?_ | refine Req.mk (by dsimp only; omega) ?_ | refine Req.mk ⟨rfl, rfl, rfl, by simp [ci_length, *], rfl, by simp [okCell], by dsimp only; omega, by omega, by decide⟩ ?_ | refine Req.mk (show pendP _ _ by repeat' constructor) ?_ | (with_reducible refine brT ?_ ?_; next => assumption) | (with_reducible refine brF ?_ ?_; next => assumption) | (with_reducible refine brDT ?_ ?_; next => omega) | (with_reducible refine brDF ?_ ?_; next => omega) | (with_reducible refine brET ?_ ?_; next => omega) | (with_reducible refine brEF ?_ ?_; next => omega) | (with_reducible refine brNET ?_ ?_; next => omega) | (with_reducible refine brNEF ?_ ?_; next => omega) | with_reducible refine brNot ?_); conv => whnf))
        · have hc : (b.toNat : Int) = 46 := by omega
          have hn1 : n + 1 = ((S.length + (p + 1) : Nat) : Int) := by omega
          rw [if_pos hk] at hst
          simp only at hst
          clear hk hcs hbd
          conv => whnf
          repeat' (first | exact ⟨_, _, Nat.sub_lt_sub_left g (Nat.lt_succ_self p), WeakL.of_eq rfl, p + 1, n + 1, v, by omega, hn1, by rw [hst]; exact hv, rfl, by rw [hst]; rfl, rfl⟩ | (refine ldI _ eb ?_; conv => whnf) | ((first | refine zq1 (by omega) ?_ | refine zq2 (by omega) ?_ | refine NumH.rem (by omega) ?_ | refine zq4 (by omega) ?_ | refine zq5 (by omega) ?_ | refine zq6 ?_ | refine Req.mk (by omega) ?_ | refine Req.mk (by dsimp only; omega) ?_ | refine Req.mk ⟨rfl, rfl, rfl, by simp [ci_length, *], rfl, by simp [okCell], by dsimp only; omega, by omega, by decide⟩ ?_ | refine Req.mk (show pendP _ _ by repeat' constructor) ?_ | (with_reducible refine brT ?_ ?_; next => assumption) | (with_reducible refine brF ?_ ?_; next => assumption) | (with_reducible refine brDT ?_ ?_; next => omega) | (with_reducible refine brDF ?_ ?_; next => omega) | (with_reducible refine brET ?_ ?_; next => omega) | (with_reducible refine brEF ?_ ?_; next => omega) | (with_reducible refine brNET ?_ ?_; next => omega) | (with_reducible refine brNEF ?_ ?_; next => omega) | with_reducible refine brNot ?_); conv => whnf))
      · obtain rfl : p = M.length := by omega
        rw [List.take_length] at *
        generalize rFold M = R at *
        cases ex with
        | none =>
          have g2 : ¬ (n < s.length) := by rw [hlen, hn]; simp [expB]
          have e : n = ((S.length + M.length : Nat) : Int) := hn
          conv => whnf
          repeat' ((first | refine zq1 (by omega) ?_ | refine zq2 (by omega) ?_ | refine NumH.rem (by omega) ?_ | refine zq4 (by omega) ?_ | refine zq5 (by omega) ?_ | refine zq6 ?_ | refine Req.mk (by omega) ?_ | refine Req.mk (by dsimp only; omega) ?_ | refine Req.mk ⟨rfl, rfl, rfl, by simp [ci_length, *], rfl, by simp [okCell], by dsimp only; omega, by omega, by decide⟩ ?_ | refine Req.mk (show pendP _ _ by repeat' constructor) ?_ | (with_reducible refine brT ?_ ?_; next => assumption) | (with_reducible refine brF ?_ ?_; next => assumption) | (with_reducible refine brDT ?_ ?_; next => omega) | (with_reducible refine brDF ?_ ?_; next => omega) | (with_reducible refine brET ?_ ?_; next => omega) | (with_reducible refine brEF ?_ ?_; next => omega) | (with_reducible refine brNET ?_ ?_; next => omega) | (with_reducible refine brNEF ?_ ?_; next => omega) | with_reducible refine brNot ?_); conv => whnf)
          exact ⟨_, keepT_weak (maskOf 95 [0, 2, 3, 4, 5]) _, rfl, by rw [← e]; rfl, v, hv, rfl⟩
        | some x =>
          obtain ⟨e, sg, C⟩ := x
          have he := hex.1
          have hlen2 : s.length = S.length + (M.length + (1 + (sg.length + C.length))) := by rw [hlen]; simp [expB]; omega
          have g2 : n < s.length := by omega
          have eb : (s[n.toNat]?) = some e := by
            rw [hs, hn, Int.toNat_natCast, List.getElem?_append_right (by omega), List.getElem?_append_right (by omega), show S.length + M.length - S.length - M.length = 0 by omega]; rfl
          have hcs := kindN_cases e.toNat
          have en : n = ((S.length + M.length : Nat) : Int) := hn
          by_cases h1 : (e.toNat : Int) = 101
          · conv => whnf
            repeat' (first | exact ⟨_, keepT_weak (maskOf 95 [0, 2, 3, 4, 5]) _, rfl, by rw [← en]; rfl, v, hv, rfl⟩ | (refine ldI _ eb ?_; conv => whnf) | ((first | refine zq1 (by omega) ?_ | refine zq2 (by omega) ?_ | refine NumH.rem (by omega) ?_ | refine zq4 (by omega) ?_ | refine zq5 (by omega) ?_ | refine zq6 ?_ | refine Req.mk (by omega) ?_ | refine Req.mk (by dsimp only; omega) ?_ | refine Req.mk ⟨rfl, rfl, rfl, by simp [ci_length, *], rfl, by simp [okCell], by dsimp only; omega, by omega, by decide⟩ ?_ | refine Req.mk (show pendP _ _ by repeat' constructor) ?_ | (with_reducible refine brT ?_ ?_; next => assumption) | (with_reducible refine brF ?_ ?_; next => assumption) | (with_reducible refine brDT ?_ ?_; next => omega) | (with_reducible refine brDF ?_ ?_; next => omega) | (with_reducible refine brET ?_ ?_; next => omega) | (with_reducible refine brEF ?_ ?_; next => omega) | (with_reducible refine brNET ?_ ?_; next => omega) | (with_reducible refine brNEF ?_ ?_; next => omega) | with_reducible refine brNot ?_); conv => whnf))
          · have h2 : (e.toNat : Int) = 69 := by omega
            conv => whnf
            repeat' (first | exact ⟨_, keepT_weak (maskOf 95 [0, 2, 3, 4, 5]) _, rfl, by rw [← en]; rfl, v, hv, rfl⟩ | (refine ldI _ eb ?_; conv => whnf) | ((first | refine zq1 (by omega) ?_ | refine zq2 (by omega) ?_ | refine NumH.rem (by omega) ?_ | refine zq4 (by omega) ?_ | refine zq5 (by omega) ?_ | refine zq6 ?_ | refine Req.mk (by omega) ?_ | refine Req.mk (by dsimp only; omega) ?_ | refine Req.mk ⟨rfl, rfl, rfl, by simp [ci_length, *], rfl, by simp [okCell], by dsimp only; omega, by omega, by decide⟩ ?_ | refine Req.mk (show pendP _ _ by repeat' constructor) ?_ | (with_reducible refine brT ?_ ?_; next => assumption) | (with_reducible refine brF ?_ ?_; next => assumption) | (with_reducible refine brDT ?_ ?_; next => omega) | (with_reducible refine brDF ?_ ?_; next => omega) | (with_reducible refine brET ?_ ?_; next => omega) | (with_reducible refine brEF ?_ ?_; next => omega) | (with_reducible refine brNET ?_ ?_; next => omega) | (with_reducible refine brNEF ?_ ?_; next => omega) | with_reducible refine brNot ?_); conv => whnf))
    · rintro _ _ _ ⟨rfl, rfl, v, hv, rfl⟩
      conv => whnf
      exact ⟨_, WeakL.refl _, rfl, v, hv, rfl⟩
  rintro _ _ ⟨rfl, v, hv, rfl⟩
  have hbh := (rFold_bd _ M rfl hM).2
  obtain ⟨B, hB⟩ : ∃ B, S.length + M.length = B := ⟨_, rfl⟩
  rw [hB]
  clear hsM hS
  refine Sat.splitAt seat_ok (fun t h => t = (uu :: uu :: .ptr 0 0 :: .ptr 1 0 :: uu :: .int .i64 ((rFold M).2.1 : Nat) :: uu :: .int .i64 pw :: .bool dn :: uu :: uu :: uu :: uu :: uu :: uu :: uu :: uu :: uu :: uu :: uu :: uu :: uu :: uu :: uu :: uu :: uu :: uu :: uu :: uu :: uu :: uu :: uu :: uu :: uu :: uu :: uu :: uu :: uu :: uu :: uu :: uu :: uu :: uu :: uu :: uu :: uu :: uu :: uu :: uu :: uu :: uu :: uu :: uu :: uu :: uu :: uu :: uu :: uu :: uu :: uu :: uu :: uu :: uu :: uu :: uu :: uu :: uu :: uu :: uu :: uu :: uu :: uu :: uu :: uu :: uu :: uu :: uu :: uu :: uu :: uu :: uu :: uu :: uu :: uu :: uu :: uu :: uu :: uu :: uu :: uu :: uu :: uu :: uu :: uu :: uu :: []) ∧ h = [.var [.bool false, .bool false, .nils, .int .i64 0] 73, .var [.bool bl, .bool false, v, .int .i64 0] 73]) 3 ?_ ?_
  · generalize rFold M = R at *
    cases ex with
    | none =>
      have e0 : s.length = B := by rw [hlen]; simp [expB]; omega
      have g2 : ¬ ((B : Int) < s.length) := by omega
      simp only [exPow, exDown] at hpw hdn
      subst hpw hdn
      conv => whnf
      repeat' (first | exact ⟨_, keepT_weak (maskOf 95 [2, 3, 5, 7, 8]) _, rfl, rfl⟩ | ((first | refine zq1 (by omega) ?_ | refine zq2 (by omega) ?_ | refine NumH.rem (by omega) ?_ | refine zq4 (by omega) ?_ | refine zq5 (by omega) ?_ | refine zq6 ?_ | refine Req.mk (by omega) ?_ | refine Req.mk (by dsimp only; omega) ?_ | refine Req.mk ⟨rfl, rfl, rfl, by simp [ci_length, *], rfl, by simp [okCell], by dsimp only; omega, by omega, by decide⟩ ?_ | refine Req.mk (show pendP _ _ by repeat' constructor) ?_ | (with_reducible refine brT ?_ ?_; next => assumption) | (with_reducible refine brF ?_ ?_; next => assumption) | (with_reducible refine brDT ?_ ?_; next => omega) | (with_reducible refine brDF ?_ ?_; next => omega) | (with_reducible refine brET ?_ ?_; next => omega) | (with_reducible refine brEF ?_ ?_; next => omega) | (with_reducible refine brNET ?_ ?_; next => omega) | (with_reducible refine brNEF ?_ ?_; next => omega) | with_reducible refine brNot ?_); conv => whnf))
    | some x =>
      obtain ⟨e, sg, C⟩ := x
      obtain ⟨he, hsg, hC, hCk⟩ := hex
      simp only [exPow, exDown] at hpw hdn
      have hlC : 0 < C.length := List.length_pos_iff.2 hC
      have hlen2 : s.length = B + (1 + (sg.length + C.length)) := by rw [hlen]; simp [expB]; omega
      have g2 : (B : Int) < s.length := by omega
      have hCi : ∀ (q : Nat) (c : UInt8), C[q]? = some c → s[B + 1 + sg.length + q]? = some c := fun q c h => by
        rw [hs, List.getElem?_append_right (by omega), List.getElem?_append_right (by omega), show B + 1 + sg.length + q - S.length - M.length = (sg.length + q) + 1 by omega, expB, List.getElem?_cons_succ, List.getElem?_append_right (by omega), Nat.add_sub_cancel_left]; exact h
      have hsx : ∀ x, sg = [x] → s[B + 1]? = some x := fun x h => by
        rw [hs, List.getElem?_append_right (by omega), List.getElem?_append_right (by omega), show B + 1 - S.length - M.length = 0 + 1 by omega, expB, List.getElem?_cons_succ, h]; rfl
      have hloop : ∀ (dn : Bool) (n0 : Int) (T : List AV) (H : Heap), n0 = ((B + 1 + sg.length : Nat) : Int) → True := fun _ _ _ _ _ => trivial
      have cs := c_rsign s (B + 1)
      have cs' : ∀ (m : Int) (y : Bool), m = ((B + 1 : Nat) : Int) → decide (kd (s.drop (B + 1)) = 3) = y → ACalls seat 35 [.str s, .int .i64 m] [] (fun x _ => x = .ret (.bool y)) := fun m y h1 h2 => by rw [h1, ← h2]; exact cs
      have hst : ∀ (q : Nat) (c : UInt8), q < C.length → C[q]? = some c → powF 1000 0 (C.take (q + 1)) = if 1000 < powF 1000 0 (C.take q) * 10 + ((c.toNat : Int) - 48) then 1000 else powF 1000 0 (C.take q) * 10 + ((c.toNat : Int) - 48) := fun q c gq hc => by
        rw [Int.mul_comm (powF 1000 0 (C.take q)) 10, ← powF_snoc]; congr 1
        rw [List.take_succ_eq_append_getElem gq]; congr 2
        exact (List.getElem?_eq_some_iff.1 hc).2
      clear hs hlen hloop cs hM hpb
      rcases Classical.em (sg = []) with rfl | hne
      · obtain ⟨c0, hc0⟩ : ∃ c0, C[0]? = some c0 := ⟨_, List.getElem?_eq_getElem hlC⟩
        have e1 : s[B + 1]? = some c0 := hCi 0 c0 hc0
        have hk0 := hCk c0 (List.mem_of_getElem? hc0)
        have hy : decide (kd (s.drop (B + 1)) = 3) = false := decide_eq_false (by rw [kd_some e1, hk0]; decide)
        have hd2 : dn = false := by rw [hdn]; rfl
        simp only [List.length_nil] at hCi hlen2
        subst hd2
        conv => whnf
        repeat' (first | (refine CallH.lift seat_g (cs' _ _ (by omega) hy) (by simp [Closed, ClosedL]) (by simp [Closed]) ?_; conv => whnf) | ((first | refine zq1 (by omega) ?_ | refine zq2 (by omega) ?_ | refine NumH.rem (by omega) ?_ | refine zq4 (by omega) ?_ | refine zq5 (by omega) ?_ | refine zq6 ?_ | refine Req.mk (by omega) ?_ | refine Req.mk (by dsimp only; omega) ?_ | refine Req.mk ⟨rfl, rfl, rfl, by simp [ci_length, *], rfl, by simp [okCell], by dsimp only; omega, by omega, by decide⟩ ?_ | refine Req.mk (show pendP _ _ by repeat' constructor) ?_ | (with_reducible refine brT ?_ ?_; next => assumption) | (with_reducible refine brF ?_ ?_; next => assumption) | (with_reducible refine brDT ?_ ?_; next => omega) | (with_reducible refine brDF ?_ ?_; next => omega) | (with_reducible refine brET ?_ ?_; next => omega) | (with_reducible refine brEF ?_ ?_; next => omega) | (with_reducible refine brNET ?_ ?_; next => omega) | (with_reducible refine brNEF ?_ ?_; next => omega) | with_reducible refine brNot ?_); conv => whnf))
        refine Sat.cut (fun x t h => x = .exit 2 ∧ t = (uu :: uu :: .ptr 0 0 :: .ptr 1 0 :: uu :: .int .i64 (R.2.1 : Nat) :: uu :: .int .i64 pw :: .bool false :: uu :: uu :: uu :: uu :: uu :: uu :: uu :: uu :: uu :: uu :: uu :: uu :: uu :: uu :: uu :: uu :: uu :: uu :: uu :: uu :: uu :: uu :: uu :: uu :: uu :: uu :: uu :: uu :: uu :: uu :: uu :: uu :: uu :: uu :: uu :: uu :: uu :: uu :: uu :: uu :: uu :: uu :: uu :: uu :: uu :: uu :: uu :: uu :: uu :: uu :: uu :: uu :: uu :: uu :: uu :: uu :: uu :: uu :: uu :: uu :: uu :: uu :: uu :: uu :: uu :: uu :: uu :: uu :: uu :: uu :: uu :: uu :: uu :: uu :: uu :: uu :: uu :: uu :: uu :: uu :: uu :: uu :: uu :: uu :: uu :: uu :: []) ∧ h = [.var [.bool false, .bool false, .nils, .int .i64 0] 73, .var [.bool bl, .bool false, v, .int .i64 0] 73]) ?_ ?_
        · refine Sat.invP seat_ok seat_g (maskOf 95 [0, 2, 3, 4, 5, 7, 8]) 2 (fun μ t h => ∃ (q : Nat) (n : Int), q ≤ C.length ∧ n = ((B + 1 + 0 + q : Nat) : Int) ∧ μ = C.length - q ∧ t = (.str s :: uu :: .ptr 0 0 :: .ptr 1 0 :: .int .i64 n :: .int .i64 (R.2.1 : Nat) :: uu :: .int .i64 (powF 1000 0 (C.take q)) :: .bool false :: uu :: uu :: uu :: uu :: uu :: uu :: uu :: uu :: uu :: uu :: uu :: uu :: uu :: uu :: uu :: uu :: uu :: uu :: uu :: uu :: uu :: uu :: uu :: uu :: uu :: uu :: uu :: uu :: uu :: uu :: uu :: uu :: uu :: uu :: uu :: uu :: uu :: uu :: uu :: uu :: uu :: uu :: uu :: uu :: uu :: uu :: uu :: uu :: uu :: uu :: uu :: uu :: uu :: uu :: uu :: uu :: uu :: uu :: uu :: uu :: uu :: uu :: uu :: uu :: uu :: uu :: uu :: uu :: uu :: uu :: uu :: uu :: uu :: uu :: uu :: uu :: uu :: uu :: uu :: uu :: uu :: uu :: uu :: uu :: uu :: uu :: []) ∧ h = [.var [.bool false, .bool false, .nils, .int .i64 0] 73, .var [.bool bl, .bool false, v, .int .i64 0] 73]) ?_ ⟨_, _, WeakL.of_eq rfl, 0, _, by omega, by omega, rfl, rfl, rfl⟩ ?_
          · rintro _ _ _ ⟨q, n, -, -, -, rfl, rfl⟩
            rcases hv with ⟨rfl, -⟩ | rfl
            · exact ⟨rfl, (by simp [IdsL, Ids, IdsH, IdsC, lv_ids, ci_ids]), (by simp [IdsL, Ids, IdsH, IdsC, lv_ids, ci_ids])⟩
            · exact ⟨rfl, (by simp [IdsL, Ids, IdsH, IdsC, lv_ids, ci_ids]), (by simp [IdsL, Ids, IdsH, IdsC, lv_ids, ci_ids])⟩
          rintro _ _ _ ⟨q, n, hq, hn, rfl, rfl, rfl⟩
          by_cases gq : q < C.length
          · obtain ⟨c, hc⟩ : ∃ c, C[q]? = some c := ⟨_, List.getElem?_eq_getElem gq⟩
            have ec : (s[n.toNat]?) = some c := by rw [hn, Int.toNat_natCast]; exact hCi q c hc
            have hc0 := hCk c (List.mem_of_getElem? hc)
            have hcc := kindN_cases c.toNat
            have hpb2 := powF_bd (cap := 1000) (by decide) _ (C.take q) rfl (fun c h => hCk c (List.mem_of_mem_take h))
            have hst := hst q c gq hc
            have gn : n < s.length := by omega
            generalize powF 1000 0 (C.take q) = P at *
            have hc2 : 48 ≤ (c.toNat : Int) ∧ (c.toNat : Int) ≤ 57 := by omega
            clear hcc
            by_cases gp : P * 10 + ((c.toNat : Int) - 48) > 1000
            · rw [if_pos gp] at hst
              conv => whnf
              repeat' (first | exact ⟨_, _, Nat.sub_lt_sub_left gq (Nat.lt_succ_self q), WeakL.of_eq rfl, q + 1, n + 1, by omega, by omega, rfl, by rw [hst]; rfl, rfl⟩ | (refine ldI _ ec ?_; conv => whnf) | (refine WrapH.is _ (wrap_u8 (by omega) (by omega)) ?_; conv => whnf) | ((first | refine zq1 (by omega) ?_ | refine zq2 (by omega) ?_ | refine NumH.rem (by omega) ?_ | refine zq4 (by omega) ?_ | refine zq5 (by omega) ?_ | refine zq6 ?_ | refine Req.mk (by omega) ?_ | refine Req.mk (by dsimp only; omega) ?_ | refine Req.mk ⟨rfl, rfl, rfl, by simp [ci_length, *], rfl, by simp [okCell], by dsimp only; omega, by omega, by decide⟩ ?_ | refine Req.mk (show pendP _ _ by repeat' constructor) ?_ | (with_reducible refine brT ?_ ?_; next => assumption) | (with_reducible refine brF ?_ ?_; next => assumption) | (with_reducible refine brDT ?_ ?_; next => omega) | (with_reducible refine brDF ?_ ?_; next => omega) | (with_reducible refine brET ?_ ?_; next => omega) | (with_reducible refine brEF ?_ ?_; next => omega) | (with_reducible refine brNET ?_ ?_; next => omega) | (with_reducible refine brNEF ?_ ?_; next => omega) | with_reducible refine brNot ?_); conv => whnf))
            · rw [if_neg gp] at hst
              conv => whnf
              repeat' (first | exact ⟨_, _, Nat.sub_lt_sub_left gq (Nat.lt_succ_self q), WeakL.of_eq rfl, q + 1, n + 1, by omega, by omega, rfl, by rw [hst]; rfl, rfl⟩ | (refine ldI _ ec ?_; conv => whnf) | (refine WrapH.is _ (wrap_u8 (by omega) (by omega)) ?_; conv => whnf) | ((first | refine zq1 (by omega) ?_ | refine zq2 (by omega) ?_ | refine NumH.rem (by omega) ?_ | refine zq4 (by omega) ?_ | refine zq5 (by omega) ?_ | refine zq6 ?_ | refine Req.mk (by omega) ?_ | refine Req.mk (by dsimp only; omega) ?_ | refine Req.mk ⟨rfl, rfl, rfl, by simp [ci_length, *], rfl, by simp [okCell], by dsimp only; omega, by omega, by decide⟩ ?_ | refine Req.mk (show pendP _ _ by repeat' constructor) ?_ | (with_reducible refine brT ?_ ?_; next => assumption) | (with_reducible refine brF ?_ ?_; next => assumption) | (with_reducible refine brDT ?_ ?_; next => omega) | (with_reducible refine brDF ?_ ?_; next => omega) | (with_reducible refine brET ?_ ?_; next => omega) | (with_reducible refine brEF ?_ ?_; next => omega) | (with_reducible refine brNET ?_ ?_; next => omega) | (with_reducible refine brNEF ?_ ?_; next => omega) | with_reducible refine brNot ?_); conv => whnf))
          · rw [List.take_of_length_le (by omega), ← hpw]
            conv => whnf
            repeat' ((first | refine zq1 (by omega) ?_ | refine zq2 (by omega) ?_ | refine NumH.rem (by omega) ?_ | refine zq4 (by omega) ?_ | refine zq5 (by omega) ?_ | refine zq6 ?_ | refine Req.mk (by omega) ?_ | refine Req.mk (by dsimp only; omega) ?_ | refine Req.mk ⟨rfl, rfl, rfl, by simp [ci_length, *], rfl, by simp [okCell], by dsimp only; omega, by omega, by decide⟩ ?_ | refine Req.mk (show pendP _ _ by repeat' constructor) ?_ | (with_reducible refine brT ?_ ?_; next => assumption) | (with_reducible refine brF ?_ ?_; next => assumption) | (with_reducible refine brDT ?_ ?_; next => omega) | (with_reducible refine brDF ?_ ?_; next => omega) | (with_reducible refine brET ?_ ?_; next => omega) | (with_reducible refine brEF ?_ ?_; next => omega) | (with_reducible refine brNET ?_ ?_; next => omega) | (with_reducible refine brNEF ?_ ?_; next => omega) | with_reducible refine brNot ?_); conv => whnf)
            exact ⟨_, keepT_weak (maskOf 95 [2, 3, 5, 7, 8]) _, rfl, rfl, rfl⟩
        · rintro _ _ _ ⟨rfl, rfl, rfl⟩
          conv => whnf
          exact ⟨_, WeakL.refl _, rfl, rfl⟩
      · obtain ⟨x, rfl, hx⟩ : ∃ x, sg = [x] ∧ kindN x.toNat = 3 := by
          rcases hsg with h | h | h
          · exact absurd h hne
          · exact ⟨43, h, by decide⟩
          · exact ⟨45, h, by decide⟩
        have e1 : s[B + 1]? = some x := hsx x rfl
        have ex1 : (s[((B : Int) + 1).toNat]?) = some x := by rw [show ((B : Int) + 1).toNat = B + 1 by omega]; exact e1
        have hy : decide (kd (s.drop (B + 1)) = 3) = true := decide_eq_true (by rw [kd_some e1, hx])
        have hd2 : ((x.toNat : Int) == 45) = dn := by
          rw [hdn]
          rcases hsg with h | h | h
          · cases h
          · cases h; rfl
          · cases h; rfl
        simp only [List.length_singleton] at hCi hlen2
        conv => whnf
        repeat' (first | (refine ldI _ ex1 ?_; conv => whnf) | (refine CallH.lift seat_g (cs' _ _ (by omega) hy) (by simp [Closed, ClosedL]) (by simp [Closed]) ?_; conv => whnf) | ((first | refine zq1 (by omega) ?_ | refine zq2 (by omega) ?_ | refine NumH.rem (by omega) ?_ | refine zq4 (by omega) ?_ | refine zq5 (by omega) ?_ | refine zq6 ?_ | refine Req.mk (by omega) ?_ | refine Req.mk (by dsimp only; omega) ?_ | refine Req.mk ⟨rfl, rfl, rfl, by simp [ci_length, *], rfl, by simp [okCell], by dsimp only; omega, by omega, by decide⟩ ?_ | refine Req.mk (show pendP _ _ by repeat' constructor) ?_ | (with_reducible refine brT ?_ ?_; next => assumption) | (with_reducible refine brF ?_ ?_; next => assumption) | (with_reducible refine brDT ?_ ?_; next => omega) | (with_reducible refine brDF ?_ ?_; next => omega) | (with_reducible refine brET ?_ ?_; next => omega) | (with_reducible refine brEF ?_ ?_; next => omega) | (with_reducible refine brNET ?_ ?_; next => omega) | (with_reducible refine brNEF ?_ ?_; next => omega) | with_reducible refine brNot ?_); conv => whnf))
        rw [hd2]
        refine Sat.cut (fun x t h => x = .exit 2 ∧ t = (uu :: uu :: .ptr 0 0 :: .ptr 1 0 :: uu :: .int .i64 (R.2.1 : Nat) :: uu :: .int .i64 pw :: .bool dn :: uu :: uu :: uu :: uu :: uu :: uu :: uu :: uu :: uu :: uu :: uu :: uu :: uu :: uu :: uu :: uu :: uu :: uu :: uu :: uu :: uu :: uu :: uu :: uu :: uu :: uu :: uu :: uu :: uu :: uu :: uu :: uu :: uu :: uu :: uu :: uu :: uu :: uu :: uu :: uu :: uu :: uu :: uu :: uu :: uu :: uu :: uu :: uu :: uu :: uu :: uu :: uu :: uu :: uu :: uu :: uu :: uu :: uu :: uu :: uu :: uu :: uu :: uu :: uu :: uu :: uu :: uu :: uu :: uu :: uu :: uu :: uu :: uu :: uu :: uu :: uu :: uu :: uu :: uu :: uu :: uu :: uu :: uu :: uu :: uu :: uu :: []) ∧ h = [.var [.bool false, .bool false, .nils, .int .i64 0] 73, .var [.bool bl, .bool false, v, .int .i64 0] 73]) ?_ ?_
        · refine Sat.invP seat_ok seat_g (maskOf 95 [0, 2, 3, 4, 5, 7, 8]) 2 (fun μ t h => ∃ (q : Nat) (n : Int), q ≤ C.length ∧ n = ((B + 1 + 1 + q : Nat) : Int) ∧ μ = C.length - q ∧ t = (.str s :: uu :: .ptr 0 0 :: .ptr 1 0 :: .int .i64 n :: .int .i64 (R.2.1 : Nat) :: uu :: .int .i64 (powF 1000 0 (C.take q)) :: .bool dn :: uu :: uu :: uu :: uu :: uu :: uu :: uu :: uu :: uu :: uu :: uu :: uu :: uu :: uu :: uu :: uu :: uu :: uu :: uu :: uu :: uu :: uu :: uu :: uu :: uu :: uu :: uu :: uu :: uu :: uu :: uu :: uu :: uu :: uu :: uu :: uu :: uu :: uu :: uu :: uu :: uu :: uu :: uu :: uu :: uu :: uu :: uu :: uu :: uu :: uu :: uu :: uu :: uu :: uu :: uu :: uu :: uu :: uu :: uu :: uu :: uu :: uu :: uu :: uu :: uu :: uu :: uu :: uu :: uu :: uu :: uu :: uu :: uu :: uu :: uu :: uu :: uu :: uu :: uu :: uu :: uu :: uu :: uu :: uu :: uu :: uu :: []) ∧ h = [.var [.bool false, .bool false, .nils, .int .i64 0] 73, .var [.bool bl, .bool false, v, .int .i64 0] 73]) ?_ ⟨_, _, WeakL.of_eq rfl, 0, _, by omega, by omega, rfl, rfl, rfl⟩ ?_
          · rintro _ _ _ ⟨q, n, -, -, -, rfl, rfl⟩
            rcases hv with ⟨rfl, -⟩ | rfl
            · exact ⟨rfl, (by simp [IdsL, Ids, IdsH, IdsC, lv_ids, ci_ids]), (by simp [IdsL, Ids, IdsH, IdsC, lv_ids, ci_ids])⟩
            · exact ⟨rfl, (by simp [IdsL, Ids, IdsH, IdsC, lv_ids, ci_ids]), (by simp [IdsL, Ids, IdsH, IdsC, lv_ids, ci_ids])⟩
          rintro _ _ _ ⟨q, n, hq, hn, rfl, rfl, rfl⟩
          by_cases gq : q < C.length
          · obtain ⟨c, hc⟩ : ∃ c, C[q]? = some c := ⟨_, List.getElem?_eq_getElem gq⟩
            have ec : (s[n.toNat]?) = some c := by rw [hn, Int.toNat_natCast]; exact hCi q c hc
            have hc0 := hCk c (List.mem_of_getElem? hc)
            have hcc := kindN_cases c.toNat
            have hpb2 := powF_bd (cap := 1000) (by decide) _ (C.take q) rfl (fun c h => hCk c (List.mem_of_mem_take h))
            have hst := hst q c gq hc
            have gn : n < s.length := by omega
            generalize powF 1000 0 (C.take q) = P at *
            have hc2 : 48 ≤ (c.toNat : Int) ∧ (c.toNat : Int) ≤ 57 := by omega
            clear hcc
            by_cases gp : P * 10 + ((c.toNat : Int) - 48) > 1000
            · rw [if_pos gp] at hst
              conv => whnf
              repeat' (first | exact ⟨_, _, Nat.sub_lt_sub_left gq (Nat.lt_succ_self q), WeakL.of_eq rfl, q + 1, n + 1, by omega, by omega, rfl, by rw [hst]; rfl, rfl⟩ | (refine ldI _ ec ?_; conv => whnf) | (refine WrapH.is _ (wrap_u8 (by omega) (by omega)) ?_; conv => whnf) | ((first | refine zq1 (by omega) ?_ | refine zq2 (by omega) ?_ | refine NumH.rem (by omega) ?_ | refine zq4 (by omega) ?_ | refine zq5 (by omega) ?_ | refine zq6 ?_ | refine Req.mk (by omega) ?_ | refine Req.mk (by dsimp only; omega) ?_ | refine Req.mk ⟨rfl, rfl, rfl, by simp [ci_length, *], rfl, by simp [okCell], by dsimp only; omega, by omega, by decide⟩ ?_ | refine Req.mk (show pendP _ _ by repeat' constructor) ?_ | (with_reducible refine brT ?_ ?_; next => assumption) | (with_reducible refine brF ?_ ?_; next => assumption) | (with_reducible refine brDT ?_ ?_; next => omega) | (with_reducible refine brDF ?_ ?_; next => omega) | (with_reducible refine brET ?_ ?_; next => omega) | (with_reducible refine brEF ?_ ?_; next => omega) | (with_reducible refine brNET ?_ ?_; next => omega) | (with_reducible refine brNEF ?_ ?_; next => omega) | with_reducible refine brNot ?_); conv => whnf))
            · rw [if_neg gp] at hst
              conv => whnf
              repeat' (first | exact ⟨_, _, Nat.sub_lt_sub_left gq (Nat.lt_succ_self q), WeakL.of_eq rfl, q + 1, n + 1, by omega, by omega, rfl, by rw [hst]; rfl, rfl⟩ | (refine ldI _ ec ?_; conv => whnf) | (refine WrapH.is _ (wrap_u8 (by omega) (by omega)) ?_; conv => whnf) | ((first | refine zq1 (by omega) ?_ | refine zq2 (by omega) ?_ | refine NumH.rem (by omega) ?_ | refine zq4 (by omega) ?_ | refine zq5 (by omega) ?_ | refine zq6 ?_ | refine Req.mk (by omega) ?_ | refine Req.mk (by dsimp only; omega) ?_ | refine Req.mk ⟨rfl, rfl, rfl, by simp [ci_length, *], rfl, by simp [okCell], by dsimp only; omega, by omega, by decide⟩ ?_ | refine Req.mk (show pendP _ _ by repeat' constructor) ?_ | (with_reducible refine brT ?_ ?_; next => assumption) | (with_reducible refine brF ?_ ?_; next => assumption) | (with_reducible refine brDT ?_ ?_; next => omega) | (with_reducible refine brDF ?_ ?_; next => omega) | (with_reducible refine brET ?_ ?_; next => omega) | (with_reducible refine brEF ?_ ?_; next => omega) | (with_reducible refine brNET ?_ ?_; next => omega) | (with_reducible refine brNEF ?_ ?_; next => omega) | with_reducible refine brNot ?_); conv => whnf))
          · rw [List.take_of_length_le (by omega), ← hpw]
            conv => whnf
            repeat' ((first | refine zq1 (by omega) ?_ | refine zq2 (by omega) ?_ | refine NumH.rem (by omega) ?_ | refine zq4 (by omega) ?_ | refine zq5 (by omega) ?_ | refine zq6 ?_ | refine Req.mk (by omega) ?_ | refine Req.mk (by dsimp only; omega) ?_ | refine Req.mk ⟨rfl, rfl, rfl, by simp [ci_length, *], rfl, by simp [okCell], by dsimp only; omega, by omega, by decide⟩ ?_ | refine Req.mk (show pendP _ _ by repeat' constructor) ?_ | (with_reducible refine brT ?_ ?_; next => assumption) | (with_reducible refine brF ?_ ?_; next => assumption) | (with_reducible refine brDT ?_ ?_; next => omega) | (with_reducible refine brDF ?_ ?_; next => omega) | (with_reducible refine brET ?_ ?_; next => omega) | (with_reducible refine brEF ?_ ?_; next => omega) | (with_reducible refine brNET ?_ ?_; next => omega) | (with_reducible refine brNEF ?_ ?_; next => omega) | with_reducible refine brNot ?_); conv => whnf)
            exact ⟨_, keepT_weak (maskOf 95 [2, 3, 5, 7, 8]) _, rfl, rfl, rfl⟩
        · rintro _ _ _ ⟨rfl, rfl, rfl⟩
          conv => whnf
          exact ⟨_, WeakL.refl _, rfl, rfl⟩
  rintro _ _ ⟨rfl, rfl⟩
  clear hpw hdn hs hlen
  have hw : ∀ z : Int, Weak (.agg [.bool bl, .bool false, v, .int .i64 z]) (rV bl (rFold M).1 z) := fun z => Weak.agg (WeakL.cons (Weak.refl _) (WeakL.cons (Weak.refl _) (WeakL.cons (by
    rcases hv with ⟨rfl, h⟩ | rfl
    · rw [h]; exact Weak.nils
    · exact Weak.refl _) (WeakL.refl _))))
  refine codeR_sound seat_ok _ _ _ _ ?_
  generalize rFold M = R at *
  rcases hv with ⟨rfl, -⟩ | rfl
  · cases dn with
    | false =>
      conv => whnf
      repeat' ((first | refine zq1 (by omega) ?_ | refine zq2 (by omega) ?_ | refine NumH.rem (by omega) ?_ | refine zq4 (by omega) ?_ | refine zq5 (by omega) ?_ | refine zq6 ?_ | refine Req.mk (by omega) ?_ | refine Req.mk (by dsimp only; omega) ?_ | refine Req.mk ⟨rfl, rfl, rfl, by simp [ci_length, *], rfl, by simp [okCell], by dsimp only; omega, by omega, by decide⟩ ?_ | refine Req.mk (show pendP _ _ by repeat' constructor) ?_ | (with_reducible refine brT ?_ ?_; next => assumption) | (with_reducible refine brF ?_ ?_; next => assumption) | (with_reducible refine brDT ?_ ?_; next => omega) | (with_reducible refine brDF ?_ ?_; next => omega) | (with_reducible refine brET ?_ ?_; next => omega) | (with_reducible refine brEF ?_ ?_; next => omega) | (with_reducible refine brNET ?_ ?_; next => omega) | (with_reducible refine brNEF ?_ ?_; next => omega) | with_reducible refine brNot ?_); conv => whnf)
      exact .inl ⟨_, _, rfl, hw _, rfl⟩
    | true =>
      conv => whnf
      repeat' ((first | refine zq1 (by omega) ?_ | refine zq2 (by omega) ?_ | refine NumH.rem (by omega) ?_ | refine zq4 (by omega) ?_ | refine zq5 (by omega) ?_ | refine zq6 ?_ | refine Req.mk (by omega) ?_ | refine Req.mk (by dsimp only; omega) ?_ | refine Req.mk ⟨rfl, rfl, rfl, by simp [ci_length, *], rfl, by simp [okCell], by dsimp only; omega, by omega, by decide⟩ ?_ | refine Req.mk (show pendP _ _ by repeat' constructor) ?_ | (with_reducible refine brT ?_ ?_; next => assumption) | (with_reducible refine brF ?_ ?_; next => assumption) | (with_reducible refine brDT ?_ ?_; next => omega) | (with_reducible refine brDF ?_ ?_; next => omega) | (with_reducible refine brET ?_ ?_; next => omega) | (with_reducible refine brEF ?_ ?_; next => omega) | (with_reducible refine brNET ?_ ?_; next => omega) | (with_reducible refine brNEF ?_ ?_; next => omega) | with_reducible refine brNot ?_); conv => whnf)
      exact .inl ⟨_, _, rfl, hw _, rfl⟩
  · cases dn with
    | false =>
      conv => whnf
      repeat' ((first | refine zq1 (by omega) ?_ | refine zq2 (by omega) ?_ | refine NumH.rem (by omega) ?_ | refine zq4 (by omega) ?_ | refine zq5 (by omega) ?_ | refine zq6 ?_ | refine Req.mk (by omega) ?_ | refine Req.mk (by dsimp only; omega) ?_ | refine Req.mk ⟨rfl, rfl, rfl, by simp [ci_length, *], rfl, by simp [okCell], by dsimp only; omega, by omega, by decide⟩ ?_ | refine Req.mk (show pendP _ _ by repeat' constructor) ?_ | (with_reducible refine brT ?_ ?_; next => assumption) | (with_reducible refine brF ?_ ?_; next => assumption) | (with_reducible refine brDT ?_ ?_; next => omega) | (with_reducible refine brDF ?_ ?_; next => omega) | (with_reducible refine brET ?_ ?_; next => omega) | (with_reducible refine brEF ?_ ?_; next => omega) | (with_reducible refine brNET ?_ ?_; next => omega) | (with_reducible refine brNEF ?_ ?_; next => omega) | with_reducible refine brNot ?_); conv => whnf)
      exact .inl ⟨_, _, rfl, hw _, rfl⟩
    | true =>
      conv => whnf
      repeat' ((first | refine zq1 (by omega) ?_ | refine zq2 (by omega) ?_ | refine NumH.rem (by omega) ?_ | refine zq4 (by omega) ?_ | refine zq5 (by omega) ?_ | refine zq6 ?_ | refine Req.mk (by omega) ?_ | refine Req.mk (by dsimp only; omega) ?_ | refine Req.mk ⟨rfl, rfl, rfl, by simp [ci_length, *], rfl, by simp [okCell], by dsimp only; omega, by omega, by decide⟩ ?_ | refine Req.mk (show pendP _ _ by repeat' constructor) ?_ | (with_reducible refine brT ?_ ?_; next => assumption) | (with_reducible refine brF ?_ ?_; next => assumption) | (with_reducible refine brDT ?_ ?_; next => omega) | (with_reducible refine brDF ?_ ?_; next => omega) | (with_reducible refine brET ?_ ?_; next => omega) | (with_reducible refine brEF ?_ ?_; next => omega) | (with_reducible refine brNET ?_ ?_; next => omega) | (with_reducible refine brNEF ?_ ?_; next => omega) | with_reducible refine brNot ?_); conv => whnf)
      exact .inl ⟨_, _, rfl, hw _, rfl⟩
end Go.Proofs.YtelgbnjagbleoaaDoor
