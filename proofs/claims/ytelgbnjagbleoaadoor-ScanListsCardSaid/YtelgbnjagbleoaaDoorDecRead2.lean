/- The program's reading of a number's text: the walk. Conditions: the text is one, and not too long. -/
import Derived.Test.YtelgbnjagbleoaaDoorDecRead
set_option linter.unusedSimpArgs false
set_option linter.unusedVariables false
set_option linter.deprecated false
namespace Go.Proofs.YtelgbnjagbleoaaDoor
open Go.Abs
set_option maxRecDepth 20000 in
set_option maxHeartbeats 2000000 in
theorem c_dread (M : List UInt8) (ex : Option (UInt8 × List UInt8 × List UInt8)) (hM : ∀ b ∈ M, kindN b.toNat ≠ 2) (hex : exOK ex) (hl : (M ++ expB ex).length ≤ 1000000) :
    ACalls seat 31 [.str (M ++ expB ex)] [] (fun x _ => x = .ret (numV (rdM M) (exPow 1099511627776 ex) (exDown ex))) := by
  refine ACalls.weakR ?_
  refine ACalls.body seat_ok Tryd.func31 rfl rfl ?_
  obtain ⟨s, hs⟩ : ∃ s, s = M ++ expB ex := ⟨_, rfl⟩
  have hsM : ∀ (p : Nat) (b : UInt8), M[p]? = some b → s[p]? = some b := fun p b h => by
    rw [hs, List.getElem?_append_left (List.getElem?_eq_some_iff.1 h).1]; exact h
  have hlen : s.length = M.length + (expB ex).length := by rw [hs, List.length_append]
  rw [← hs] at hl ⊢
  obtain ⟨pw, hpw⟩ : ∃ pw, pw = exPow 1099511627776 ex := ⟨_, rfl⟩
  obtain ⟨dn, hdn⟩ : ∃ dn, dn = exDown ex := ⟨_, rfl⟩
  have hpb : 0 ≤ pw ∧ pw ≤ 1099511627776 := by
    rw [hpw]
    cases ex with
    | none => simp [exPow]
    | some x => exact powF_bd (by decide) _ _ rfl hex.2.2.2
  rw [← hpw, ← hdn]
  conv => whnf
  refine Sat.nilTokH 1 1 5 1 rfl rfl ?_
  refine Sat.cut (fun x t h => x = .exit 0 ∧ t = (uu :: uu :: .ptr 0 0 :: .ptr 1 0 :: uu :: .bool dn :: .int .i64 pw :: uu :: uu :: uu :: uu :: uu :: uu :: uu :: uu :: uu :: uu :: uu :: uu :: uu :: uu :: uu :: uu :: uu :: uu :: uu :: uu :: uu :: uu :: uu :: uu :: uu :: uu :: uu :: uu :: uu :: uu :: uu :: uu :: uu :: uu :: uu :: uu :: uu :: uu :: uu :: uu :: uu :: uu :: uu :: uu :: uu :: uu :: uu :: uu :: uu :: uu :: uu :: uu :: uu :: uu :: uu :: uu :: uu :: uu :: uu :: uu :: uu :: uu :: uu :: uu :: uu :: uu :: uu :: uu :: uu :: uu :: uu :: uu :: uu :: uu :: uu :: uu :: uu :: uu :: uu :: uu :: uu :: uu :: uu :: uu :: uu :: uu :: uu :: uu :: uu :: uu :: uu :: uu :: uu :: uu :: uu :: uu :: uu :: uu :: uu :: uu :: uu :: uu :: uu :: uu :: uu :: uu :: uu :: uu :: uu :: uu :: uu :: uu :: uu :: uu :: uu :: uu :: uu :: []) ∧ h = [.var [.bool false, .nils, .int .i64 0] 65, .var [.bool (rdM M).below, .vec (ci .u8 (rdM M).ds) (rdM M).ds.length (some 2), .int .i64 (rdM M).pt] 65, .tok (rdM M).ds.length 5 1]) ?_ ?_
  · refine Sat.invP seat_ok seat_g (maskOf 124 [0, 2, 3, 4, 5, 6, 7]) 3 (fun μ t h => (∃ p : Nat, p ≤ M.length ∧ μ = s.length + 2 - p ∧ 
        t = (.str s :: uu :: .ptr 0 0 :: .ptr 1 0 :: .bool (rdM (M.take p)).seen :: .bool false :: .int .i64 0 :: .int .i64 p :: uu :: uu :: uu :: uu :: uu :: uu :: uu :: uu :: uu :: uu :: uu :: uu :: uu :: uu :: uu :: uu :: uu :: uu :: uu :: uu :: uu :: uu :: uu :: uu :: uu :: uu :: uu :: uu :: uu :: uu :: uu :: uu :: uu :: uu :: uu :: uu :: uu :: uu :: uu :: uu :: uu :: uu :: uu :: uu :: uu :: uu :: uu :: uu :: uu :: uu :: uu :: uu :: uu :: uu :: uu :: uu :: uu :: uu :: uu :: uu :: uu :: uu :: uu :: uu :: uu :: uu :: uu :: uu :: uu :: uu :: uu :: uu :: uu :: uu :: uu :: uu :: uu :: uu :: uu :: uu :: uu :: uu :: uu :: uu :: uu :: uu :: uu :: uu :: uu :: uu :: uu :: uu :: uu :: uu :: uu :: uu :: uu :: uu :: uu :: uu :: uu :: uu :: uu :: uu :: uu :: uu :: uu :: uu :: uu :: uu :: uu :: uu :: uu :: uu :: uu :: uu :: []) ∧
        h = [.var [.bool false, .nils, .int .i64 0] 65, .var [.bool (rdM (M.take p)).below, .vec (ci .u8 (rdM (M.take p)).ds) (rdM (M.take p)).ds.length (some 2), .int .i64 (rdM (M.take p)).pt] 65, .tok (rdM (M.take p)).ds.length 5 1]) ∨
      (μ = 0 ∧ t = (.str s :: uu :: .ptr 0 0 :: .ptr 1 0 :: .bool (rdM M).seen :: .bool dn :: .int .i64 pw :: .int .i64 (s.length + 1) :: uu :: uu :: uu :: uu :: uu :: uu :: uu :: uu :: uu :: uu :: uu :: uu :: uu :: uu :: uu :: uu :: uu :: uu :: uu :: uu :: uu :: uu :: uu :: uu :: uu :: uu :: uu :: uu :: uu :: uu :: uu :: uu :: uu :: uu :: uu :: uu :: uu :: uu :: uu :: uu :: uu :: uu :: uu :: uu :: uu :: uu :: uu :: uu :: uu :: uu :: uu :: uu :: uu :: uu :: uu :: uu :: uu :: uu :: uu :: uu :: uu :: uu :: uu :: uu :: uu :: uu :: uu :: uu :: uu :: uu :: uu :: uu :: uu :: uu :: uu :: uu :: uu :: uu :: uu :: uu :: uu :: uu :: uu :: uu :: uu :: uu :: uu :: uu :: uu :: uu :: uu :: uu :: uu :: uu :: uu :: uu :: uu :: uu :: uu :: uu :: uu :: uu :: uu :: uu :: uu :: uu :: uu :: uu :: uu :: uu :: uu :: uu :: uu :: uu :: uu :: uu :: []) ∧
        h = [.var [.bool false, .nils, .int .i64 0] 65, .var [.bool (rdM M).below, .vec (ci .u8 (rdM M).ds) (rdM M).ds.length (some 2), .int .i64 (rdM M).pt] 65, .tok (rdM M).ds.length 5 1]))
      ?_ ⟨_, _, WeakL.of_eq rfl, .inl ⟨0, by omega, rfl, rfl, rfl⟩⟩ ?_
    · rintro _ _ _ (⟨p, -, -, rfl, rfl⟩ | ⟨-, rfl, rfl⟩)
      · exact ⟨rfl, (by simp [IdsL, Ids, IdsH, IdsC, lv_ids, ci_ids]), (by simp [IdsL, Ids, IdsH, IdsC, lv_ids, ci_ids])⟩
      · exact ⟨rfl, (by simp [IdsL, Ids, IdsH, IdsC, lv_ids, ci_ids]), (by simp [IdsL, Ids, IdsH, IdsC, lv_ids, ci_ids])⟩
    rintro _ _ _ (⟨p, hp, rfl, rfl, rfl⟩ | ⟨rfl, rfl, rfl⟩)
    rotate_left
    · have g : ¬ ((s.length : Int) + 1 < s.length) := by omega
      conv => whnf
      repeat' ((first | refine zq1 (by omega) ?_ | refine zq2 (by omega) ?_ | refine NumH.rem (by omega) ?_ | refine zq4 (by omega) ?_ | refine zq5 (by omega) ?_ | refine zq6 ?_ | refine Req.mk (by omega) ?_ | refine Req.mk (by dsimp only; omega) ?_ | refine Req.mk ⟨rfl, rfl, rfl, by simp [ci_length, *], rfl, by simp [okCell], by dsimp only; omega, by omega, by decide⟩ ?_ | refine Req.mk (show pendP _ _ by repeat' constructor) ?_ | (with_reducible refine brT ?_ ?_; next => assumption) | (with_reducible refine brF ?_ ?_; next => assumption) | (with_reducible refine brDT ?_ ?_; next => omega) | (with_reducible refine brDF ?_ ?_; next => omega) | (with_reducible refine brET ?_ ?_; next => omega) | (with_reducible refine brEF ?_ ?_; next => omega) | (with_reducible refine brNET ?_ ?_; next => omega) | (with_reducible refine brNEF ?_ ?_; next => omega) | with_reducible refine brNot ?_); conv => whnf)
      exact ⟨_, keepT_weak (maskOf 124 [2, 3, 5, 6]) _, rfl, rfl, rfl⟩
    by_cases g : p < M.length
    · obtain ⟨b, hb⟩ : ∃ b, M[p]? = some b := ⟨_, List.getElem?_eq_getElem g⟩
      have eb : (s[(p : Int).toNat]?) = some b := hsM p b hb
      have gl : p < s.length := by omega
      have ck := c_kind b.toNat
      have hst : rdM (M.take (p + 1)) = rdStep (rdM (M.take p)) b := by
        rw [← rdM_snoc]; congr 1
        rw [List.take_succ_eq_append_getElem g]; congr 2
        exact (List.getElem?_eq_some_iff.1 hb).2
      have hk2 := hM b (List.mem_of_getElem? hb)
      have hbd := rdM_bd p (M.take p) (by rw [List.length_take]; omega)
      have hcs := kindN_cases b.toNat
      obtain ⟨⟨bl, ds, pt, sn⟩, hR⟩ : ∃ R, rdM (M.take p) = R := ⟨_, rfl⟩
      have q1 : (rdM (M.take p)).below = bl := by rw [hR]
      have q2 : (rdM (M.take p)).ds = ds := by rw [hR]
      have q3 : (rdM (M.take p)).pt = pt := by rw [hR]
      have q4 : (rdM (M.take p)).seen = sn := by rw [hR]
      rw [q1, q2, q3, q4]
      rw [hR] at hst hbd
      clear q1 q2 q3 q4
      have hcl : (ci .u8 ds).length = ds.length * 1 := by rw [ci_length]; omega
      simp only at hbd
      unfold rdStep at hst
      rcases hcs with ⟨hk, hc⟩ | ⟨hk, hc⟩ | ⟨hk, -⟩ | ⟨hk, hc⟩ | ⟨hk, -⟩
      · rw [if_pos hk] at hst
        simp only at hst
        generalize kindN b.toNat = k at *
        by_cases h48 : (b.toNat : Int) = 48
        · by_cases h0 : ds.length = 0
          · obtain rfl := List.length_eq_zero_iff.1 h0
            have e1 : dsF [] b.toNat = [] := by simp [dsF, h48]
            rw [e1] at hst
            cases sn with
            | false =>
              have e2 : ptF false [] pt = pt := by simp [ptF]
              rw [e2] at hst
              conv => whnf
              repeat' (first | exact ⟨_, _, Nat.sub_lt_sub_left (by omega) (Nat.lt_succ_self p), WeakL.of_eq rfl, .inl ⟨p + 1, by omega, rfl, by rw [hst]; rfl, by rw [hst]; rfl⟩⟩ | (refine ldI _ eb ?_; conv => whnf) | (refine CallH.lift seat_g ck (by simp [Closed, ClosedL]) (by simp [Closed]) ?_; conv => whnf) | (refine WrapH.is _ (wrap_u8 (by omega) (by omega)) ?_; conv => whnf) | ((first | refine zq1 (by omega) ?_ | refine zq2 (by omega) ?_ | refine NumH.rem (by omega) ?_ | refine zq4 (by omega) ?_ | refine zq5 (by omega) ?_ | refine zq6 ?_ | refine Req.mk (by omega) ?_ | refine Req.mk (by dsimp only; omega) ?_ | refine Req.mk ⟨rfl, rfl, rfl, by simp [ci_length, *], rfl, by simp [okCell], by dsimp only; omega, by omega, by decide⟩ ?_ | refine Req.mk (show pendP _ _ by repeat' constructor) ?_ | (with_reducible refine brT ?_ ?_; next => assumption) | (with_reducible refine brF ?_ ?_; next => assumption) | (with_reducible refine brDT ?_ ?_; next => omega) | (with_reducible refine brDF ?_ ?_; next => omega) | (with_reducible refine brET ?_ ?_; next => omega) | (with_reducible refine brEF ?_ ?_; next => omega) | (with_reducible refine brNET ?_ ?_; next => omega) | (with_reducible refine brNEF ?_ ?_; next => omega) | with_reducible refine brNot ?_); conv => whnf))
            | true =>
              have e2 : ptF true [] pt = pt - 1 := by simp [ptF]
              rw [e2] at hst
              conv => whnf
              repeat' (first | exact ⟨_, _, Nat.sub_lt_sub_left (by omega) (Nat.lt_succ_self p), WeakL.of_eq rfl, .inl ⟨p + 1, by omega, rfl, by rw [hst]; rfl, by rw [hst]; rfl⟩⟩ | (refine ldI _ eb ?_; conv => whnf) | (refine CallH.lift seat_g ck (by simp [Closed, ClosedL]) (by simp [Closed]) ?_; conv => whnf) | (refine WrapH.is _ (wrap_u8 (by omega) (by omega)) ?_; conv => whnf) | ((first | refine zq1 (by omega) ?_ | refine zq2 (by omega) ?_ | refine NumH.rem (by omega) ?_ | refine zq4 (by omega) ?_ | refine zq5 (by omega) ?_ | refine zq6 ?_ | refine Req.mk (by omega) ?_ | refine Req.mk (by dsimp only; omega) ?_ | refine Req.mk ⟨rfl, rfl, rfl, by simp [ci_length, *], rfl, by simp [okCell], by dsimp only; omega, by omega, by decide⟩ ?_ | refine Req.mk (show pendP _ _ by repeat' constructor) ?_ | (with_reducible refine brT ?_ ?_; next => assumption) | (with_reducible refine brF ?_ ?_; next => assumption) | (with_reducible refine brDT ?_ ?_; next => omega) | (with_reducible refine brDF ?_ ?_; next => omega) | (with_reducible refine brET ?_ ?_; next => omega) | (with_reducible refine brEF ?_ ?_; next => omega) | (with_reducible refine brNET ?_ ?_; next => omega) | (with_reducible refine brNEF ?_ ?_; next => omega) | with_reducible refine brNot ?_); conv => whnf))
          · have e1 : dsF ds b.toNat = ds ++ [(b.toNat : Int) - 48] := if_pos (.inr (by omega))
            have h1 : 0 < (ds ++ [(b.toNat : Int) - 48]).length := by simp
            have hcp : ci .u8 (ds ++ [(b.toNat : Int) - 48]) = ci .u8 ds ++ [.int .u8 ((b.toNat : Int) - 48)] := by simp [ci]
            have hll : (ds ++ [(b.toNat : Int) - 48]).length = ds.length + 1 := by simp
            rw [e1] at hst
            cases sn with
            | false =>
              have e2 : ptF false (ds ++ [(b.toNat : Int) - 48]) pt = pt + 1 := by simp [ptF]
              rw [e2] at hst
              conv => whnf
              repeat' (first | exact ⟨_, _, Nat.sub_lt_sub_left (by omega) (Nat.lt_succ_self p), WeakL.of_eq rfl, .inl ⟨p + 1, by omega, rfl, by rw [hst]; rfl, by rw [hst]; simp only [hcp, hll]; rfl⟩⟩ | (refine ldI _ eb ?_; conv => whnf) | (refine CallH.lift seat_g ck (by simp [Closed, ClosedL]) (by simp [Closed]) ?_; conv => whnf) | (refine WrapH.is _ (wrap_u8 (by omega) (by omega)) ?_; conv => whnf) | (refine Req.mk ⟨rfl, rfl, rfl, hcl, rfl, by simp [okCell], by dsimp only; omega, by dsimp only; omega, by decide⟩ ?_; conv => whnf) | ((first | refine zq1 (by omega) ?_ | refine zq2 (by omega) ?_ | refine NumH.rem (by omega) ?_ | refine zq4 (by omega) ?_ | refine zq5 (by omega) ?_ | refine zq6 ?_ | refine Req.mk (by omega) ?_ | refine Req.mk (by dsimp only; omega) ?_ | refine Req.mk ⟨rfl, rfl, rfl, by simp [ci_length, *], rfl, by simp [okCell], by dsimp only; omega, by omega, by decide⟩ ?_ | refine Req.mk (show pendP _ _ by repeat' constructor) ?_ | (with_reducible refine brT ?_ ?_; next => assumption) | (with_reducible refine brF ?_ ?_; next => assumption) | (with_reducible refine brDT ?_ ?_; next => omega) | (with_reducible refine brDF ?_ ?_; next => omega) | (with_reducible refine brET ?_ ?_; next => omega) | (with_reducible refine brEF ?_ ?_; next => omega) | (with_reducible refine brNET ?_ ?_; next => omega) | (with_reducible refine brNEF ?_ ?_; next => omega) | with_reducible refine brNot ?_); conv => whnf))
            | true =>
              have e2 : ptF true (ds ++ [(b.toNat : Int) - 48]) pt = pt := by simp [ptF]
              rw [e2] at hst
              conv => whnf
              repeat' (first | exact ⟨_, _, Nat.sub_lt_sub_left (by omega) (Nat.lt_succ_self p), WeakL.of_eq rfl, .inl ⟨p + 1, by omega, rfl, by rw [hst]; rfl, by rw [hst]; simp only [hcp, hll]; rfl⟩⟩ | (refine ldI _ eb ?_; conv => whnf) | (refine CallH.lift seat_g ck (by simp [Closed, ClosedL]) (by simp [Closed]) ?_; conv => whnf) | (refine WrapH.is _ (wrap_u8 (by omega) (by omega)) ?_; conv => whnf) | (refine Req.mk ⟨rfl, rfl, rfl, hcl, rfl, by simp [okCell], by dsimp only; omega, by dsimp only; omega, by decide⟩ ?_; conv => whnf) | ((first | refine zq1 (by omega) ?_ | refine zq2 (by omega) ?_ | refine NumH.rem (by omega) ?_ | refine zq4 (by omega) ?_ | refine zq5 (by omega) ?_ | refine zq6 ?_ | refine Req.mk (by omega) ?_ | refine Req.mk (by dsimp only; omega) ?_ | refine Req.mk ⟨rfl, rfl, rfl, by simp [ci_length, *], rfl, by simp [okCell], by dsimp only; omega, by omega, by decide⟩ ?_ | refine Req.mk (show pendP _ _ by repeat' constructor) ?_ | (with_reducible refine brT ?_ ?_; next => assumption) | (with_reducible refine brF ?_ ?_; next => assumption) | (with_reducible refine brDT ?_ ?_; next => omega) | (with_reducible refine brDF ?_ ?_; next => omega) | (with_reducible refine brET ?_ ?_; next => omega) | (with_reducible refine brEF ?_ ?_; next => omega) | (with_reducible refine brNET ?_ ?_; next => omega) | (with_reducible refine brNEF ?_ ?_; next => omega) | with_reducible refine brNot ?_); conv => whnf))
        · have e1 : dsF ds b.toNat = ds ++ [(b.toNat : Int) - 48] := if_pos (.inl h48)
          have h1 : 0 < (ds ++ [(b.toNat : Int) - 48]).length := by simp
          have hcp : ci .u8 (ds ++ [(b.toNat : Int) - 48]) = ci .u8 ds ++ [.int .u8 ((b.toNat : Int) - 48)] := by simp [ci]
          have hll : (ds ++ [(b.toNat : Int) - 48]).length = ds.length + 1 := by simp
          rw [e1] at hst
          cases sn with
          | false =>
            have e2 : ptF false (ds ++ [(b.toNat : Int) - 48]) pt = pt + 1 := by simp [ptF]
            rw [e2] at hst
            conv => whnf
            repeat' (first | exact ⟨_, _, Nat.sub_lt_sub_left (by omega) (Nat.lt_succ_self p), WeakL.of_eq rfl, .inl ⟨p + 1, by omega, rfl, by rw [hst]; rfl, by rw [hst]; simp only [hcp, hll]; rfl⟩⟩ | (refine ldI _ eb ?_; conv => whnf) | (refine CallH.lift seat_g ck (by simp [Closed, ClosedL]) (by simp [Closed]) ?_; conv => whnf) | (refine WrapH.is _ (wrap_u8 (by omega) (by omega)) ?_; conv => whnf) | (refine Req.mk ⟨rfl, rfl, rfl, hcl, rfl, by simp [okCell], by dsimp only; omega, by dsimp only; omega, by decide⟩ ?_; conv => whnf) | ((first | refine zq1 (by omega) ?_ | refine zq2 (by omega) ?_ | refine NumH.rem (by omega) ?_ | refine zq4 (by omega) ?_ | refine zq5 (by omega) ?_ | refine zq6 ?_ | refine Req.mk (by omega) ?_ | refine Req.mk (by dsimp only; omega) ?_ | refine Req.mk ⟨rfl, rfl, rfl, by simp [ci_length, *], rfl, by simp [okCell], by dsimp only; omega, by omega, by decide⟩ ?_ | refine Req.mk (show pendP _ _ by repeat' constructor) ?_ | (with_reducible refine brT ?_ ?_; next => assumption) | (with_reducible refine brF ?_ ?_; next => assumption) | (with_reducible refine brDT ?_ ?_; next => omega) | (with_reducible refine brDF ?_ ?_; next => omega) | (with_reducible refine brET ?_ ?_; next => omega) | (with_reducible refine brEF ?_ ?_; next => omega) | (with_reducible refine brNET ?_ ?_; next => omega) | (with_reducible refine brNEF ?_ ?_; next => omega) | with_reducible refine brNot ?_); conv => whnf))
          | true =>
            have e2 : ptF true (ds ++ [(b.toNat : Int) - 48]) pt = pt := by simp [ptF]
            rw [e2] at hst
            conv => whnf
            repeat' (first | exact ⟨_, _, Nat.sub_lt_sub_left (by omega) (Nat.lt_succ_self p), WeakL.of_eq rfl, .inl ⟨p + 1, by omega, rfl, by rw [hst]; rfl, by rw [hst]; simp only [hcp, hll]; rfl⟩⟩ | (refine ldI _ eb ?_; conv => whnf) | (refine CallH.lift seat_g ck (by simp [Closed, ClosedL]) (by simp [Closed]) ?_; conv => whnf) | (refine WrapH.is _ (wrap_u8 (by omega) (by omega)) ?_; conv => whnf) | (refine Req.mk ⟨rfl, rfl, rfl, hcl, rfl, by simp [okCell], by dsimp only; omega, by dsimp only; omega, by decide⟩ ?_; conv => whnf) | ((first | refine zq1 (by omega) ?_ | refine zq2 (by omega) ?_ | refine NumH.rem (by omega) ?_ | refine zq4 (by omega) ?_ | refine zq5 (by omega) ?_ | refine zq6 ?_ | refine Req.mk (by omega) ?_ | refine Req.mk (by dsimp only; omega) ?_ | refine Req.mk ⟨rfl, rfl, rfl, by simp [ci_length, *], rfl, by simp [okCell], by dsimp only; omega, by omega, by decide⟩ ?_ | refine Req.mk (show pendP _ _ by repeat' constructor) ?_ | (with_reducible refine brT ?_ ?_; next => assumption) | (with_reducible refine brF ?_ ?_; next => assumption) | (with_reducible refine brDT ?_ ?_; next => omega) | (with_reducible refine brDF ?_ ?_; next => omega) | (with_reducible refine brET ?_ ?_; next => omega) | (with_reducible refine brEF ?_ ?_; next => omega) | (with_reducible refine brNET ?_ ?_; next => omega) | (with_reducible refine brNEF ?_ ?_; next => omega) | with_reducible refine brNot ?_); conv => whnf))
      · rw [if_neg (by omega), if_pos hk] at hst
        generalize kindN b.toNat = k at *
        conv => whnf
        repeat' (first | exact ⟨_, _, Nat.sub_lt_sub_left (by omega) (Nat.lt_succ_self p), WeakL.of_eq rfl, .inl ⟨p + 1, by omega, rfl, by rw [hst]; rfl, by rw [hst]; rfl⟩⟩ | (refine ldI _ eb ?_; conv => whnf) | (refine CallH.lift seat_g ck (by simp [Closed, ClosedL]) (by simp [Closed]) ?_; conv => whnf) | (refine WrapH.is _ (wrap_u8 (by omega) (by omega)) ?_; conv => whnf) | ((first | refine zq1 (by omega) ?_ | refine zq2 (by omega) ?_ | refine NumH.rem (by omega) ?_ | refine zq4 (by omega) ?_ | refine zq5 (by omega) ?_ | refine zq6 ?_ | refine Req.mk (by omega) ?_ | refine Req.mk (by dsimp only; omega) ?_ | refine Req.mk ⟨rfl, rfl, rfl, by simp [ci_length, *], rfl, by simp [okCell], by dsimp only; omega, by omega, by decide⟩ ?_ | refine Req.mk (show pendP _ _ by repeat' constructor) ?_ | (with_reducible refine brT ?_ ?_; next => assumption) | (with_reducible refine brF ?_ ?_; next => assumption) | (with_reducible refine brDT ?_ ?_; next => omega) | (with_reducible refine brDF ?_ ?_; next => omega) | (with_reducible refine brET ?_ ?_; next => omega) | (with_reducible refine brEF ?_ ?_; next => omega) | (with_reducible refine brNET ?_ ?_; next => omega) | (with_reducible refine brNEF ?_ ?_; next => omega) | with_reducible refine brNot ?_); conv => whnf))
      · exact absurd hk hk2
      · rw [if_neg (by omega), if_neg (by omega), if_pos hk] at hst
        generalize kindN b.toNat = k at *
        conv => whnf
        repeat' (first | exact ⟨_, _, Nat.sub_lt_sub_left (by omega) (Nat.lt_succ_self p), WeakL.of_eq rfl, .inl ⟨p + 1, by omega, rfl, by rw [hst]; rfl, by rw [hst]; rfl⟩⟩ | (refine ldI _ eb ?_; conv => whnf) | (refine CallH.lift seat_g ck (by simp [Closed, ClosedL]) (by simp [Closed]) ?_; conv => whnf) | (refine WrapH.is _ (wrap_u8 (by omega) (by omega)) ?_; conv => whnf) | ((first | refine zq1 (by omega) ?_ | refine zq2 (by omega) ?_ | refine NumH.rem (by omega) ?_ | refine zq4 (by omega) ?_ | refine zq5 (by omega) ?_ | refine zq6 ?_ | refine Req.mk (by omega) ?_ | refine Req.mk (by dsimp only; omega) ?_ | refine Req.mk ⟨rfl, rfl, rfl, by simp [ci_length, *], rfl, by simp [okCell], by dsimp only; omega, by omega, by decide⟩ ?_ | refine Req.mk (show pendP _ _ by repeat' constructor) ?_ | (with_reducible refine brT ?_ ?_; next => assumption) | (with_reducible refine brF ?_ ?_; next => assumption) | (with_reducible refine brDT ?_ ?_; next => omega) | (with_reducible refine brDF ?_ ?_; next => omega) | (with_reducible refine brET ?_ ?_; next => omega) | (with_reducible refine brEF ?_ ?_; next => omega) | (with_reducible refine brNET ?_ ?_; next => omega) | (with_reducible refine brNEF ?_ ?_; next => omega) | with_reducible refine brNot ?_); conv => whnf))
      · rw [if_neg (by omega), if_neg (by omega), if_neg (by omega)] at hst
        generalize kindN b.toNat = k at *
        conv => whnf
        repeat' (first | exact ⟨_, _, Nat.sub_lt_sub_left (by omega) (Nat.lt_succ_self p), WeakL.of_eq rfl, .inl ⟨p + 1, by omega, rfl, by rw [hst]; rfl, by rw [hst]; rfl⟩⟩ | (refine ldI _ eb ?_; conv => whnf) | (refine CallH.lift seat_g ck (by simp [Closed, ClosedL]) (by simp [Closed]) ?_; conv => whnf) | (refine WrapH.is _ (wrap_u8 (by omega) (by omega)) ?_; conv => whnf) | ((first | refine zq1 (by omega) ?_ | refine zq2 (by omega) ?_ | refine NumH.rem (by omega) ?_ | refine zq4 (by omega) ?_ | refine zq5 (by omega) ?_ | refine zq6 ?_ | refine Req.mk (by omega) ?_ | refine Req.mk (by dsimp only; omega) ?_ | refine Req.mk ⟨rfl, rfl, rfl, by simp [ci_length, *], rfl, by simp [okCell], by dsimp only; omega, by omega, by decide⟩ ?_ | refine Req.mk (show pendP _ _ by repeat' constructor) ?_ | (with_reducible refine brT ?_ ?_; next => assumption) | (with_reducible refine brF ?_ ?_; next => assumption) | (with_reducible refine brDT ?_ ?_; next => omega) | (with_reducible refine brDF ?_ ?_; next => omega) | (with_reducible refine brET ?_ ?_; next => omega) | (with_reducible refine brEF ?_ ?_; next => omega) | (with_reducible refine brNET ?_ ?_; next => omega) | (with_reducible refine brNEF ?_ ?_; next => omega) | with_reducible refine brNot ?_); conv => whnf))
    · obtain rfl : p = M.length := by omega
      rw [List.take_length]
      have hbd := rdM_bd M.length M rfl
      generalize rdM M = R at *
      cases ex with
      | none =>
        have e0 : s.length = M.length := by rw [hlen]; rfl
        have g2 : ¬ ((M.length : Int) < s.length) := by omega
        simp only [exPow, exDown] at hpw hdn
        subst hpw hdn
        conv => whnf
        repeat' ((first | refine zq1 (by omega) ?_ | refine zq2 (by omega) ?_ | refine NumH.rem (by omega) ?_ | refine zq4 (by omega) ?_ | refine zq5 (by omega) ?_ | refine zq6 ?_ | refine Req.mk (by omega) ?_ | refine Req.mk (by dsimp only; omega) ?_ | refine Req.mk ⟨rfl, rfl, rfl, by simp [ci_length, *], rfl, by simp [okCell], by dsimp only; omega, by omega, by decide⟩ ?_ | refine Req.mk (show pendP _ _ by repeat' constructor) ?_ | (with_reducible refine brT ?_ ?_; next => assumption) | (with_reducible refine brF ?_ ?_; next => assumption) | (with_reducible refine brDT ?_ ?_; next => omega) | (with_reducible refine brDF ?_ ?_; next => omega) | (with_reducible refine brET ?_ ?_; next => omega) | (with_reducible refine brEF ?_ ?_; next => omega) | (with_reducible refine brNET ?_ ?_; next => omega) | (with_reducible refine brNEF ?_ ?_; next => omega) | with_reducible refine brNot ?_); conv => whnf)
        exact ⟨_, keepT_weak (maskOf 124 [2, 3, 5, 6]) _, rfl, rfl, rfl⟩
      | some x =>
        obtain ⟨e, sg, C⟩ := x
        obtain ⟨he, hsg, hC, hCk⟩ := hex
        simp only [exPow, exDown] at hpw hdn
        have hlC : 0 < C.length := List.length_pos_iff.2 hC
        have hlen2 : s.length = M.length + (1 + (sg.length + C.length)) := by rw [hlen]; simp [expB]; omega
        have g2 : (M.length : Int) < s.length := by omega
        have eb : (s[((M.length : Nat) : Int).toNat]?) = some e := by
          rw [hs, Int.toNat_natCast, List.getElem?_append_right (Nat.le_refl _), Nat.sub_self]; rfl
        have ck := c_kind e.toNat
        rw [he] at ck
        have hCi : ∀ (q : Nat) (c : UInt8), C[q]? = some c → s[M.length + 1 + sg.length + q]? = some c := fun q c h => by
          rw [hs, List.getElem?_append_right (by omega), show M.length + 1 + sg.length + q - M.length = (sg.length + q) + 1 by omega, expB, List.getElem?_cons_succ, List.getElem?_append_right (by omega), Nat.add_sub_cancel_left]; exact h
        have hsx : ∀ x, sg = [x] → (s[((M.length : Int) + 1).toNat]?) = some x := fun x h => by
          rw [hs, show ((M.length : Int) + 1).toNat = M.length + 1 by omega, List.getElem?_append_right (by omega), Nat.add_sub_cancel_left, h]; rfl
        clear hsM hM hs hlen hbd
        rcases Classical.em (sg = []) with rfl | hne
        · obtain ⟨c0, hc0⟩ : ∃ c0, C[0]? = some c0 := ⟨_, List.getElem?_eq_getElem hlC⟩
          have e1 : (s[((M.length : Int) + 1).toNat]?) = some c0 := by
            rw [show ((M.length : Int) + 1).toNat = M.length + 1 + [].length + 0 by simp]; exact hCi 0 c0 hc0
          have ck1 := c_kind c0.toNat
          rw [hCk c0 (List.mem_of_getElem? hc0)] at ck1
          have hd2 : dn = false := by rw [hdn]; rfl
          simp only [List.length_nil] at hCi hlen2
          subst hd2
          conv => whnf
          repeat' (first | (refine ldI _ eb ?_; conv => whnf) | (refine ldI _ e1 ?_; conv => whnf) | (refine CallH.lift seat_g ck (by simp [Closed, ClosedL]) (by simp [Closed]) ?_; conv => whnf) | (refine CallH.lift seat_g ck1 (by simp [Closed, ClosedL]) (by simp [Closed]) ?_; conv => whnf) | ((first | refine zq1 (by omega) ?_ | refine zq2 (by omega) ?_ | refine NumH.rem (by omega) ?_ | refine zq4 (by omega) ?_ | refine zq5 (by omega) ?_ | refine zq6 ?_ | refine Req.mk (by omega) ?_ | refine Req.mk (by dsimp only; omega) ?_ | refine Req.mk ⟨rfl, rfl, rfl, by simp [ci_length, *], rfl, by simp [okCell], by dsimp only; omega, by omega, by decide⟩ ?_ | refine Req.mk (show pendP _ _ by repeat' constructor) ?_ | (with_reducible refine brT ?_ ?_; next => assumption) | (with_reducible refine brF ?_ ?_; next => assumption) | (with_reducible refine brDT ?_ ?_; next => omega) | (with_reducible refine brDF ?_ ?_; next => omega) | (with_reducible refine brET ?_ ?_; next => omega) | (with_reducible refine brEF ?_ ?_; next => omega) | (with_reducible refine brNET ?_ ?_; next => omega) | (with_reducible refine brNEF ?_ ?_; next => omega) | with_reducible refine brNot ?_); conv => whnf))
          refine Sat.cut (fun x t h => x = .exit 3 ∧ (∃ n : Int, n = s.length ∧ t = (.str s :: uu :: .ptr 0 0 :: .ptr 1 0 :: .bool R.seen :: .bool false :: .int .i64 pw :: .int .i64 n :: uu :: uu :: uu :: uu :: uu :: uu :: uu :: uu :: uu :: uu :: uu :: uu :: uu :: uu :: uu :: uu :: uu :: uu :: uu :: uu :: uu :: uu :: uu :: uu :: uu :: uu :: uu :: uu :: uu :: uu :: uu :: uu :: uu :: uu :: uu :: uu :: uu :: uu :: uu :: uu :: uu :: uu :: uu :: uu :: uu :: uu :: uu :: uu :: uu :: uu :: uu :: uu :: uu :: uu :: uu :: uu :: uu :: uu :: uu :: uu :: uu :: uu :: uu :: uu :: uu :: uu :: uu :: uu :: uu :: uu :: uu :: uu :: uu :: uu :: uu :: uu :: uu :: uu :: uu :: uu :: uu :: uu :: uu :: uu :: uu :: uu :: uu :: uu :: uu :: uu :: uu :: uu :: uu :: uu :: uu :: uu :: uu :: uu :: uu :: uu :: uu :: uu :: uu :: uu :: uu :: uu :: uu :: uu :: uu :: uu :: uu :: uu :: uu :: uu :: uu :: uu :: [])) ∧ h = [.var [.bool false, .nils, .int .i64 0] 65, .var [.bool R.below, .vec (ci .u8 R.ds) R.ds.length (some 2), .int .i64 R.pt] 65, .tok R.ds.length 5 1]) ?_ ?_
          · refine Sat.invP seat_ok seat_g (maskOf 124 [0, 2, 3, 4, 5, 6, 7]) 3 (fun μ t h => ∃ (q : Nat) (n : Int), q ≤ C.length ∧ n = ((M.length + 1 + 0 + q : Nat) : Int) ∧ μ = C.length - q ∧ t = (.str s :: uu :: .ptr 0 0 :: .ptr 1 0 :: .bool R.seen :: .bool false :: .int .i64 (powF 1099511627776 0 (C.take q)) :: .int .i64 n :: uu :: uu :: uu :: uu :: uu :: uu :: uu :: uu :: uu :: uu :: uu :: uu :: uu :: uu :: uu :: uu :: uu :: uu :: uu :: uu :: uu :: uu :: uu :: uu :: uu :: uu :: uu :: uu :: uu :: uu :: uu :: uu :: uu :: uu :: uu :: uu :: uu :: uu :: uu :: uu :: uu :: uu :: uu :: uu :: uu :: uu :: uu :: uu :: uu :: uu :: uu :: uu :: uu :: uu :: uu :: uu :: uu :: uu :: uu :: uu :: uu :: uu :: uu :: uu :: uu :: uu :: uu :: uu :: uu :: uu :: uu :: uu :: uu :: uu :: uu :: uu :: uu :: uu :: uu :: uu :: uu :: uu :: uu :: uu :: uu :: uu :: uu :: uu :: uu :: uu :: uu :: uu :: uu :: uu :: uu :: uu :: uu :: uu :: uu :: uu :: uu :: uu :: uu :: uu :: uu :: uu :: uu :: uu :: uu :: uu :: uu :: uu :: uu :: uu :: uu :: uu :: []) ∧ h = [.var [.bool false, .nils, .int .i64 0] 65, .var [.bool R.below, .vec (ci .u8 R.ds) R.ds.length (some 2), .int .i64 R.pt] 65, .tok R.ds.length 5 1]) ?_ ⟨_, _, WeakL.of_eq rfl, 0, _, by omega, by omega, rfl, rfl, rfl⟩ ?_
            · rintro _ _ _ ⟨q, n, -, -, -, rfl, rfl⟩
              exact ⟨rfl, (by simp [IdsL, Ids, IdsH, IdsC, lv_ids, ci_ids]), (by simp [IdsL, Ids, IdsH, IdsC, lv_ids, ci_ids])⟩
            rintro _ _ _ ⟨q, n, hq, hn, rfl, rfl, rfl⟩
            by_cases gq : q < C.length
            · obtain ⟨c, hc⟩ : ∃ c, C[q]? = some c := ⟨_, List.getElem?_eq_getElem gq⟩
              have ec : (s[n.toNat]?) = some c := by rw [hn, Int.toNat_natCast]; exact hCi q c hc
              have hcm := List.mem_of_getElem? hc
              have hc0 := hCk c hcm
              have hcc := kindN_cases c.toNat
              have hpb2 := powF_bd (cap := 1099511627776) (by decide) _ (C.take q) rfl (fun c h => hCk c (List.mem_of_mem_take h))
              have hst : powF 1099511627776 0 (C.take (q + 1)) = if 1099511627776 < 10 * powF 1099511627776 0 (C.take q) + ((c.toNat : Int) - 48) then 1099511627776 else 10 * powF 1099511627776 0 (C.take q) + ((c.toNat : Int) - 48) := by
                rw [← powF_snoc]; congr 1
                rw [List.take_succ_eq_append_getElem gq]; congr 2
                exact (List.getElem?_eq_some_iff.1 hc).2
              generalize powF 1099511627776 0 (C.take q) = P at *
              conv => whnf
              repeat' (first | exact ⟨_, _, Nat.sub_lt_sub_left gq (Nat.lt_succ_self q), WeakL.of_eq rfl, q + 1, n + 1, by omega, by omega, rfl, by rw [hst]; rfl, rfl⟩ | (refine ldI _ ec ?_; conv => whnf) | (refine WrapH.is _ (wrap_u8 (by omega) (by omega)) ?_; conv => whnf) | ((first | refine zq1 (by omega) ?_ | refine zq2 (by omega) ?_ | refine NumH.rem (by omega) ?_ | refine zq4 (by omega) ?_ | refine zq5 (by omega) ?_ | refine zq6 ?_ | refine Req.mk (by omega) ?_ | refine Req.mk (by dsimp only; omega) ?_ | refine Req.mk ⟨rfl, rfl, rfl, by simp [ci_length, *], rfl, by simp [okCell], by dsimp only; omega, by omega, by decide⟩ ?_ | refine Req.mk (show pendP _ _ by repeat' constructor) ?_ | (with_reducible refine brT ?_ ?_; next => assumption) | (with_reducible refine brF ?_ ?_; next => assumption) | (with_reducible refine brDT ?_ ?_; next => omega) | (with_reducible refine brDF ?_ ?_; next => omega) | (with_reducible refine brET ?_ ?_; next => omega) | (with_reducible refine brEF ?_ ?_; next => omega) | (with_reducible refine brNET ?_ ?_; next => omega) | (with_reducible refine brNEF ?_ ?_; next => omega) | with_reducible refine brNot ?_); conv => whnf))
            · rw [List.take_of_length_le (by omega), ← hpw]
              conv => whnf
              repeat' ((first | refine zq1 (by omega) ?_ | refine zq2 (by omega) ?_ | refine NumH.rem (by omega) ?_ | refine zq4 (by omega) ?_ | refine zq5 (by omega) ?_ | refine zq6 ?_ | refine Req.mk (by omega) ?_ | refine Req.mk (by dsimp only; omega) ?_ | refine Req.mk ⟨rfl, rfl, rfl, by simp [ci_length, *], rfl, by simp [okCell], by dsimp only; omega, by omega, by decide⟩ ?_ | refine Req.mk (show pendP _ _ by repeat' constructor) ?_ | (with_reducible refine brT ?_ ?_; next => assumption) | (with_reducible refine brF ?_ ?_; next => assumption) | (with_reducible refine brDT ?_ ?_; next => omega) | (with_reducible refine brDF ?_ ?_; next => omega) | (with_reducible refine brET ?_ ?_; next => omega) | (with_reducible refine brEF ?_ ?_; next => omega) | (with_reducible refine brNET ?_ ?_; next => omega) | (with_reducible refine brNEF ?_ ?_; next => omega) | with_reducible refine brNot ?_); conv => whnf)
              exact ⟨_, keepT_weak (maskOf 124 [0, 2, 3, 4, 5, 6, 7]) _, rfl, ⟨n, by omega, rfl⟩, rfl⟩
          · rintro _ _ _ ⟨rfl, ⟨n, hn, rfl⟩, rfl⟩
            conv => whnf
            repeat' ((first | refine zq1 (by omega) ?_ | refine zq2 (by omega) ?_ | refine NumH.rem (by omega) ?_ | refine zq4 (by omega) ?_ | refine zq5 (by omega) ?_ | refine zq6 ?_ | refine Req.mk (by omega) ?_ | refine Req.mk (by dsimp only; omega) ?_ | refine Req.mk ⟨rfl, rfl, rfl, by simp [ci_length, *], rfl, by simp [okCell], by dsimp only; omega, by omega, by decide⟩ ?_ | refine Req.mk (show pendP _ _ by repeat' constructor) ?_ | (with_reducible refine brT ?_ ?_; next => assumption) | (with_reducible refine brF ?_ ?_; next => assumption) | (with_reducible refine brDT ?_ ?_; next => omega) | (with_reducible refine brDF ?_ ?_; next => omega) | (with_reducible refine brET ?_ ?_; next => omega) | (with_reducible refine brEF ?_ ?_; next => omega) | (with_reducible refine brNET ?_ ?_; next => omega) | (with_reducible refine brNEF ?_ ?_; next => omega) | with_reducible refine brNot ?_); conv => whnf)
            exact ⟨_, _, Nat.lt_of_lt_of_le (Nat.succ_pos 0) (by omega), WeakL.of_eq rfl, .inr ⟨rfl, by rw [hn]; rfl, rfl⟩⟩
        · obtain ⟨x, rfl, hx⟩ : ∃ x, sg = [x] ∧ kindN x.toNat = 3 := by
            rcases hsg with h | h | h
            · exact absurd h hne
            · exact ⟨43, h, by decide⟩
            · exact ⟨45, h, by decide⟩
          have e1 : (s[((M.length : Int) + 1).toNat]?) = some x := hsx x rfl
          have ck1 := c_kind x.toNat
          rw [hx] at ck1
          have hd2 : ((x.toNat : Int) == 45) = dn := by
            rw [hdn]
            rcases hsg with h | h | h
            · cases h
            · cases h; rfl
            · cases h; rfl
          simp only [List.length_singleton] at hCi hlen2
          conv => whnf
          repeat' (first | (refine ldI _ eb ?_; conv => whnf) | (refine ldI _ e1 ?_; conv => whnf) | (refine CallH.lift seat_g ck (by simp [Closed, ClosedL]) (by simp [Closed]) ?_; conv => whnf) | (refine CallH.lift seat_g ck1 (by simp [Closed, ClosedL]) (by simp [Closed]) ?_; conv => whnf) | ((first | refine zq1 (by omega) ?_ | refine zq2 (by omega) ?_ | refine NumH.rem (by omega) ?_ | refine zq4 (by omega) ?_ | refine zq5 (by omega) ?_ | refine zq6 ?_ | refine Req.mk (by omega) ?_ | refine Req.mk (by dsimp only; omega) ?_ | refine Req.mk ⟨rfl, rfl, rfl, by simp [ci_length, *], rfl, by simp [okCell], by dsimp only; omega, by omega, by decide⟩ ?_ | refine Req.mk (show pendP _ _ by repeat' constructor) ?_ | (with_reducible refine brT ?_ ?_; next => assumption) | (with_reducible refine brF ?_ ?_; next => assumption) | (with_reducible refine brDT ?_ ?_; next => omega) | (with_reducible refine brDF ?_ ?_; next => omega) | (with_reducible refine brET ?_ ?_; next => omega) | (with_reducible refine brEF ?_ ?_; next => omega) | (with_reducible refine brNET ?_ ?_; next => omega) | (with_reducible refine brNEF ?_ ?_; next => omega) | with_reducible refine brNot ?_); conv => whnf))
          rw [hd2]
          refine Sat.cut (fun x t h => x = .exit 3 ∧ (∃ n : Int, n = s.length ∧ t = (.str s :: uu :: .ptr 0 0 :: .ptr 1 0 :: .bool R.seen :: .bool dn :: .int .i64 pw :: .int .i64 n :: uu :: uu :: uu :: uu :: uu :: uu :: uu :: uu :: uu :: uu :: uu :: uu :: uu :: uu :: uu :: uu :: uu :: uu :: uu :: uu :: uu :: uu :: uu :: uu :: uu :: uu :: uu :: uu :: uu :: uu :: uu :: uu :: uu :: uu :: uu :: uu :: uu :: uu :: uu :: uu :: uu :: uu :: uu :: uu :: uu :: uu :: uu :: uu :: uu :: uu :: uu :: uu :: uu :: uu :: uu :: uu :: uu :: uu :: uu :: uu :: uu :: uu :: uu :: uu :: uu :: uu :: uu :: uu :: uu :: uu :: uu :: uu :: uu :: uu :: uu :: uu :: uu :: uu :: uu :: uu :: uu :: uu :: uu :: uu :: uu :: uu :: uu :: uu :: uu :: uu :: uu :: uu :: uu :: uu :: uu :: uu :: uu :: uu :: uu :: uu :: uu :: uu :: uu :: uu :: uu :: uu :: uu :: uu :: uu :: uu :: uu :: uu :: uu :: uu :: uu :: uu :: [])) ∧ h = [.var [.bool false, .nils, .int .i64 0] 65, .var [.bool R.below, .vec (ci .u8 R.ds) R.ds.length (some 2), .int .i64 R.pt] 65, .tok R.ds.length 5 1]) ?_ ?_
          · refine Sat.invP seat_ok seat_g (maskOf 124 [0, 2, 3, 4, 5, 6, 7]) 3 (fun μ t h => ∃ (q : Nat) (n : Int), q ≤ C.length ∧ n = ((M.length + 1 + 1 + q : Nat) : Int) ∧ μ = C.length - q ∧ t = (.str s :: uu :: .ptr 0 0 :: .ptr 1 0 :: .bool R.seen :: .bool dn :: .int .i64 (powF 1099511627776 0 (C.take q)) :: .int .i64 n :: uu :: uu :: uu :: uu :: uu :: uu :: uu :: uu :: uu :: uu :: uu :: uu :: uu :: uu :: uu :: uu :: uu :: uu :: uu :: uu :: uu :: uu :: uu :: uu :: uu :: uu :: uu :: uu :: uu :: uu :: uu :: uu :: uu :: uu :: uu :: uu :: uu :: uu :: uu :: uu :: uu :: uu :: uu :: uu :: uu :: uu :: uu :: uu :: uu :: uu :: uu :: uu :: uu :: uu :: uu :: uu :: uu :: uu :: uu :: uu :: uu :: uu :: uu :: uu :: uu :: uu :: uu :: uu :: uu :: uu :: uu :: uu :: uu :: uu :: uu :: uu :: uu :: uu :: uu :: uu :: uu :: uu :: uu :: uu :: uu :: uu :: uu :: uu :: uu :: uu :: uu :: uu :: uu :: uu :: uu :: uu :: uu :: uu :: uu :: uu :: uu :: uu :: uu :: uu :: uu :: uu :: uu :: uu :: uu :: uu :: uu :: uu :: uu :: uu :: uu :: uu :: []) ∧ h = [.var [.bool false, .nils, .int .i64 0] 65, .var [.bool R.below, .vec (ci .u8 R.ds) R.ds.length (some 2), .int .i64 R.pt] 65, .tok R.ds.length 5 1]) ?_ ⟨_, _, WeakL.of_eq rfl, 0, _, by omega, by omega, rfl, rfl, rfl⟩ ?_
            · rintro _ _ _ ⟨q, n, -, -, -, rfl, rfl⟩
              exact ⟨rfl, (by simp [IdsL, Ids, IdsH, IdsC, lv_ids, ci_ids]), (by simp [IdsL, Ids, IdsH, IdsC, lv_ids, ci_ids])⟩
            rintro _ _ _ ⟨q, n, hq, hn, rfl, rfl, rfl⟩
            by_cases gq : q < C.length
            · obtain ⟨c, hc⟩ : ∃ c, C[q]? = some c := ⟨_, List.getElem?_eq_getElem gq⟩
              have ec : (s[n.toNat]?) = some c := by rw [hn, Int.toNat_natCast]; exact hCi q c hc
              have hcm := List.mem_of_getElem? hc
              have hc0 := hCk c hcm
              have hcc := kindN_cases c.toNat
              have hpb2 := powF_bd (cap := 1099511627776) (by decide) _ (C.take q) rfl (fun c h => hCk c (List.mem_of_mem_take h))
              have hst : powF 1099511627776 0 (C.take (q + 1)) = if 1099511627776 < 10 * powF 1099511627776 0 (C.take q) + ((c.toNat : Int) - 48) then 1099511627776 else 10 * powF 1099511627776 0 (C.take q) + ((c.toNat : Int) - 48) := by
                rw [← powF_snoc]; congr 1
                rw [List.take_succ_eq_append_getElem gq]; congr 2
                exact (List.getElem?_eq_some_iff.1 hc).2
              generalize powF 1099511627776 0 (C.take q) = P at *
              conv => whnf
              repeat' (first | exact ⟨_, _, Nat.sub_lt_sub_left gq (Nat.lt_succ_self q), WeakL.of_eq rfl, q + 1, n + 1, by omega, by omega, rfl, by rw [hst]; rfl, rfl⟩ | (refine ldI _ ec ?_; conv => whnf) | (refine WrapH.is _ (wrap_u8 (by omega) (by omega)) ?_; conv => whnf) | ((first | refine zq1 (by omega) ?_ | refine zq2 (by omega) ?_ | refine NumH.rem (by omega) ?_ | refine zq4 (by omega) ?_ | refine zq5 (by omega) ?_ | refine zq6 ?_ | refine Req.mk (by omega) ?_ | refine Req.mk (by dsimp only; omega) ?_ | refine Req.mk ⟨rfl, rfl, rfl, by simp [ci_length, *], rfl, by simp [okCell], by dsimp only; omega, by omega, by decide⟩ ?_ | refine Req.mk (show pendP _ _ by repeat' constructor) ?_ | (with_reducible refine brT ?_ ?_; next => assumption) | (with_reducible refine brF ?_ ?_; next => assumption) | (with_reducible refine brDT ?_ ?_; next => omega) | (with_reducible refine brDF ?_ ?_; next => omega) | (with_reducible refine brET ?_ ?_; next => omega) | (with_reducible refine brEF ?_ ?_; next => omega) | (with_reducible refine brNET ?_ ?_; next => omega) | (with_reducible refine brNEF ?_ ?_; next => omega) | with_reducible refine brNot ?_); conv => whnf))
            · rw [List.take_of_length_le (by omega), ← hpw]
              conv => whnf
              repeat' ((first | refine zq1 (by omega) ?_ | refine zq2 (by omega) ?_ | refine NumH.rem (by omega) ?_ | refine zq4 (by omega) ?_ | refine zq5 (by omega) ?_ | refine zq6 ?_ | refine Req.mk (by omega) ?_ | refine Req.mk (by dsimp only; omega) ?_ | refine Req.mk ⟨rfl, rfl, rfl, by simp [ci_length, *], rfl, by simp [okCell], by dsimp only; omega, by omega, by decide⟩ ?_ | refine Req.mk (show pendP _ _ by repeat' constructor) ?_ | (with_reducible refine brT ?_ ?_; next => assumption) | (with_reducible refine brF ?_ ?_; next => assumption) | (with_reducible refine brDT ?_ ?_; next => omega) | (with_reducible refine brDF ?_ ?_; next => omega) | (with_reducible refine brET ?_ ?_; next => omega) | (with_reducible refine brEF ?_ ?_; next => omega) | (with_reducible refine brNET ?_ ?_; next => omega) | (with_reducible refine brNEF ?_ ?_; next => omega) | with_reducible refine brNot ?_); conv => whnf)
              exact ⟨_, keepT_weak (maskOf 124 [0, 2, 3, 4, 5, 6, 7]) _, rfl, ⟨n, by omega, rfl⟩, rfl⟩
          · rintro _ _ _ ⟨rfl, ⟨n, hn, rfl⟩, rfl⟩
            conv => whnf
            repeat' ((first | refine zq1 (by omega) ?_ | refine zq2 (by omega) ?_ | refine NumH.rem (by omega) ?_ | refine zq4 (by omega) ?_ | refine zq5 (by omega) ?_ | refine zq6 ?_ | refine Req.mk (by omega) ?_ | refine Req.mk (by dsimp only; omega) ?_ | refine Req.mk ⟨rfl, rfl, rfl, by simp [ci_length, *], rfl, by simp [okCell], by dsimp only; omega, by omega, by decide⟩ ?_ | refine Req.mk (show pendP _ _ by repeat' constructor) ?_ | (with_reducible refine brT ?_ ?_; next => assumption) | (with_reducible refine brF ?_ ?_; next => assumption) | (with_reducible refine brDT ?_ ?_; next => omega) | (with_reducible refine brDF ?_ ?_; next => omega) | (with_reducible refine brET ?_ ?_; next => omega) | (with_reducible refine brEF ?_ ?_; next => omega) | (with_reducible refine brNET ?_ ?_; next => omega) | (with_reducible refine brNEF ?_ ?_; next => omega) | with_reducible refine brNot ?_); conv => whnf)
            exact ⟨_, _, Nat.lt_of_lt_of_le (Nat.succ_pos 0) (by omega), WeakL.of_eq rfl, .inr ⟨rfl, by rw [hn]; rfl, rfl⟩⟩
  · rintro _ _ _ ⟨rfl, rfl, rfl⟩
    have hbd := rdM_bd M.length M rfl
    have hMl : M.length ≤ 1000000 := by omega
    clear hsM hM hpw hdn hs hlen
    generalize rdM M = R at *
    conv => whnf
    refine Sat.cut (fun x t h => x = .exit 5 ∧ t = (uu :: uu :: .ptr 0 0 :: .ptr 1 0 :: uu :: .bool dn :: .int .i64 pw :: uu :: uu :: uu :: uu :: uu :: uu :: uu :: uu :: uu :: uu :: uu :: uu :: uu :: uu :: uu :: uu :: uu :: uu :: uu :: uu :: uu :: uu :: uu :: uu :: uu :: uu :: uu :: uu :: uu :: uu :: uu :: uu :: uu :: uu :: uu :: uu :: uu :: uu :: uu :: uu :: uu :: uu :: uu :: uu :: uu :: uu :: uu :: uu :: uu :: uu :: uu :: uu :: uu :: uu :: uu :: uu :: uu :: uu :: uu :: uu :: uu :: uu :: uu :: uu :: uu :: uu :: uu :: uu :: uu :: uu :: uu :: uu :: uu :: uu :: uu :: uu :: uu :: uu :: uu :: uu :: uu :: uu :: uu :: uu :: uu :: uu :: uu :: uu :: uu :: uu :: uu :: uu :: uu :: uu :: uu :: uu :: uu :: uu :: uu :: uu :: uu :: uu :: uu :: uu :: uu :: uu :: uu :: uu :: uu :: uu :: uu :: uu :: uu :: uu :: uu :: uu :: uu :: []) ∧ ∃ (g : Option Nat), h = [.var [.bool false, .nils, .int .i64 0] 65, .var [.bool R.below, .vec (ci .u8 (stripL R.ds)) (stripL R.ds).length g, .int .i64 R.pt] 65, .tok R.ds.length 5 1]) ?_ ?_
    · refine Sat.invP seat_ok seat_g (maskOf 124 [2, 3, 5, 6]) 3 (fun μ t h => ∃ (d : List Int) (g : Option Nat), (g = none ∨ g = some 2) ∧ d.length ≤ 1000000 ∧ stripL d = stripL R.ds ∧ μ = d.length ∧ t = (uu :: uu :: .ptr 0 0 :: .ptr 1 0 :: uu :: .bool dn :: .int .i64 pw :: uu :: uu :: uu :: uu :: uu :: uu :: uu :: uu :: uu :: uu :: uu :: uu :: uu :: uu :: uu :: uu :: uu :: uu :: uu :: uu :: uu :: uu :: uu :: uu :: uu :: uu :: uu :: uu :: uu :: uu :: uu :: uu :: uu :: uu :: uu :: uu :: uu :: uu :: uu :: uu :: uu :: uu :: uu :: uu :: uu :: uu :: uu :: uu :: uu :: uu :: uu :: uu :: uu :: uu :: uu :: uu :: uu :: uu :: uu :: uu :: uu :: uu :: uu :: uu :: uu :: uu :: uu :: uu :: uu :: uu :: uu :: uu :: uu :: uu :: uu :: uu :: uu :: uu :: uu :: uu :: uu :: uu :: uu :: uu :: uu :: uu :: uu :: uu :: uu :: uu :: uu :: uu :: uu :: uu :: uu :: uu :: uu :: uu :: uu :: uu :: uu :: uu :: uu :: uu :: uu :: uu :: uu :: uu :: uu :: uu :: uu :: uu :: uu :: uu :: uu :: uu :: uu :: []) ∧
        h = [.var [.bool false, .nils, .int .i64 0] 65, .var [.bool R.below, .vec (ci .u8 d) d.length g, .int .i64 R.pt] 65, .tok R.ds.length 5 1]) ?_ ⟨_, _, WeakL.of_eq rfl, R.ds, some 2, .inr rfl, by omega, rfl, rfl, rfl, rfl⟩ ?_
      · rintro _ _ _ ⟨d, g, hg, -, -, -, rfl, rfl⟩
        rcases hg with rfl | rfl
        · exact ⟨rfl, (by simp [IdsL, Ids, IdsH, IdsC, lv_ids, ci_ids]), (by simp [IdsL, Ids, IdsH, IdsC, lv_ids, ci_ids])⟩
        · exact ⟨rfl, (by simp [IdsL, Ids, IdsH, IdsC, lv_ids, ci_ids]), (by simp [IdsL, Ids, IdsH, IdsC, lv_ids, ci_ids])⟩
      rintro _ _ _ ⟨d, g, hg, hdl, hd, rfl, rfl, rfl⟩
      rcases List.eq_nil_or_concat d with rfl | ⟨d', x, rfl⟩
      · have e0 : stripL [] = [] := rfl
        rw [← hd, e0]
        conv => whnf
        repeat' ((first | refine zq1 (by omega) ?_ | refine zq2 (by omega) ?_ | refine NumH.rem (by omega) ?_ | refine zq4 (by omega) ?_ | refine zq5 (by omega) ?_ | refine zq6 ?_ | refine Req.mk (by omega) ?_ | refine Req.mk (by dsimp only; omega) ?_ | refine Req.mk ⟨rfl, rfl, rfl, by simp [ci_length, *], rfl, by simp [okCell], by dsimp only; omega, by omega, by decide⟩ ?_ | refine Req.mk (show pendP _ _ by repeat' constructor) ?_ | (with_reducible refine brT ?_ ?_; next => assumption) | (with_reducible refine brF ?_ ?_; next => assumption) | (with_reducible refine brDT ?_ ?_; next => omega) | (with_reducible refine brDF ?_ ?_; next => omega) | (with_reducible refine brET ?_ ?_; next => omega) | (with_reducible refine brEF ?_ ?_; next => omega) | (with_reducible refine brNET ?_ ?_; next => omega) | (with_reducible refine brNEF ?_ ?_; next => omega) | with_reducible refine brNot ?_); conv => whnf)
        exact ⟨_, keepT_weak (maskOf 124 [2, 3, 5, 6]) _, rfl, rfl, g, rfl⟩
      · rw [List.concat_eq_append] at *
        have hl2 : (d' ++ [x]).length = d'.length + 1 := by simp
        have h0 : (0 : Int) < (d' ++ [x]).length := by omega
        have ex : (d' ++ [x])[((d' ++ [x]).length - 1 : Int).toNat]? = some x := by
          rw [hl2, show (((d'.length + 1 : Nat) : Int) - 1).toNat = d'.length by omega]; simp
        have hld := ci_sub .u8 ex
        rw [stripL_last] at hd
        by_cases hx : x = 0
        · rw [if_pos hx] at hd
          have hpt : AV.vec (((ci .u8 (d' ++ [x])).drop (0 * 1)).take ((((d' ++ [x]).length - 1 : Int).toNat - 0) * 1)) (((d' ++ [x]).length - 1 : Int).toNat - 0) none = .vec (ci .u8 d') d'.length none := by
            rw [hl2, show (((d'.length + 1 : Nat) : Int) - 1).toNat = d'.length by omega]
            simp [ci]
          conv => whnf
          repeat' (first | (refine ldI _ hld ?_; conv => whnf) | ((first | refine zq1 (by omega) ?_ | refine zq2 (by omega) ?_ | refine NumH.rem (by omega) ?_ | refine zq4 (by omega) ?_ | refine zq5 (by omega) ?_ | refine zq6 ?_ | refine Req.mk (by omega) ?_ | refine Req.mk (by dsimp only; omega) ?_ | refine Req.mk ⟨rfl, rfl, rfl, by simp [ci_length, *], rfl, by simp [okCell], by dsimp only; omega, by omega, by decide⟩ ?_ | refine Req.mk (show pendP _ _ by repeat' constructor) ?_ | (with_reducible refine brT ?_ ?_; next => assumption) | (with_reducible refine brF ?_ ?_; next => assumption) | (with_reducible refine brDT ?_ ?_; next => omega) | (with_reducible refine brDF ?_ ?_; next => omega) | (with_reducible refine brET ?_ ?_; next => omega) | (with_reducible refine brEF ?_ ?_; next => omega) | (with_reducible refine brNET ?_ ?_; next => omega) | (with_reducible refine brNEF ?_ ?_; next => omega) | with_reducible refine brNot ?_); conv => whnf))
          exact ⟨_, _, by rw [hl2]; exact Nat.lt_succ_self _, WeakL.of_eq rfl, d', none, .inl rfl, by omega, hd, rfl, rfl, congrArg (fun v : AV => ([.var [.bool false, .nils, .int .i64 0] 65, .var [.bool R.below, v, .int .i64 R.pt] 65, .tok R.ds.length 5 1] : Heap)) hpt⟩
        · rw [if_neg hx] at hd
          rw [← hd]
          conv => whnf
          repeat' (first | (refine ldI _ hld ?_; conv => whnf) | ((first | refine zq1 (by omega) ?_ | refine zq2 (by omega) ?_ | refine NumH.rem (by omega) ?_ | refine zq4 (by omega) ?_ | refine zq5 (by omega) ?_ | refine zq6 ?_ | refine Req.mk (by omega) ?_ | refine Req.mk (by dsimp only; omega) ?_ | refine Req.mk ⟨rfl, rfl, rfl, by simp [ci_length, *], rfl, by simp [okCell], by dsimp only; omega, by omega, by decide⟩ ?_ | refine Req.mk (show pendP _ _ by repeat' constructor) ?_ | (with_reducible refine brT ?_ ?_; next => assumption) | (with_reducible refine brF ?_ ?_; next => assumption) | (with_reducible refine brDT ?_ ?_; next => omega) | (with_reducible refine brDF ?_ ?_; next => omega) | (with_reducible refine brET ?_ ?_; next => omega) | (with_reducible refine brEF ?_ ?_; next => omega) | (with_reducible refine brNET ?_ ?_; next => omega) | (with_reducible refine brNEF ?_ ?_; next => omega) | with_reducible refine brNot ?_); conv => whnf))
          exact ⟨_, keepT_weak (maskOf 124 [2, 3, 5, 6]) _, rfl, rfl, g, rfl⟩
    · rintro _ _ _ ⟨rfl, rfl, g, rfl⟩
      have hw : ∀ (z : Int), Weak (.agg [.bool R.below, .vec (ci .u8 (stripL R.ds)) (stripL R.ds).length g, .int .i64 z]) (.agg [.bool R.below, .vec (ci .u8 (stripL R.ds)) (stripL R.ds).length none, .int .i64 z]) := fun z => Weak.agg (WeakL.cons (Weak.refl _) (WeakL.cons Weak.tok (WeakL.refl _)))
      unfold numV
      cases dn with
      | false =>
        conv => whnf
        repeat' ((first | refine zq1 (by omega) ?_ | refine zq2 (by omega) ?_ | refine NumH.rem (by omega) ?_ | refine zq4 (by omega) ?_ | refine zq5 (by omega) ?_ | refine zq6 ?_ | refine Req.mk (by omega) ?_ | refine Req.mk (by dsimp only; omega) ?_ | refine Req.mk ⟨rfl, rfl, rfl, by simp [ci_length, *], rfl, by simp [okCell], by dsimp only; omega, by omega, by decide⟩ ?_ | refine Req.mk (show pendP _ _ by repeat' constructor) ?_ | (with_reducible refine brT ?_ ?_; next => assumption) | (with_reducible refine brF ?_ ?_; next => assumption) | (with_reducible refine brDT ?_ ?_; next => omega) | (with_reducible refine brDF ?_ ?_; next => omega) | (with_reducible refine brET ?_ ?_; next => omega) | (with_reducible refine brEF ?_ ?_; next => omega) | (with_reducible refine brNET ?_ ?_; next => omega) | (with_reducible refine brNEF ?_ ?_; next => omega) | with_reducible refine brNot ?_); conv => whnf)
        exact .inl ⟨_, _, rfl, hw _, rfl⟩
      | true =>
        conv => whnf
        repeat' ((first | refine zq1 (by omega) ?_ | refine zq2 (by omega) ?_ | refine NumH.rem (by omega) ?_ | refine zq4 (by omega) ?_ | refine zq5 (by omega) ?_ | refine zq6 ?_ | refine Req.mk (by omega) ?_ | refine Req.mk (by dsimp only; omega) ?_ | refine Req.mk ⟨rfl, rfl, rfl, by simp [ci_length, *], rfl, by simp [okCell], by dsimp only; omega, by omega, by decide⟩ ?_ | refine Req.mk (show pendP _ _ by repeat' constructor) ?_ | (with_reducible refine brT ?_ ?_; next => assumption) | (with_reducible refine brF ?_ ?_; next => assumption) | (with_reducible refine brDT ?_ ?_; next => omega) | (with_reducible refine brDF ?_ ?_; next => omega) | (with_reducible refine brET ?_ ?_; next => omega) | (with_reducible refine brEF ?_ ?_; next => omega) | (with_reducible refine brNET ?_ ?_; next => omega) | (with_reducible refine brNEF ?_ ?_; next => omega) | with_reducible refine brNot ?_); conv => whnf)
        exact .inl ⟨_, _, rfl, hw _, rfl⟩
end Go.Proofs.YtelgbnjagbleoaaDoor
