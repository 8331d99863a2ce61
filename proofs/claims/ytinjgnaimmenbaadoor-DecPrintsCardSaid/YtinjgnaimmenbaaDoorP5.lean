/- Definitions and lemmas for the law, part 5. No condition beyond those in each statement. -/
import Derived.Test.YtinjgnaimmenbaaDoorP4
set_option linter.unusedSimpArgs false
set_option linter.unusedVariables false
set_option linter.deprecated false
namespace Go.Proofs.YtinjgnaimmenbaaDoor
open Go.Abs
set_option maxRecDepth 20000 in
set_option maxHeartbeats 2000000 in
theorem c_dread (M : List UInt8) (ex : Option (UInt8 × List UInt8 × List UInt8)) (hM : ∀ b ∈ M, kindN b.toNat ≠ 2) (hex : exOK ex) (hl : (M ++ expB ex).length ≤ 1000000) :
    ACalls seat 14 [.str (M ++ expB ex)] [] (fun x _ => x = .ret (numV (rdM M) (exPow 1099511627776 ex) (exDown ex))) := by
  refine ACalls.weakR ?_
  refine ACalls.body seat_ok Tryd.func14 rfl rfl ?_
  obtain ⟨s, hs⟩ : ∃ s, s = M ++ expB ex := ⟨_, rfl⟩
  have hsM : ∀ (p : Nat) (b : UInt8), M[p]? = some b → s[p]? = some b := fun p b h => by
    rw [hs, List.getElem?_append_left (List.getElem?_eq_some_iff.1 h).1]; exact h
  have hlen : s.length = M.length + (expB ex).length := by rw [hs, List.length_append]
  rw [← hs] at hl ⊢
  obtain ⟨pw, hpw⟩ : ∃ pw, pw = exPow 1099511627776 ex := ⟨_, rfl⟩
  obtain ⟨dn, hdn⟩ : ∃ dn, dn = exDown ex := ⟨_, rfl⟩
  have hpb : 0 ≤ pw ∧ pw ≤ 1099511627776 := by
    rw [hpw]
    cases ex with
    | none => simp [exPow]
    | some x => exact powF_bd (by decide) _ _ rfl hex.2.2.2
  rw [← hpw, ← hdn]
  conv => whnf
  refine Sat.nilTokH 1 1 5 1 rfl rfl ?_
  refine Sat.cut (fun x t h => x = .exit 0 ∧ t = (uu::uu::.ptr 0 0::.ptr 1 0::uu::.bool dn::.int .i64 pw::uu::uu::uu::uu::uu::uu::uu::uu::uu::uu::uu::uu::uu::uu::uu::uu::uu::uu::uu::uu::uu::uu::uu::uu::uu::uu::uu::uu::uu::uu::uu::uu::uu::uu::uu::uu::uu::uu::uu::uu::uu::uu::uu::uu::uu::uu::uu::uu::uu::uu::uu::uu::uu::uu::uu::uu::uu::uu::uu::uu::uu::uu::uu::uu::uu::uu::uu::uu::uu::uu::uu::uu::uu::uu::uu::uu::uu::uu::uu::uu::uu::uu::uu::uu::uu::uu::uu::uu::uu::uu::uu::uu::uu::uu::uu::uu::uu::uu::uu::uu::uu::uu::uu::uu::uu::uu::uu::uu::uu::uu::uu::uu::uu::uu::uu::uu::uu::[]) ∧ h = [.var [.bool false, .nils, .int .i64 0] 41, .var [.bool (rdM M).below, .vec (ci .u8 (rdM M).ds) (rdM M).ds.length (some 2), .int .i64 (rdM M).pt] 41, .tok (rdM M).ds.length 5 1]) ?_ ?_
  · refine Sat.invP seat_ok seat_g (maskOf 124 [0, 2, 3, 4, 5, 6, 7]) 3 (fun μ t h => (∃ p : Nat, p ≤ M.length ∧ μ = s.length + 2 - p ∧
        t = (.str s::uu::.ptr 0 0::.ptr 1 0::.bool (rdM (M.take p)).seen::.bool false::.int .i64 0::.int .i64 p::uu::uu::uu::uu::uu::uu::uu::uu::uu::uu::uu::uu::uu::uu::uu::uu::uu::uu::uu::uu::uu::uu::uu::uu::uu::uu::uu::uu::uu::uu::uu::uu::uu::uu::uu::uu::uu::uu::uu::uu::uu::uu::uu::uu::uu::uu::uu::uu::uu::uu::uu::uu::uu::uu::uu::uu::uu::uu::uu::uu::uu::uu::uu::uu::uu::uu::uu::uu::uu::uu::uu::uu::uu::uu::uu::uu::uu::uu::uu::uu::uu::uu::uu::uu::uu::uu::uu::uu::uu::uu::uu::uu::uu::uu::uu::uu::uu::uu::uu::uu::uu::uu::uu::uu::uu::uu::uu::uu::uu::uu::uu::uu::uu::uu::uu::uu::[]) ∧
        h = [.var [.bool false, .nils, .int .i64 0] 41, .var [.bool (rdM (M.take p)).below, .vec (ci .u8 (rdM (M.take p)).ds) (rdM (M.take p)).ds.length (some 2), .int .i64 (rdM (M.take p)).pt] 41, .tok (rdM (M.take p)).ds.length 5 1]) ∨
      (μ = 0 ∧ t = (.str s::uu::.ptr 0 0::.ptr 1 0::.bool (rdM M).seen::.bool dn::.int .i64 pw::.int .i64 (s.length + 1)::uu::uu::uu::uu::uu::uu::uu::uu::uu::uu::uu::uu::uu::uu::uu::uu::uu::uu::uu::uu::uu::uu::uu::uu::uu::uu::uu::uu::uu::uu::uu::uu::uu::uu::uu::uu::uu::uu::uu::uu::uu::uu::uu::uu::uu::uu::uu::uu::uu::uu::uu::uu::uu::uu::uu::uu::uu::uu::uu::uu::uu::uu::uu::uu::uu::uu::uu::uu::uu::uu::uu::uu::uu::uu::uu::uu::uu::uu::uu::uu::uu::uu::uu::uu::uu::uu::uu::uu::uu::uu::uu::uu::uu::uu::uu::uu::uu::uu::uu::uu::uu::uu::uu::uu::uu::uu::uu::uu::uu::uu::uu::uu::uu::uu::uu::uu::[]) ∧
        h = [.var [.bool false, .nils, .int .i64 0] 41, .var [.bool (rdM M).below, .vec (ci .u8 (rdM M).ds) (rdM M).ds.length (some 2), .int .i64 (rdM M).pt] 41, .tok (rdM M).ds.length 5 1]))
      ?_ ⟨_, _, WeakL.of_eq rfl, .inl ⟨0, by omega, rfl, rfl, rfl⟩⟩ ?_
    · rintro _ _ _ (⟨p, -, -, rfl, rfl⟩ | ⟨-, rfl, rfl⟩)
      · exact ⟨rfl, (by simp [IdsL, Ids, IdsH, IdsC, lv_ids, ci_ids]), (by simp [IdsL, Ids, IdsH, IdsC, lv_ids, ci_ids])⟩
      · exact ⟨rfl, (by simp [IdsL, Ids, IdsH, IdsC, lv_ids, ci_ids]), (by simp [IdsL, Ids, IdsH, IdsC, lv_ids, ci_ids])⟩
    rintro _ _ _ (⟨p, hp, rfl, rfl, rfl⟩ | ⟨rfl, rfl, rfl⟩)
    rotate_left
    · have g : ¬ ((s.length : Int) + 1 < s.length) := by omega
      conv => whnf
      repeat' ((first | refine zq1 (by omega) ?_ | refine zq2 (by omega) ?_ | refine NumH.rem (by omega) ?_ | refine zq4 (by omega) ?_ | refine zq5 (by omega) ?_ | refine zq6 ?_ | refine Req.mk (by omega) ?_ | refine Req.mk (by dsimp only; omega) ?_ | refine Req.mk (show pendP _ _ by repeat' constructor) ?_ | (with_reducible first | refine brT (by assumption) ?_ | refine brF (by assumption) ?_ | refine brDT (by omega) ?_ | refine brDF (by omega) ?_ | refine brET (by omega) ?_ | refine brEF (by omega) ?_ | refine brNET (by omega) ?_ | refine brNEF (by omega) ?_ | refine brNot ?_)); conv => whnf)
      exact ⟨_, keepT_weak (maskOf 124 [2, 3, 5, 6]) _, rfl, rfl, rfl⟩
    by_cases g : p < M.length
    · obtain ⟨b, hb⟩ : ∃ b, M[p]? = some b := ⟨_, List.getElem?_eq_getElem g⟩
      have eb : (s[(p : Int).toNat]?) = some b := hsM p b hb
      have gl : p < s.length := by omega
      have ck := c_kind b.toNat
      have hst : rdM (M.take (p + 1)) = rdStep (rdM (M.take p)) b := by
        rw [← rdM_snoc]; congr 1
        rw [List.take_succ_eq_append_getElem g]; congr 2
        exact (List.getElem?_eq_some_iff.1 hb).2
      have hk2 := hM b (List.mem_of_getElem? hb)
      have hbd := rdM_bd p (M.take p) (by rw [List.length_take]; omega)
      have hcs := kindN_cases b.toNat
      obtain ⟨⟨bl, ds, pt, sn⟩, hR⟩ : ∃ R, rdM (M.take p) = R := ⟨_, rfl⟩
      have q1 : (rdM (M.take p)).below = bl := by rw [hR]
      have q2 : (rdM (M.take p)).ds = ds := by rw [hR]
      have q3 : (rdM (M.take p)).pt = pt := by rw [hR]
      have q4 : (rdM (M.take p)).seen = sn := by rw [hR]
      rw [q1, q2, q3, q4]
      rw [hR] at hst hbd
      clear q1 q2 q3 q4
      have hcl : (ci .u8 ds).length = ds.length * 1 := by rw [ci_length]; omega
      simp only at hbd
      unfold rdStep at hst
      rcases hcs with ⟨hk, hc⟩ | ⟨hk, hc⟩ | ⟨hk, -⟩ | ⟨hk, hc⟩ | ⟨hk, -⟩
      · rw [if_pos hk] at hst
        simp only at hst
        generalize kindN b.toNat = k at *
        by_cases h48 : (b.toNat : Int) = 48
        · by_cases h0 : ds.length = 0
          · obtain rfl := List.length_eq_zero_iff.1 h0
            have e1 : dsF [] b.toNat = [] := by simp [dsF, h48]
            rw [e1] at hst
            cases sn with
            | false =>
              have e2 : ptF false [] pt = pt := by simp [ptF]
              rw [e2] at hst
              conv => whnf
              repeat' (first | exact ⟨_, _, Nat.sub_lt_sub_left (by omega) (Nat.lt_succ_self p), WeakL.of_eq rfl, .inl ⟨p + 1, by omega, rfl, by rw [hst]; rfl, by rw [hst]; rfl⟩⟩ | (refine ldI _ eb ?_; conv => whnf) | (refine CallH.lift seat_g ck (by simp [Closed, ClosedL]) (by simp [Closed]) ?_; conv => whnf) | (refine WrapH.is _ (wrap_u8 (by omega) (by omega)) ?_; conv => whnf) | ((first | refine zq1 (by omega) ?_ | refine zq2 (by omega) ?_ | refine NumH.rem (by omega) ?_ | refine zq4 (by omega) ?_ | refine zq5 (by omega) ?_ | refine zq6 ?_ | refine Req.mk (by omega) ?_ | refine Req.mk (by dsimp only; omega) ?_ | refine Req.mk ⟨rfl, rfl, rfl, by simp [ci_length, *], rfl, by simp [okCell], by dsimp only; omega, by omega, by decide⟩ ?_ | refine Req.mk (show pendP _ _ by repeat' constructor) ?_ | (with_reducible first | refine brT (by assumption) ?_ | refine brF (by assumption) ?_ | refine brDT (by omega) ?_ | refine brDF (by omega) ?_ | refine brET (by omega) ?_ | refine brEF (by omega) ?_ | refine brNET (by omega) ?_ | refine brNEF (by omega) ?_ | refine brNot ?_)); conv => whnf))
            | true =>
              have e2 : ptF true [] pt = pt - 1 := by simp [ptF]
              rw [e2] at hst
              conv => whnf
              repeat' (first | exact ⟨_, _, Nat.sub_lt_sub_left (by omega) (Nat.lt_succ_self p), WeakL.of_eq rfl, .inl ⟨p + 1, by omega, rfl, by rw [hst]; rfl, by rw [hst]; rfl⟩⟩ | (refine ldI _ eb ?_; conv => whnf) | (refine CallH.lift seat_g ck (by simp [Closed, ClosedL]) (by simp [Closed]) ?_; conv => whnf) | (refine WrapH.is _ (wrap_u8 (by omega) (by omega)) ?_; conv => whnf) | ((first | refine zq1 (by omega) ?_ | refine zq2 (by omega) ?_ | refine NumH.rem (by omega) ?_ | refine zq4 (by omega) ?_ | refine zq5 (by omega) ?_ | refine zq6 ?_ | refine Req.mk (by omega) ?_ | refine Req.mk (by dsimp only; omega) ?_ | refine Req.mk ⟨rfl, rfl, rfl, by simp [ci_length, *], rfl, by simp [okCell], by dsimp only; omega, by omega, by decide⟩ ?_ | refine Req.mk (show pendP _ _ by repeat' constructor) ?_ | (with_reducible first | refine brT (by assumption) ?_ | refine brF (by assumption) ?_ | refine brDT (by omega) ?_ | refine brDF (by omega) ?_ | refine brET (by omega) ?_ | refine brEF (by omega) ?_ | refine brNET (by omega) ?_ | refine brNEF (by omega) ?_ | refine brNot ?_)); conv => whnf))
          · have e1 : dsF ds b.toNat = ds ++ [(b.toNat : Int) - 48] := if_pos (.inr (by omega))
            have h1 : 0 < (ds ++ [(b.toNat : Int) - 48]).length := by simp
            have hcp : ci .u8 (ds ++ [(b.toNat : Int) - 48]) = ci .u8 ds ++ [.int .u8 ((b.toNat : Int) - 48)] := by simp [ci]
            have hll : (ds ++ [(b.toNat : Int) - 48]).length = ds.length + 1 := by simp
            rw [e1] at hst
            cases sn with
            | false =>
              have e2 : ptF false (ds ++ [(b.toNat : Int) - 48]) pt = pt + 1 := by simp [ptF]
              rw [e2] at hst
              conv => whnf
              repeat' (first | exact ⟨_, _, Nat.sub_lt_sub_left (by omega) (Nat.lt_succ_self p), WeakL.of_eq rfl, .inl ⟨p + 1, by omega, rfl, by rw [hst]; rfl, by rw [hst]; simp only [hcp, hll]; rfl⟩⟩ | (refine ldI _ eb ?_; conv => whnf) | (refine CallH.lift seat_g ck (by simp [Closed, ClosedL]) (by simp [Closed]) ?_; conv => whnf) | (refine WrapH.is _ (wrap_u8 (by omega) (by omega)) ?_; conv => whnf) | (refine Req.mk ⟨rfl, rfl, rfl, hcl, rfl, by simp [okCell], by dsimp only; omega, by dsimp only; omega, by decide⟩ ?_; conv => whnf) | ((first | refine zq1 (by omega) ?_ | refine zq2 (by omega) ?_ | refine NumH.rem (by omega) ?_ | refine zq4 (by omega) ?_ | refine zq5 (by omega) ?_ | refine zq6 ?_ | refine Req.mk (by omega) ?_ | refine Req.mk (by dsimp only; omega) ?_ | refine Req.mk ⟨rfl, rfl, rfl, by simp [ci_length, *], rfl, by simp [okCell], by dsimp only; omega, by omega, by decide⟩ ?_ | refine Req.mk (show pendP _ _ by repeat' constructor) ?_ | (with_reducible first | refine brT (by assumption) ?_ | refine brF (by assumption) ?_ | refine brDT (by omega) ?_ | refine brDF (by omega) ?_ | refine brET (by omega) ?_ | refine brEF (by omega) ?_ | refine brNET (by omega) ?_ | refine brNEF (by omega) ?_ | refine brNot ?_)); conv => whnf))
            | true =>
              have e2 : ptF true (ds ++ [(b.toNat : Int) - 48]) pt = pt := by simp [ptF]
              rw [e2] at hst
              conv => whnf
              repeat' (first | exact ⟨_, _, Nat.sub_lt_sub_left (by omega) (Nat.lt_succ_self p), WeakL.of_eq rfl, .inl ⟨p + 1, by omega, rfl, by rw [hst]; rfl, by rw [hst]; simp only [hcp, hll]; rfl⟩⟩ | (refine ldI _ eb ?_; conv => whnf) | (refine CallH.lift seat_g ck (by simp [Closed, ClosedL]) (by simp [Closed]) ?_; conv => whnf) | (refine WrapH.is _ (wrap_u8 (by omega) (by omega)) ?_; conv => whnf) | (refine Req.mk ⟨rfl, rfl, rfl, hcl, rfl, by simp [okCell], by dsimp only; omega, by dsimp only; omega, by decide⟩ ?_; conv => whnf) | ((first | refine zq1 (by omega) ?_ | refine zq2 (by omega) ?_ | refine NumH.rem (by omega) ?_ | refine zq4 (by omega) ?_ | refine zq5 (by omega) ?_ | refine zq6 ?_ | refine Req.mk (by omega) ?_ | refine Req.mk (by dsimp only; omega) ?_ | refine Req.mk ⟨rfl, rfl, rfl, by simp [ci_length, *], rfl, by simp [okCell], by dsimp only; omega, by omega, by decide⟩ ?_ | refine Req.mk (show pendP _ _ by repeat' constructor) ?_ | (with_reducible first | refine brT (by assumption) ?_ | refine brF (by assumption) ?_ | refine brDT (by omega) ?_ | refine brDF (by omega) ?_ | refine brET (by omega) ?_ | refine brEF (by omega) ?_ | refine brNET (by omega) ?_ | refine brNEF (by omega) ?_ | refine brNot ?_)); conv => whnf))
        · have e1 : dsF ds b.toNat = ds ++ [(b.toNat : Int) - 48] := if_pos (.inl h48)
          have h1 : 0 < (ds ++ [(b.toNat : Int) - 48]).length := by simp
          have hcp : ci .u8 (ds ++ [(b.toNat : Int) - 48]) = ci .u8 ds ++ [.int .u8 ((b.toNat : Int) - 48)] := by simp [ci]
          have hll : (ds ++ [(b.toNat : Int) - 48]).length = ds.length + 1 := by simp
          rw [e1] at hst
          cases sn with
          | false =>
            have e2 : ptF false (ds ++ [(b.toNat : Int) - 48]) pt = pt + 1 := by simp [ptF]
            rw [e2] at hst
            conv => whnf
            repeat' (first | exact ⟨_, _, Nat.sub_lt_sub_left (by omega) (Nat.lt_succ_self p), WeakL.of_eq rfl, .inl ⟨p + 1, by omega, rfl, by rw [hst]; rfl, by rw [hst]; simp only [hcp, hll]; rfl⟩⟩ | (refine ldI _ eb ?_; conv => whnf) | (refine CallH.lift seat_g ck (by simp [Closed, ClosedL]) (by simp [Closed]) ?_; conv => whnf) | (refine WrapH.is _ (wrap_u8 (by omega) (by omega)) ?_; conv => whnf) | (refine Req.mk ⟨rfl, rfl, rfl, hcl, rfl, by simp [okCell], by dsimp only; omega, by dsimp only; omega, by decide⟩ ?_; conv => whnf) | ((first | refine zq1 (by omega) ?_ | refine zq2 (by omega) ?_ | refine NumH.rem (by omega) ?_ | refine zq4 (by omega) ?_ | refine zq5 (by omega) ?_ | refine zq6 ?_ | refine Req.mk (by omega) ?_ | refine Req.mk (by dsimp only; omega) ?_ | refine Req.mk ⟨rfl, rfl, rfl, by simp [ci_length, *], rfl, by simp [okCell], by dsimp only; omega, by omega, by decide⟩ ?_ | refine Req.mk (show pendP _ _ by repeat' constructor) ?_ | (with_reducible first | refine brT (by assumption) ?_ | refine brF (by assumption) ?_ | refine brDT (by omega) ?_ | refine brDF (by omega) ?_ | refine brET (by omega) ?_ | refine brEF (by omega) ?_ | refine brNET (by omega) ?_ | refine brNEF (by omega) ?_ | refine brNot ?_)); conv => whnf))
          | true =>
            have e2 : ptF true (ds ++ [(b.toNat : Int) - 48]) pt = pt := by simp [ptF]
            rw [e2] at hst
            conv => whnf
            repeat' (first | exact ⟨_, _, Nat.sub_lt_sub_left (by omega) (Nat.lt_succ_self p), WeakL.of_eq rfl, .inl ⟨p + 1, by omega, rfl, by rw [hst]; rfl, by rw [hst]; simp only [hcp, hll]; rfl⟩⟩ | (refine ldI _ eb ?_; conv => whnf) | (refine CallH.lift seat_g ck (by simp [Closed, ClosedL]) (by simp [Closed]) ?_; conv => whnf) | (refine WrapH.is _ (wrap_u8 (by omega) (by omega)) ?_; conv => whnf) | (refine Req.mk ⟨rfl, rfl, rfl, hcl, rfl, by simp [okCell], by dsimp only; omega, by dsimp only; omega, by decide⟩ ?_; conv => whnf) | ((first | refine zq1 (by omega) ?_ | refine zq2 (by omega) ?_ | refine NumH.rem (by omega) ?_ | refine zq4 (by omega) ?_ | refine zq5 (by omega) ?_ | refine zq6 ?_ | refine Req.mk (by omega) ?_ | refine Req.mk (by dsimp only; omega) ?_ | refine Req.mk ⟨rfl, rfl, rfl, by simp [ci_length, *], rfl, by simp [okCell], by dsimp only; omega, by omega, by decide⟩ ?_ | refine Req.mk (show pendP _ _ by repeat' constructor) ?_ | (with_reducible first | refine brT (by assumption) ?_ | refine brF (by assumption) ?_ | refine brDT (by omega) ?_ | refine brDF (by omega) ?_ | refine brET (by omega) ?_ | refine brEF (by omega) ?_ | refine brNET (by omega) ?_ | refine brNEF (by omega) ?_ | refine brNot ?_)); conv => whnf))
      · rw [if_neg (by omega), if_pos hk] at hst
        generalize kindN b.toNat = k at *
        conv => whnf
        repeat' (first | exact ⟨_, _, Nat.sub_lt_sub_left (by omega) (Nat.lt_succ_self p), WeakL.of_eq rfl, .inl ⟨p + 1, by omega, rfl, by rw [hst]; rfl, by rw [hst]; rfl⟩⟩ | (refine ldI _ eb ?_; conv => whnf) | (refine CallH.lift seat_g ck (by simp [Closed, ClosedL]) (by simp [Closed]) ?_; conv => whnf) | (refine WrapH.is _ (wrap_u8 (by omega) (by omega)) ?_; conv => whnf) | ((first | refine zq1 (by omega) ?_ | refine zq2 (by omega) ?_ | refine NumH.rem (by omega) ?_ | refine zq4 (by omega) ?_ | refine zq5 (by omega) ?_ | refine zq6 ?_ | refine Req.mk (by omega) ?_ | refine Req.mk (by dsimp only; omega) ?_ | refine Req.mk ⟨rfl, rfl, rfl, by simp [ci_length, *], rfl, by simp [okCell], by dsimp only; omega, by omega, by decide⟩ ?_ | refine Req.mk (show pendP _ _ by repeat' constructor) ?_ | (with_reducible first | refine brT (by assumption) ?_ | refine brF (by assumption) ?_ | refine brDT (by omega) ?_ | refine brDF (by omega) ?_ | refine brET (by omega) ?_ | refine brEF (by omega) ?_ | refine brNET (by omega) ?_ | refine brNEF (by omega) ?_ | refine brNot ?_)); conv => whnf))
      · exact absurd hk hk2
      · rw [if_neg (by omega), if_neg (by omega), if_pos hk] at hst
        generalize kindN b.toNat = k at *
        conv => whnf
        repeat' (first | exact ⟨_, _, Nat.sub_lt_sub_left (by omega) (Nat.lt_succ_self p), WeakL.of_eq rfl, .inl ⟨p + 1, by omega, rfl, by rw [hst]; rfl, by rw [hst]; rfl⟩⟩ | (refine ldI _ eb ?_; conv => whnf) | (refine CallH.lift seat_g ck (by simp [Closed, ClosedL]) (by simp [Closed]) ?_; conv => whnf) | (refine WrapH.is _ (wrap_u8 (by omega) (by omega)) ?_; conv => whnf) | ((first | refine zq1 (by omega) ?_ | refine zq2 (by omega) ?_ | refine NumH.rem (by omega) ?_ | refine zq4 (by omega) ?_ | refine zq5 (by omega) ?_ | refine zq6 ?_ | refine Req.mk (by omega) ?_ | refine Req.mk (by dsimp only; omega) ?_ | refine Req.mk ⟨rfl, rfl, rfl, by simp [ci_length, *], rfl, by simp [okCell], by dsimp only; omega, by omega, by decide⟩ ?_ | refine Req.mk (show pendP _ _ by repeat' constructor) ?_ | (with_reducible first | refine brT (by assumption) ?_ | refine brF (by assumption) ?_ | refine brDT (by omega) ?_ | refine brDF (by omega) ?_ | refine brET (by omega) ?_ | refine brEF (by omega) ?_ | refine brNET (by omega) ?_ | refine brNEF (by omega) ?_ | refine brNot ?_)); conv => whnf))
      · rw [if_neg (by omega), if_neg (by omega), if_neg (by omega)] at hst
        generalize kindN b.toNat = k at *
        conv => whnf
        repeat' (first | exact ⟨_, _, Nat.sub_lt_sub_left (by omega) (Nat.lt_succ_self p), WeakL.of_eq rfl, .inl ⟨p + 1, by omega, rfl, by rw [hst]; rfl, by rw [hst]; rfl⟩⟩ | (refine ldI _ eb ?_; conv => whnf) | (refine CallH.lift seat_g ck (by simp [Closed, ClosedL]) (by simp [Closed]) ?_; conv => whnf) | (refine WrapH.is _ (wrap_u8 (by omega) (by omega)) ?_; conv => whnf) | ((first | refine zq1 (by omega) ?_ | refine zq2 (by omega) ?_ | refine NumH.rem (by omega) ?_ | refine zq4 (by omega) ?_ | refine zq5 (by omega) ?_ | refine zq6 ?_ | refine Req.mk (by omega) ?_ | refine Req.mk (by dsimp only; omega) ?_ | refine Req.mk ⟨rfl, rfl, rfl, by simp [ci_length, *], rfl, by simp [okCell], by dsimp only; omega, by omega, by decide⟩ ?_ | refine Req.mk (show pendP _ _ by repeat' constructor) ?_ | (with_reducible first | refine brT (by assumption) ?_ | refine brF (by assumption) ?_ | refine brDT (by omega) ?_ | refine brDF (by omega) ?_ | refine brET (by omega) ?_ | refine brEF (by omega) ?_ | refine brNET (by omega) ?_ | refine brNEF (by omega) ?_ | refine brNot ?_)); conv => whnf))
    · obtain rfl : p = M.length := by omega
      rw [List.take_length]
      have hbd := rdM_bd M.length M rfl
      generalize rdM M = R at *
      cases ex with
      | none =>
        have e0 : s.length = M.length := by rw [hlen]; rfl
        have g2 : ¬ ((M.length : Int) < s.length) := by omega
        simp only [exPow, exDown] at hpw hdn
        subst hpw hdn
        conv => whnf
        repeat' ((first | refine zq1 (by omega) ?_ | refine zq2 (by omega) ?_ | refine NumH.rem (by omega) ?_ | refine zq4 (by omega) ?_ | refine zq5 (by omega) ?_ | refine zq6 ?_ | refine Req.mk (by omega) ?_ | refine Req.mk (by dsimp only; omega) ?_ | refine Req.mk (show pendP _ _ by repeat' constructor) ?_ | (with_reducible first | refine brT (by assumption) ?_ | refine brF (by assumption) ?_ | refine brDT (by omega) ?_ | refine brDF (by omega) ?_ | refine brET (by omega) ?_ | refine brEF (by omega) ?_ | refine brNET (by omega) ?_ | refine brNEF (by omega) ?_ | refine brNot ?_)); conv => whnf)
        exact ⟨_, keepT_weak (maskOf 124 [2, 3, 5, 6]) _, rfl, rfl, rfl⟩
      | some x =>
        obtain ⟨e, sg, C⟩ := x
        obtain ⟨he, hsg, hC, hCk⟩ := hex
        simp only [exPow, exDown] at hpw hdn
        have hlC : 0 < C.length := List.length_pos_iff.2 hC
        have hlen2 : s.length = M.length + (1 + (sg.length + C.length)) := by rw [hlen]; simp [expB]; omega
        have g2 : (M.length : Int) < s.length := by omega
        have eb : (s[((M.length : Nat) : Int).toNat]?) = some e := by
          rw [hs, Int.toNat_natCast, List.getElem?_append_right (Nat.le_refl _), Nat.sub_self]; rfl
        have ck := c_kind e.toNat
        rw [he] at ck
        have hCi : ∀ (q : Nat) (c : UInt8), C[q]? = some c → s[M.length + 1 + sg.length + q]? = some c := fun q c h => by
          rw [hs, List.getElem?_append_right (by omega), show M.length + 1 + sg.length + q - M.length = (sg.length + q) + 1 by omega, expB, List.getElem?_cons_succ, List.getElem?_append_right (by omega), Nat.add_sub_cancel_left]; exact h
        have hsx : ∀ x, sg = [x] → (s[((M.length : Int) + 1).toNat]?) = some x := fun x h => by
          rw [hs, show ((M.length : Int) + 1).toNat = M.length + 1 by omega, List.getElem?_append_right (by omega), Nat.add_sub_cancel_left, h]; rfl
        clear hsM hM hs hlen hbd
        rcases Classical.em (sg = []) with rfl | hne
        · obtain ⟨c0, hc0⟩ : ∃ c0, C[0]? = some c0 := ⟨_, List.getElem?_eq_getElem hlC⟩
          have e1 : (s[((M.length : Int) + 1).toNat]?) = some c0 := by
            rw [show ((M.length : Int) + 1).toNat = M.length + 1 + [].length + 0 by simp]; exact hCi 0 c0 hc0
          have ck1 := c_kind c0.toNat
          rw [hCk c0 (List.mem_of_getElem? hc0)] at ck1
          have hd2 : dn = false := by rw [hdn]; rfl
          simp only [List.length_nil] at hCi hlen2
          subst hd2
          conv => whnf
          repeat' (first | (refine ldI _ eb ?_; conv => whnf) | (refine ldI _ e1 ?_; conv => whnf) | (refine CallH.lift seat_g ck (by simp [Closed, ClosedL]) (by simp [Closed]) ?_; conv => whnf) | (refine CallH.lift seat_g ck1 (by simp [Closed, ClosedL]) (by simp [Closed]) ?_; conv => whnf) | ((first | refine zq1 (by omega) ?_ | refine zq2 (by omega) ?_ | refine NumH.rem (by omega) ?_ | refine zq4 (by omega) ?_ | refine zq5 (by omega) ?_ | refine zq6 ?_ | refine Req.mk (by omega) ?_ | refine Req.mk (by dsimp only; omega) ?_ | refine Req.mk ⟨rfl, rfl, rfl, by simp [ci_length, *], rfl, by simp [okCell], by dsimp only; omega, by omega, by decide⟩ ?_ | refine Req.mk (show pendP _ _ by repeat' constructor) ?_ | (with_reducible first | refine brT (by assumption) ?_ | refine brF (by assumption) ?_ | refine brDT (by omega) ?_ | refine brDF (by omega) ?_ | refine brET (by omega) ?_ | refine brEF (by omega) ?_ | refine brNET (by omega) ?_ | refine brNEF (by omega) ?_ | refine brNot ?_)); conv => whnf))
          refine Sat.cut (fun x t h => x = .exit 3 ∧ (∃ n : Int, n = s.length ∧ t = (.str s::uu::.ptr 0 0::.ptr 1 0::.bool R.seen::.bool false::.int .i64 pw::.int .i64 n::uu::uu::uu::uu::uu::uu::uu::uu::uu::uu::uu::uu::uu::uu::uu::uu::uu::uu::uu::uu::uu::uu::uu::uu::uu::uu::uu::uu::uu::uu::uu::uu::uu::uu::uu::uu::uu::uu::uu::uu::uu::uu::uu::uu::uu::uu::uu::uu::uu::uu::uu::uu::uu::uu::uu::uu::uu::uu::uu::uu::uu::uu::uu::uu::uu::uu::uu::uu::uu::uu::uu::uu::uu::uu::uu::uu::uu::uu::uu::uu::uu::uu::uu::uu::uu::uu::uu::uu::uu::uu::uu::uu::uu::uu::uu::uu::uu::uu::uu::uu::uu::uu::uu::uu::uu::uu::uu::uu::uu::uu::uu::uu::uu::uu::uu::uu::[])) ∧ h = [.var [.bool false, .nils, .int .i64 0] 41, .var [.bool R.below, .vec (ci .u8 R.ds) R.ds.length (some 2), .int .i64 R.pt] 41, .tok R.ds.length 5 1]) ?_ ?_
          · refine Sat.invP seat_ok seat_g (maskOf 124 [0, 2, 3, 4, 5, 6, 7]) 3 (fun μ t h => ∃ (q : Nat) (n : Int), q ≤ C.length ∧ n = ((M.length + 1 + 0 + q : Nat) : Int) ∧ μ = C.length - q ∧ t = (.str s::uu::.ptr 0 0::.ptr 1 0::.bool R.seen::.bool false::.int .i64 (powF 1099511627776 0 (C.take q))::.int .i64 n::uu::uu::uu::uu::uu::uu::uu::uu::uu::uu::uu::uu::uu::uu::uu::uu::uu::uu::uu::uu::uu::uu::uu::uu::uu::uu::uu::uu::uu::uu::uu::uu::uu::uu::uu::uu::uu::uu::uu::uu::uu::uu::uu::uu::uu::uu::uu::uu::uu::uu::uu::uu::uu::uu::uu::uu::uu::uu::uu::uu::uu::uu::uu::uu::uu::uu::uu::uu::uu::uu::uu::uu::uu::uu::uu::uu::uu::uu::uu::uu::uu::uu::uu::uu::uu::uu::uu::uu::uu::uu::uu::uu::uu::uu::uu::uu::uu::uu::uu::uu::uu::uu::uu::uu::uu::uu::uu::uu::uu::uu::uu::uu::uu::uu::uu::uu::[]) ∧ h = [.var [.bool false, .nils, .int .i64 0] 41, .var [.bool R.below, .vec (ci .u8 R.ds) R.ds.length (some 2), .int .i64 R.pt] 41, .tok R.ds.length 5 1]) ?_ ⟨_, _, WeakL.of_eq rfl, 0, _, by omega, by omega, rfl, rfl, rfl⟩ ?_
            · rintro _ _ _ ⟨q, n, -, -, -, rfl, rfl⟩
              exact ⟨rfl, (by simp [IdsL, Ids, IdsH, IdsC, lv_ids, ci_ids]), (by simp [IdsL, Ids, IdsH, IdsC, lv_ids, ci_ids])⟩
            rintro _ _ _ ⟨q, n, hq, hn, rfl, rfl, rfl⟩
            by_cases gq : q < C.length
            · obtain ⟨c, hc⟩ : ∃ c, C[q]? = some c := ⟨_, List.getElem?_eq_getElem gq⟩
              have ec : (s[n.toNat]?) = some c := by rw [hn, Int.toNat_natCast]; exact hCi q c hc
              have hcm := List.mem_of_getElem? hc
              have hc0 := hCk c hcm
              have hcc := kindN_cases c.toNat
              have hpb2 := powF_bd (cap := 1099511627776) (by decide) _ (C.take q) rfl (fun c h => hCk c (List.mem_of_mem_take h))
              have hst : powF 1099511627776 0 (C.take (q + 1)) = if 1099511627776 < 10 * powF 1099511627776 0 (C.take q) + ((c.toNat : Int) - 48) then 1099511627776 else 10 * powF 1099511627776 0 (C.take q) + ((c.toNat : Int) - 48) := by
                rw [← powF_snoc]; congr 1
                rw [List.take_succ_eq_append_getElem gq]; congr 2
                exact (List.getElem?_eq_some_iff.1 hc).2
              generalize powF 1099511627776 0 (C.take q) = P at *
              conv => whnf
              repeat' (first | exact ⟨_, _, Nat.sub_lt_sub_left gq (Nat.lt_succ_self q), WeakL.of_eq rfl, q + 1, n + 1, by omega, by omega, rfl, by rw [hst]; rfl, rfl⟩ | (refine ldI _ ec ?_; conv => whnf) | (refine WrapH.is _ (wrap_u8 (by omega) (by omega)) ?_; conv => whnf) | ((first | refine zq1 (by omega) ?_ | refine zq2 (by omega) ?_ | refine NumH.rem (by omega) ?_ | refine zq4 (by omega) ?_ | refine zq5 (by omega) ?_ | refine zq6 ?_ | refine Req.mk (by omega) ?_ | refine Req.mk (by dsimp only; omega) ?_ | refine Req.mk ⟨rfl, rfl, rfl, by simp [ci_length, *], rfl, by simp [okCell], by dsimp only; omega, by omega, by decide⟩ ?_ | refine Req.mk (show pendP _ _ by repeat' constructor) ?_ | (with_reducible first | refine brT (by assumption) ?_ | refine brF (by assumption) ?_ | refine brDT (by omega) ?_ | refine brDF (by omega) ?_ | refine brET (by omega) ?_ | refine brEF (by omega) ?_ | refine brNET (by omega) ?_ | refine brNEF (by omega) ?_ | refine brNot ?_)); conv => whnf))
            · rw [List.take_of_length_le (by omega), ← hpw]
              conv => whnf
              repeat' ((first | refine zq1 (by omega) ?_ | refine zq2 (by omega) ?_ | refine NumH.rem (by omega) ?_ | refine zq4 (by omega) ?_ | refine zq5 (by omega) ?_ | refine zq6 ?_ | refine Req.mk (by omega) ?_ | refine Req.mk (by dsimp only; omega) ?_ | refine Req.mk (show pendP _ _ by repeat' constructor) ?_ | (with_reducible first | refine brT (by assumption) ?_ | refine brF (by assumption) ?_ | refine brDT (by omega) ?_ | refine brDF (by omega) ?_ | refine brET (by omega) ?_ | refine brEF (by omega) ?_ | refine brNET (by omega) ?_ | refine brNEF (by omega) ?_ | refine brNot ?_)); conv => whnf)
              exact ⟨_, keepT_weak (maskOf 124 [0, 2, 3, 4, 5, 6, 7]) _, rfl, ⟨n, by omega, rfl⟩, rfl⟩
          · rintro _ _ _ ⟨rfl, ⟨n, hn, rfl⟩, rfl⟩
            conv => whnf
            repeat' ((first | refine zq1 (by omega) ?_ | refine zq2 (by omega) ?_ | refine NumH.rem (by omega) ?_ | refine zq4 (by omega) ?_ | refine zq5 (by omega) ?_ | refine zq6 ?_ | refine Req.mk (by omega) ?_ | refine Req.mk (by dsimp only; omega) ?_ | refine Req.mk (show pendP _ _ by repeat' constructor) ?_ | (with_reducible first | refine brT (by assumption) ?_ | refine brF (by assumption) ?_ | refine brDT (by omega) ?_ | refine brDF (by omega) ?_ | refine brET (by omega) ?_ | refine brEF (by omega) ?_ | refine brNET (by omega) ?_ | refine brNEF (by omega) ?_ | refine brNot ?_)); conv => whnf)
            exact ⟨_, _, Nat.lt_of_lt_of_le (Nat.succ_pos 0) (by omega), WeakL.of_eq rfl, .inr ⟨rfl, by rw [hn]; rfl, rfl⟩⟩
        · obtain ⟨x, rfl, hx⟩ : ∃ x, sg = [x] ∧ kindN x.toNat = 3 := by
            rcases hsg with h | h | h
            · exact absurd h hne
            · exact ⟨43, h, by decide⟩
            · exact ⟨45, h, by decide⟩
          have e1 : (s[((M.length : Int) + 1).toNat]?) = some x := hsx x rfl
          have ck1 := c_kind x.toNat
          rw [hx] at ck1
          have hd2 : ((x.toNat : Int) == 45) = dn := by
            rw [hdn]
            rcases hsg with h | h | h
            · cases h
            · cases h; rfl
            · cases h; rfl
          simp only [List.length_singleton] at hCi hlen2
          conv => whnf
          repeat' (first | (refine ldI _ eb ?_; conv => whnf) | (refine ldI _ e1 ?_; conv => whnf) | (refine CallH.lift seat_g ck (by simp [Closed, ClosedL]) (by simp [Closed]) ?_; conv => whnf) | (refine CallH.lift seat_g ck1 (by simp [Closed, ClosedL]) (by simp [Closed]) ?_; conv => whnf) | ((first | refine zq1 (by omega) ?_ | refine zq2 (by omega) ?_ | refine NumH.rem (by omega) ?_ | refine zq4 (by omega) ?_ | refine zq5 (by omega) ?_ | refine zq6 ?_ | refine Req.mk (by omega) ?_ | refine Req.mk (by dsimp only; omega) ?_ | refine Req.mk ⟨rfl, rfl, rfl, by simp [ci_length, *], rfl, by simp [okCell], by dsimp only; omega, by omega, by decide⟩ ?_ | refine Req.mk (show pendP _ _ by repeat' constructor) ?_ | (with_reducible first | refine brT (by assumption) ?_ | refine brF (by assumption) ?_ | refine brDT (by omega) ?_ | refine brDF (by omega) ?_ | refine brET (by omega) ?_ | refine brEF (by omega) ?_ | refine brNET (by omega) ?_ | refine brNEF (by omega) ?_ | refine brNot ?_)); conv => whnf))
          rw [hd2]
          refine Sat.cut (fun x t h => x = .exit 3 ∧ (∃ n : Int, n = s.length ∧ t = (.str s::uu::.ptr 0 0::.ptr 1 0::.bool R.seen::.bool dn::.int .i64 pw::.int .i64 n::uu::uu::uu::uu::uu::uu::uu::uu::uu::uu::uu::uu::uu::uu::uu::uu::uu::uu::uu::uu::uu::uu::uu::uu::uu::uu::uu::uu::uu::uu::uu::uu::uu::uu::uu::uu::uu::uu::uu::uu::uu::uu::uu::uu::uu::uu::uu::uu::uu::uu::uu::uu::uu::uu::uu::uu::uu::uu::uu::uu::uu::uu::uu::uu::uu::uu::uu::uu::uu::uu::uu::uu::uu::uu::uu::uu::uu::uu::uu::uu::uu::uu::uu::uu::uu::uu::uu::uu::uu::uu::uu::uu::uu::uu::uu::uu::uu::uu::uu::uu::uu::uu::uu::uu::uu::uu::uu::uu::uu::uu::uu::uu::uu::uu::uu::uu::[])) ∧ h = [.var [.bool false, .nils, .int .i64 0] 41, .var [.bool R.below, .vec (ci .u8 R.ds) R.ds.length (some 2), .int .i64 R.pt] 41, .tok R.ds.length 5 1]) ?_ ?_
          · refine Sat.invP seat_ok seat_g (maskOf 124 [0, 2, 3, 4, 5, 6, 7]) 3 (fun μ t h => ∃ (q : Nat) (n : Int), q ≤ C.length ∧ n = ((M.length + 1 + 1 + q : Nat) : Int) ∧ μ = C.length - q ∧ t = (.str s::uu::.ptr 0 0::.ptr 1 0::.bool R.seen::.bool dn::.int .i64 (powF 1099511627776 0 (C.take q))::.int .i64 n::uu::uu::uu::uu::uu::uu::uu::uu::uu::uu::uu::uu::uu::uu::uu::uu::uu::uu::uu::uu::uu::uu::uu::uu::uu::uu::uu::uu::uu::uu::uu::uu::uu::uu::uu::uu::uu::uu::uu::uu::uu::uu::uu::uu::uu::uu::uu::uu::uu::uu::uu::uu::uu::uu::uu::uu::uu::uu::uu::uu::uu::uu::uu::uu::uu::uu::uu::uu::uu::uu::uu::uu::uu::uu::uu::uu::uu::uu::uu::uu::uu::uu::uu::uu::uu::uu::uu::uu::uu::uu::uu::uu::uu::uu::uu::uu::uu::uu::uu::uu::uu::uu::uu::uu::uu::uu::uu::uu::uu::uu::uu::uu::uu::uu::uu::uu::[]) ∧ h = [.var [.bool false, .nils, .int .i64 0] 41, .var [.bool R.below, .vec (ci .u8 R.ds) R.ds.length (some 2), .int .i64 R.pt] 41, .tok R.ds.length 5 1]) ?_ ⟨_, _, WeakL.of_eq rfl, 0, _, by omega, by omega, rfl, rfl, rfl⟩ ?_
            · rintro _ _ _ ⟨q, n, -, -, -, rfl, rfl⟩
              exact ⟨rfl, (by simp [IdsL, Ids, IdsH, IdsC, lv_ids, ci_ids]), (by simp [IdsL, Ids, IdsH, IdsC, lv_ids, ci_ids])⟩
            rintro _ _ _ ⟨q, n, hq, hn, rfl, rfl, rfl⟩
            by_cases gq : q < C.length
            · obtain ⟨c, hc⟩ : ∃ c, C[q]? = some c := ⟨_, List.getElem?_eq_getElem gq⟩
              have ec : (s[n.toNat]?) = some c := by rw [hn, Int.toNat_natCast]; exact hCi q c hc
              have hcm := List.mem_of_getElem? hc
              have hc0 := hCk c hcm
              have hcc := kindN_cases c.toNat
              have hpb2 := powF_bd (cap := 1099511627776) (by decide) _ (C.take q) rfl (fun c h => hCk c (List.mem_of_mem_take h))
              have hst : powF 1099511627776 0 (C.take (q + 1)) = if 1099511627776 < 10 * powF 1099511627776 0 (C.take q) + ((c.toNat : Int) - 48) then 1099511627776 else 10 * powF 1099511627776 0 (C.take q) + ((c.toNat : Int) - 48) := by
                rw [← powF_snoc]; congr 1
                rw [List.take_succ_eq_append_getElem gq]; congr 2
                exact (List.getElem?_eq_some_iff.1 hc).2
              generalize powF 1099511627776 0 (C.take q) = P at *
              conv => whnf
              repeat' (first | exact ⟨_, _, Nat.sub_lt_sub_left gq (Nat.lt_succ_self q), WeakL.of_eq rfl, q + 1, n + 1, by omega, by omega, rfl, by rw [hst]; rfl, rfl⟩ | (refine ldI _ ec ?_; conv => whnf) | (refine WrapH.is _ (wrap_u8 (by omega) (by omega)) ?_; conv => whnf) | ((first | refine zq1 (by omega) ?_ | refine zq2 (by omega) ?_ | refine NumH.rem (by omega) ?_ | refine zq4 (by omega) ?_ | refine zq5 (by omega) ?_ | refine zq6 ?_ | refine Req.mk (by omega) ?_ | refine Req.mk (by dsimp only; omega) ?_ | refine Req.mk ⟨rfl, rfl, rfl, by simp [ci_length, *], rfl, by simp [okCell], by dsimp only; omega, by omega, by decide⟩ ?_ | refine Req.mk (show pendP _ _ by repeat' constructor) ?_ | (with_reducible first | refine brT (by assumption) ?_ | refine brF (by assumption) ?_ | refine brDT (by omega) ?_ | refine brDF (by omega) ?_ | refine brET (by omega) ?_ | refine brEF (by omega) ?_ | refine brNET (by omega) ?_ | refine brNEF (by omega) ?_ | refine brNot ?_)); conv => whnf))
            · rw [List.take_of_length_le (by omega), ← hpw]
              conv => whnf
              repeat' ((first | refine zq1 (by omega) ?_ | refine zq2 (by omega) ?_ | refine NumH.rem (by omega) ?_ | refine zq4 (by omega) ?_ | refine zq5 (by omega) ?_ | refine zq6 ?_ | refine Req.mk (by omega) ?_ | refine Req.mk (by dsimp only; omega) ?_ | refine Req.mk (show pendP _ _ by repeat' constructor) ?_ | (with_reducible first | refine brT (by assumption) ?_ | refine brF (by assumption) ?_ | refine brDT (by omega) ?_ | refine brDF (by omega) ?_ | refine brET (by omega) ?_ | refine brEF (by omega) ?_ | refine brNET (by omega) ?_ | refine brNEF (by omega) ?_ | refine brNot ?_)); conv => whnf)
              exact ⟨_, keepT_weak (maskOf 124 [0, 2, 3, 4, 5, 6, 7]) _, rfl, ⟨n, by omega, rfl⟩, rfl⟩
          · rintro _ _ _ ⟨rfl, ⟨n, hn, rfl⟩, rfl⟩
            conv => whnf
            repeat' ((first | refine zq1 (by omega) ?_ | refine zq2 (by omega) ?_ | refine NumH.rem (by omega) ?_ | refine zq4 (by omega) ?_ | refine zq5 (by omega) ?_ | refine zq6 ?_ | refine Req.mk (by omega) ?_ | refine Req.mk (by dsimp only; omega) ?_ | refine Req.mk (show pendP _ _ by repeat' constructor) ?_ | (with_reducible first | refine brT (by assumption) ?_ | refine brF (by assumption) ?_ | refine brDT (by omega) ?_ | refine brDF (by omega) ?_ | refine brET (by omega) ?_ | refine brEF (by omega) ?_ | refine brNET (by omega) ?_ | refine brNEF (by omega) ?_ | refine brNot ?_)); conv => whnf)
            exact ⟨_, _, Nat.lt_of_lt_of_le (Nat.succ_pos 0) (by omega), WeakL.of_eq rfl, .inr ⟨rfl, by rw [hn]; rfl, rfl⟩⟩
  · rintro _ _ _ ⟨rfl, rfl, rfl⟩
    have hbd := rdM_bd M.length M rfl
    have hMl : M.length ≤ 1000000 := by omega
    clear hsM hM hpw hdn hs hlen
    generalize rdM M = R at *
    conv => whnf
    refine Sat.cut (fun x t h => x = .exit 5 ∧ t = (uu::uu::.ptr 0 0::.ptr 1 0::uu::.bool dn::.int .i64 pw::uu::uu::uu::uu::uu::uu::uu::uu::uu::uu::uu::uu::uu::uu::uu::uu::uu::uu::uu::uu::uu::uu::uu::uu::uu::uu::uu::uu::uu::uu::uu::uu::uu::uu::uu::uu::uu::uu::uu::uu::uu::uu::uu::uu::uu::uu::uu::uu::uu::uu::uu::uu::uu::uu::uu::uu::uu::uu::uu::uu::uu::uu::uu::uu::uu::uu::uu::uu::uu::uu::uu::uu::uu::uu::uu::uu::uu::uu::uu::uu::uu::uu::uu::uu::uu::uu::uu::uu::uu::uu::uu::uu::uu::uu::uu::uu::uu::uu::uu::uu::uu::uu::uu::uu::uu::uu::uu::uu::uu::uu::uu::uu::uu::uu::uu::uu::uu::[]) ∧ ∃ (g : Option Nat), h = [.var [.bool false, .nils, .int .i64 0] 41, .var [.bool R.below, .vec (ci .u8 (stripL R.ds)) (stripL R.ds).length g, .int .i64 R.pt] 41, .tok R.ds.length 5 1]) ?_ ?_
    · refine Sat.invP seat_ok seat_g (maskOf 124 [2, 3, 5, 6]) 3 (fun μ t h => ∃ (d : List Int) (g : Option Nat), (g = none ∨ g = some 2) ∧ d.length ≤ 1000000 ∧ stripL d = stripL R.ds ∧ μ = d.length ∧ t = (uu::uu::.ptr 0 0::.ptr 1 0::uu::.bool dn::.int .i64 pw::uu::uu::uu::uu::uu::uu::uu::uu::uu::uu::uu::uu::uu::uu::uu::uu::uu::uu::uu::uu::uu::uu::uu::uu::uu::uu::uu::uu::uu::uu::uu::uu::uu::uu::uu::uu::uu::uu::uu::uu::uu::uu::uu::uu::uu::uu::uu::uu::uu::uu::uu::uu::uu::uu::uu::uu::uu::uu::uu::uu::uu::uu::uu::uu::uu::uu::uu::uu::uu::uu::uu::uu::uu::uu::uu::uu::uu::uu::uu::uu::uu::uu::uu::uu::uu::uu::uu::uu::uu::uu::uu::uu::uu::uu::uu::uu::uu::uu::uu::uu::uu::uu::uu::uu::uu::uu::uu::uu::uu::uu::uu::uu::uu::uu::uu::uu::uu::[]) ∧
        h = [.var [.bool false, .nils, .int .i64 0] 41, .var [.bool R.below, .vec (ci .u8 d) d.length g, .int .i64 R.pt] 41, .tok R.ds.length 5 1]) ?_ ⟨_, _, WeakL.of_eq rfl, R.ds, some 2, .inr rfl, by omega, rfl, rfl, rfl, rfl⟩ ?_
      · rintro _ _ _ ⟨d, g, hg, -, -, -, rfl, rfl⟩
        rcases hg with rfl | rfl
        · exact ⟨rfl, (by simp [IdsL, Ids, IdsH, IdsC, lv_ids, ci_ids]), (by simp [IdsL, Ids, IdsH, IdsC, lv_ids, ci_ids])⟩
        · exact ⟨rfl, (by simp [IdsL, Ids, IdsH, IdsC, lv_ids, ci_ids]), (by simp [IdsL, Ids, IdsH, IdsC, lv_ids, ci_ids])⟩
      rintro _ _ _ ⟨d, g, hg, hdl, hd, rfl, rfl, rfl⟩
      rcases List.eq_nil_or_concat d with rfl | ⟨d', x, rfl⟩
      · have e0 : stripL [] = [] := rfl
        rw [← hd, e0]
        conv => whnf
        repeat' ((first | refine zq1 (by omega) ?_ | refine zq2 (by omega) ?_ | refine NumH.rem (by omega) ?_ | refine zq4 (by omega) ?_ | refine zq5 (by omega) ?_ | refine zq6 ?_ | refine Req.mk (by omega) ?_ | refine Req.mk (by dsimp only; omega) ?_ | refine Req.mk (show pendP _ _ by repeat' constructor) ?_ | (with_reducible first | refine brT (by assumption) ?_ | refine brF (by assumption) ?_ | refine brDT (by omega) ?_ | refine brDF (by omega) ?_ | refine brET (by omega) ?_ | refine brEF (by omega) ?_ | refine brNET (by omega) ?_ | refine brNEF (by omega) ?_ | refine brNot ?_)); conv => whnf)
        exact ⟨_, keepT_weak (maskOf 124 [2, 3, 5, 6]) _, rfl, rfl, g, rfl⟩
      · rw [List.concat_eq_append] at *
        have hl2 : (d' ++ [x]).length = d'.length + 1 := by simp
        have h0 : (0 : Int) < (d' ++ [x]).length := by omega
        have ex : (d' ++ [x])[((d' ++ [x]).length - 1 : Int).toNat]? = some x := by
          rw [hl2, show (((d'.length + 1 : Nat) : Int) - 1).toNat = d'.length by omega]; simp
        have hld := ci_sub .u8 ex
        rw [stripL_last] at hd
        by_cases hx : x = 0
        · rw [if_pos hx] at hd
          have hpt : AV.vec (((ci .u8 (d' ++ [x])).drop (0 * 1)).take ((((d' ++ [x]).length - 1 : Int).toNat - 0) * 1)) (((d' ++ [x]).length - 1 : Int).toNat - 0) none = .vec (ci .u8 d') d'.length none := by
            rw [hl2, show (((d'.length + 1 : Nat) : Int) - 1).toNat = d'.length by omega]
            simp [ci]
          conv => whnf
          repeat' (first | (refine ldI _ hld ?_; conv => whnf) | ((first | refine zq1 (by omega) ?_ | refine zq2 (by omega) ?_ | refine NumH.rem (by omega) ?_ | refine zq4 (by omega) ?_ | refine zq5 (by omega) ?_ | refine zq6 ?_ | refine Req.mk (by omega) ?_ | refine Req.mk (by dsimp only; omega) ?_ | refine Req.mk ⟨rfl, rfl, rfl, by simp [ci_length, *], rfl, by simp [okCell], by dsimp only; omega, by omega, by decide⟩ ?_ | refine Req.mk (show pendP _ _ by repeat' constructor) ?_ | (with_reducible first | refine brT (by assumption) ?_ | refine brF (by assumption) ?_ | refine brDT (by omega) ?_ | refine brDF (by omega) ?_ | refine brET (by omega) ?_ | refine brEF (by omega) ?_ | refine brNET (by omega) ?_ | refine brNEF (by omega) ?_ | refine brNot ?_)); conv => whnf))
          exact ⟨_, _, by rw [hl2]; exact Nat.lt_succ_self _, WeakL.of_eq rfl, d', none, .inl rfl, by omega, hd, rfl, rfl, congrArg (fun v : AV => ([.var [.bool false, .nils, .int .i64 0] 41, .var [.bool R.below, v, .int .i64 R.pt] 41, .tok R.ds.length 5 1] : Heap)) hpt⟩
        · rw [if_neg hx] at hd
          rw [← hd]
          conv => whnf
          repeat' (first | (refine ldI _ hld ?_; conv => whnf) | ((first | refine zq1 (by omega) ?_ | refine zq2 (by omega) ?_ | refine NumH.rem (by omega) ?_ | refine zq4 (by omega) ?_ | refine zq5 (by omega) ?_ | refine zq6 ?_ | refine Req.mk (by omega) ?_ | refine Req.mk (by dsimp only; omega) ?_ | refine Req.mk ⟨rfl, rfl, rfl, by simp [ci_length, *], rfl, by simp [okCell], by dsimp only; omega, by omega, by decide⟩ ?_ | refine Req.mk (show pendP _ _ by repeat' constructor) ?_ | (with_reducible first | refine brT (by assumption) ?_ | refine brF (by assumption) ?_ | refine brDT (by omega) ?_ | refine brDF (by omega) ?_ | refine brET (by omega) ?_ | refine brEF (by omega) ?_ | refine brNET (by omega) ?_ | refine brNEF (by omega) ?_ | refine brNot ?_)); conv => whnf))
          exact ⟨_, keepT_weak (maskOf 124 [2, 3, 5, 6]) _, rfl, rfl, g, rfl⟩
    · rintro _ _ _ ⟨rfl, rfl, g, rfl⟩
      have hw : ∀ (z : Int), Weak (.agg [.bool R.below, .vec (ci .u8 (stripL R.ds)) (stripL R.ds).length g, .int .i64 z]) (.agg [.bool R.below, .vec (ci .u8 (stripL R.ds)) (stripL R.ds).length none, .int .i64 z]) := fun z => Weak.agg (WeakL.cons (Weak.refl _) (WeakL.cons Weak.tok (WeakL.refl _)))
      unfold numV
      cases dn with
      | false =>
        conv => whnf
        repeat' ((first | refine zq1 (by omega) ?_ | refine zq2 (by omega) ?_ | refine NumH.rem (by omega) ?_ | refine zq4 (by omega) ?_ | refine zq5 (by omega) ?_ | refine zq6 ?_ | refine Req.mk (by omega) ?_ | refine Req.mk (by dsimp only; omega) ?_ | refine Req.mk (show pendP _ _ by repeat' constructor) ?_ | (with_reducible first | refine brT (by assumption) ?_ | refine brF (by assumption) ?_ | refine brDT (by omega) ?_ | refine brDF (by omega) ?_ | refine brET (by omega) ?_ | refine brEF (by omega) ?_ | refine brNET (by omega) ?_ | refine brNEF (by omega) ?_ | refine brNot ?_)); conv => whnf)
        exact .inl ⟨_, _, rfl, hw _, rfl⟩
      | true =>
        conv => whnf
        repeat' ((first | refine zq1 (by omega) ?_ | refine zq2 (by omega) ?_ | refine NumH.rem (by omega) ?_ | refine zq4 (by omega) ?_ | refine zq5 (by omega) ?_ | refine zq6 ?_ | refine Req.mk (by omega) ?_ | refine Req.mk (by dsimp only; omega) ?_ | refine Req.mk (show pendP _ _ by repeat' constructor) ?_ | (with_reducible first | refine brT (by assumption) ?_ | refine brF (by assumption) ?_ | refine brDT (by omega) ?_ | refine brDF (by omega) ?_ | refine brET (by omega) ?_ | refine brEF (by omega) ?_ | refine brNET (by omega) ?_ | refine brNEF (by omega) ?_ | refine brNot ?_)); conv => whnf)
        exact .inl ⟨_, _, rfl, hw _, rfl⟩
end Go.Proofs.YtinjgnaimmenbaaDoor
namespace Go.Proofs.YtinjgnaimmenbaaDoor
open Go.Abs
theorem div_fin {A B1 B0 q X : Int} (hX : X = A * 4294967296 + B1) (b3 : 0 ≤ B0) (b4 : B0 < 4294967296) (hm : (A * 18446744073709551616 + (B1 * 4294967296 + B0)) % 128 = 0) (h1 : q * 12800000000000000000 ≤ X * 4294967296 + B0) (h2 : X * 4294967296 + B0 < q * 12800000000000000000 + 12800000000000000000) :
    q = (A * 18446744073709551616 + (B1 * 4294967296 + B0)) / 128 / 100000000000000000 ∧ (X * 4294967296 % 18446744073709551616 + B0 - q * 12800000000000000000 % 18446744073709551616) % 18446744073709551616 / 128 = (A * 18446744073709551616 + (B1 * 4294967296 + B0)) / 128 % 100000000000000000 ∧ (X * 4294967296 + B0 - q * 12800000000000000000) / 128 = (A * 18446744073709551616 + (B1 * 4294967296 + B0)) / 128 % 100000000000000000 := by
  have hT : A * 18446744073709551616 + (B1 * 4294967296 + B0) = X * 4294967296 + B0 := by omega
  rw [hT] at hm ⊢
  clear hT hX
  have e : (X * 4294967296 % 18446744073709551616 + B0 - q * 12800000000000000000 % 18446744073709551616) % 18446744073709551616 = X * 4294967296 + B0 - q * 12800000000000000000 := by
    have e1 : (X * 4294967296 % 18446744073709551616 + B0 - q * 12800000000000000000 % 18446744073709551616) % 18446744073709551616 = (X * 4294967296 + B0 - q * 12800000000000000000) % 18446744073709551616 := by omega
    rw [e1, Int.emod_eq_of_lt (by omega) (by omega)]
  rw [e]
  clear e
  generalize X * 4294967296 + B0 = T at *
  have e2 : T / 128 * 128 = T := by omega
  generalize T / 128 = N at *
  subst e2
  refine ⟨?_, ?_, ?_⟩ <;> omega
set_option maxRecDepth 20000 in
set_option maxHeartbeats 1000000 in
theorem c_div17 (hi lo : Int) (hh : 0 ≤ hi ∧ hi ≤ 400) (hl : U64 lo) : ACalls seat 17 [.int .u64 hi, .int .u64 lo, .int .u64 100000000000000000] [] (fun x _ => x = .ret (.tup [.int .u64 ((hi * 18446744073709551616 + lo) / 100000000000000000), .int .u64 ((hi * 18446744073709551616 + lo) % 100000000000000000)])) := by
  refine ACalls.body seat_ok Tryd.func17 rfl rfl ?_
  obtain ⟨l1, l2⟩ := hl
  obtain ⟨h1, h2⟩ := hh
  by_cases g : hi = 0
  · subst g
    rw [show (0 : Int) * 18446744073709551616 + lo = lo by omega]
    conv => whnf
    repeat' ((first | refine zq1 (by omega) ?_ | refine zq2 (by omega) ?_ | refine NumH.rem (by omega) ?_ | refine zq4 (by omega) ?_ | refine zq5 (by omega) ?_ | refine zq6 ?_ | refine Req.mk (by omega) ?_ | refine Req.mk (by dsimp only; omega) ?_ | refine Req.mk (show pendP _ _ by repeat' constructor) ?_ | (with_reducible first | refine brT (by assumption) ?_ | refine brF (by assumption) ?_ | refine brDT (by omega) ?_ | refine brDF (by omega) ?_ | refine brET (by omega) ?_ | refine brEF (by omega) ?_ | refine brNET (by omega) ?_ | refine brNEF (by omega) ?_ | refine brNot ?_)); conv => whnf)
    refine DrawH.plan seat_ok (.take 0 (.take 1 (.take 2 (.take 3 (.take 4 (.take 5 (.take 6 (.take 7 Plan.done)))))))) 0 (by kernel_rfl) ?_
    conv => whnf
    repeat' (first | exact rfl | ((first | refine zq1 (by omega) ?_ | refine zq2 (by omega) ?_ | refine NumH.rem (by omega) ?_ | refine zq4 (by omega) ?_ | refine zq5 (by omega) ?_ | refine zq6 ?_ | refine Req.mk (by omega) ?_ | refine Req.mk (by dsimp only; omega) ?_ | refine Req.mk (show pendP _ _ by repeat' constructor) ?_ | (with_reducible first | refine brT (by assumption) ?_ | refine brF (by assumption) ?_ | refine brDT (by omega) ?_ | refine brDF (by omega) ?_ | refine brET (by omega) ?_ | refine brEF (by omega) ?_ | refine brNET (by omega) ?_ | refine brNEF (by omega) ?_ | refine brNot ?_)); conv => whnf) | (refine And.intro ?_ ?_ <;> (conv => whnf)))
  have hor : IntKind.wrap .u64 ((BitVec.ofInt (IntKind.bits .u64) (hi * 128) ||| BitVec.ofInt (IntKind.bits .u64) (lo / 144115188075855872)).toNat : Int) = hi * 128 + lo / 144115188075855872 := by
    have := or_u64 (a := hi) (b := lo / 144115188075855872) (k := 7) h1 (by omega) (by omega)
    rw [show (2 : Int) ^ 7 * hi = hi * 128 by omega] at this
    exact this
  conv => whnf
  repeat' (first | (refine CallH.lift seat_g c_len17 (by simp [Closed, ClosedL]) (by simp [Closed]) ?_; conv => whnf) | (refine Req.mk (by decide) ?_; refine WrapH.is 12800000000000000000 (by decide) ?_; conv => whnf) | ((first | refine zq1 (by omega) ?_ | refine zq2 (by omega) ?_ | refine NumH.rem (by omega) ?_ | refine zq4 (by omega) ?_ | refine zq5 (by omega) ?_ | refine zq6 ?_ | refine Req.mk (by omega) ?_ | refine Req.mk (by dsimp only; omega) ?_ | refine Req.mk (show pendP _ _ by repeat' constructor) ?_ | (with_reducible first | refine brT (by assumption) ?_ | refine brF (by assumption) ?_ | refine brDT (by omega) ?_ | refine brDF (by omega) ?_ | refine brET (by omega) ?_ | refine brEF (by omega) ?_ | refine brNET (by omega) ?_ | refine brNEF (by omega) ?_ | refine brNot ?_)); conv => whnf))
  refine NumH.is 2980232238 (by decide) ?_
  conv => whnf
  refine WrapH.is 3305111552 (by decide) ?_
  conv => whnf
  refine Req.mk (by decide) ?_
  conv => whnf
  refine WrapH.is (hi * 128) (wrap_u64 (n := hi * 128) (by omega) (by omega)) ?_
  conv => whnf
  repeat' ((first | refine zq1 (by omega) ?_ | refine zq2 (by omega) ?_ | refine NumH.rem (by omega) ?_ | refine zq4 (by omega) ?_ | refine zq5 (by omega) ?_ | refine zq6 ?_ | refine Req.mk (by omega) ?_ | refine Req.mk (by dsimp only; omega) ?_ | refine Req.mk (show pendP _ _ by repeat' constructor) ?_ | (with_reducible first | refine brT (by assumption) ?_ | refine brF (by assumption) ?_ | refine brDT (by omega) ?_ | refine brDF (by omega) ?_ | refine brET (by omega) ?_ | refine brEF (by omega) ?_ | refine brNET (by omega) ?_ | refine brNEF (by omega) ?_ | refine brNot ?_)); conv => whnf)
  refine NumH.is (lo / 144115188075855872) (fdiv_is (c := 144115188075855872) (by decide) (by decide)) ?_
  conv => whnf
  refine WrapH.is _ hor ?_
  conv => whnf
  refine Req.mk (by decide) ?_
  conv => whnf
  refine WrapH.is (lo * 128 % 18446744073709551616) (wrap_u64m (n := lo * 128)) ?_
  conv => whnf
  refine Req.mk (by decide) ?_
  conv => whnf
  have eN : hi * 18446744073709551616 + lo = ((hi * 128 + lo / 144115188075855872) * 18446744073709551616 + lo * 128 % 18446744073709551616) / 128 := by omega
  have eN2 : ((hi * 128 + lo / 144115188075855872) * 18446744073709551616 + lo * 128 % 18446744073709551616) % 128 = 0 := by omega
  rw [eN]
  have hA : 0 ≤ hi * 128 + lo / 144115188075855872 ∧ hi * 128 + lo / 144115188075855872 ≤ 51400 := by omega
  have hB : 0 ≤ lo * 128 % 18446744073709551616 ∧ lo * 128 % 18446744073709551616 < 18446744073709551616 := by omega
  clear hor eN
  generalize hi * 128 + lo / 144115188075855872 = A at *
  generalize lo * 128 % 18446744073709551616 = B at *
  clear g h1 h2 l1 l2
  refine NumH.is (B / 4294967296) (fdiv_is (c := 4294967296) (by decide) (by decide)) ?_
  conv => whnf
  refine WrapH.is _ and_u64' ?_
  conv => whnf
  have hq1 : IntKind.wrap .u64 (A.tdiv 2980232238) = 0 := by
    rw [Int.tdiv_eq_ediv_of_nonneg hA.1, Int.ediv_eq_zero_of_lt hA.1 (by omega)]; rfl
  have hB1 : B / 4294967296 * 4294967296 + B % 4294967296 = B := by omega
  have hB2 : 0 ≤ B / 4294967296 ∧ B / 4294967296 < 4294967296 ∧ 0 ≤ B % 4294967296 ∧ B % 4294967296 < 4294967296 := by omega
  generalize B / 4294967296 = B1 at *
  generalize B % 4294967296 = B0 at *
  subst hB1
  obtain ⟨b1, b2, b3, b4⟩ := hB2
  clear hB
  repeat' ((first | refine zq1 (by omega) ?_ | refine zq2 (by omega) ?_ | refine NumH.rem (by omega) ?_ | refine zq4 (by omega) ?_ | refine zq5 (by omega) ?_ | refine zq6 ?_ | refine Req.mk (by omega) ?_ | refine Req.mk (by dsimp only; omega) ?_ | refine Req.mk (show pendP _ _ by repeat' constructor) ?_ | (with_reducible first | refine brT (by assumption) ?_ | refine brF (by assumption) ?_ | refine brDT (by omega) ?_ | refine brDF (by omega) ?_ | refine brET (by omega) ?_ | refine brEF (by omega) ?_ | refine brNET (by omega) ?_ | refine brNEF (by omega) ?_ | refine brNot ?_)); conv => whnf)
  refine Sat.unroll seat_ok 1 ?_
  conv => whnf
  repeat' ((first | refine zq1 (by omega) ?_ | refine zq2 (by omega) ?_ | refine NumH.rem (by omega) ?_ | refine zq4 (by omega) ?_ | refine zq5 (by omega) ?_ | refine zq6 ?_ | refine Req.mk (by omega) ?_ | refine Req.mk (by dsimp only; omega) ?_ | refine Req.mk (show pendP _ _ by repeat' constructor) ?_ | (with_reducible first | refine brT (by assumption) ?_ | refine brF (by assumption) ?_ | refine brDT (by omega) ?_ | refine brDF (by omega) ?_ | refine brET (by omega) ?_ | refine brEF (by omega) ?_ | refine brNET (by omega) ?_ | refine brNEF (by omega) ?_ | refine brNot ?_)); conv => whnf)
  have hX : A * 4294967296 + B1 - A / 2980232238 * 12800000000000000000 = A * 4294967296 + B1 := by omega
  by_cases c : (A * 4294967296 + B1 - A / 2980232238 * 12800000000000000000) / 2980232238 * 3305111552 > 4294967296 * ((A * 4294967296 + B1 - A / 2980232238 * 12800000000000000000) - (A * 4294967296 + B1 - A / 2980232238 * 12800000000000000000) / 2980232238 * 2980232238) + B0
  · by_cases d : (A * 4294967296 + B1 - A / 2980232238 * 12800000000000000000) - (A * 4294967296 + B1 - A / 2980232238 * 12800000000000000000) / 2980232238 * 2980232238 + 2980232238 ≥ 4294967296
    · refine Sat.unroll seat_ok 1 ?_
      conv => whnf
      repeat' ((first | refine zq1 (by omega) ?_ | refine zq2 (by omega) ?_ | refine NumH.rem (by omega) ?_ | refine zq4 (by omega) ?_ | refine zq5 (by omega) ?_ | refine zq6 ?_ | refine Req.mk (by omega) ?_ | refine Req.mk (by dsimp only; omega) ?_ | refine Req.mk (show pendP _ _ by repeat' constructor) ?_ | (with_reducible first | refine brT (by assumption) ?_ | refine brF (by assumption) ?_ | refine brDT (by omega) ?_ | refine brDF (by omega) ?_ | refine brET (by omega) ?_ | refine brEF (by omega) ?_ | refine brNET (by omega) ?_ | refine brNEF (by omega) ?_ | refine brNot ?_)); conv => whnf)
      repeat' (first | (refine NumH.is _ (fdiv_is (c := 128) (by decide) (by decide)) ?_; conv => whnf) | ((first | refine zq1 (by omega) ?_ | refine zq2 (by omega) ?_ | refine NumH.rem (by omega) ?_ | refine zq4 (by omega) ?_ | refine zq5 (by omega) ?_ | refine zq6 ?_ | refine Req.mk (by omega) ?_ | refine Req.mk (by dsimp only; omega) ?_ | refine Req.mk (show pendP _ _ by repeat' constructor) ?_ | (with_reducible first | refine brT (by assumption) ?_ | refine brF (by assumption) ?_ | refine brDT (by omega) ?_ | refine brDF (by omega) ?_ | refine brET (by omega) ?_ | refine brEF (by omega) ?_ | refine brNET (by omega) ?_ | refine brNEF (by omega) ?_ | refine brNot ?_)); conv => whnf))
      refine congrArg AEnd.ret (congrArg AV.tup ?_)
      have f := div_fin (X := (A * 4294967296 + B1 - A / 2980232238 * 12800000000000000000)) (q := (A * 4294967296 + B1 - A / 2980232238 * 12800000000000000000) / 2980232238 - 1) (by omega) b3 b4 eN2 (by omega) (by omega)
      exact List.cons_eq_cons.2 ⟨congrArg (AV.int .u64) (by rw [← f.1]; omega), List.cons_eq_cons.2 ⟨congrArg (AV.int .u64) (by first | exact f.2.1 | exact f.2.2), rfl⟩⟩
    · refine Sat.unroll seat_ok 2 ?_
      conv => whnf
      repeat' ((first | refine zq1 (by omega) ?_ | refine zq2 (by omega) ?_ | refine NumH.rem (by omega) ?_ | refine zq4 (by omega) ?_ | refine zq5 (by omega) ?_ | refine zq6 ?_ | refine Req.mk (by omega) ?_ | refine Req.mk (by dsimp only; omega) ?_ | refine Req.mk (show pendP _ _ by repeat' constructor) ?_ | (with_reducible first | refine brT (by assumption) ?_ | refine brF (by assumption) ?_ | refine brDT (by omega) ?_ | refine brDF (by omega) ?_ | refine brET (by omega) ?_ | refine brEF (by omega) ?_ | refine brNET (by omega) ?_ | refine brNEF (by omega) ?_ | refine brNot ?_)); conv => whnf)
      repeat' (first | (refine NumH.is _ (fdiv_is (c := 128) (by decide) (by decide)) ?_; conv => whnf) | ((first | refine zq1 (by omega) ?_ | refine zq2 (by omega) ?_ | refine NumH.rem (by omega) ?_ | refine zq4 (by omega) ?_ | refine zq5 (by omega) ?_ | refine zq6 ?_ | refine Req.mk (by omega) ?_ | refine Req.mk (by dsimp only; omega) ?_ | refine Req.mk (show pendP _ _ by repeat' constructor) ?_ | (with_reducible first | refine brT (by assumption) ?_ | refine brF (by assumption) ?_ | refine brDT (by omega) ?_ | refine brDF (by omega) ?_ | refine brET (by omega) ?_ | refine brEF (by omega) ?_ | refine brNET (by omega) ?_ | refine brNEF (by omega) ?_ | refine brNot ?_)); conv => whnf))
      refine congrArg AEnd.ret (congrArg AV.tup ?_)
      have f := div_fin (X := (A * 4294967296 + B1 - A / 2980232238 * 12800000000000000000)) (q := (A * 4294967296 + B1 - A / 2980232238 * 12800000000000000000) / 2980232238 - 1) (by omega) b3 b4 eN2 (by omega) (by omega)
      exact List.cons_eq_cons.2 ⟨congrArg (AV.int .u64) (by rw [← f.1]; omega), List.cons_eq_cons.2 ⟨congrArg (AV.int .u64) (by first | exact f.2.1 | exact f.2.2), rfl⟩⟩
  · refine Sat.unroll seat_ok 1 ?_
    conv => whnf
    repeat' ((first | refine zq1 (by omega) ?_ | refine zq2 (by omega) ?_ | refine NumH.rem (by omega) ?_ | refine zq4 (by omega) ?_ | refine zq5 (by omega) ?_ | refine zq6 ?_ | refine Req.mk (by omega) ?_ | refine Req.mk (by dsimp only; omega) ?_ | refine Req.mk (show pendP _ _ by repeat' constructor) ?_ | (with_reducible first | refine brT (by assumption) ?_ | refine brF (by assumption) ?_ | refine brDT (by omega) ?_ | refine brDF (by omega) ?_ | refine brET (by omega) ?_ | refine brEF (by omega) ?_ | refine brNET (by omega) ?_ | refine brNEF (by omega) ?_ | refine brNot ?_)); conv => whnf)
    repeat' (first | (refine NumH.is _ (fdiv_is (c := 128) (by decide) (by decide)) ?_; conv => whnf) | ((first | refine zq1 (by omega) ?_ | refine zq2 (by omega) ?_ | refine NumH.rem (by omega) ?_ | refine zq4 (by omega) ?_ | refine zq5 (by omega) ?_ | refine zq6 ?_ | refine Req.mk (by omega) ?_ | refine Req.mk (by dsimp only; omega) ?_ | refine Req.mk (show pendP _ _ by repeat' constructor) ?_ | (with_reducible first | refine brT (by assumption) ?_ | refine brF (by assumption) ?_ | refine brDT (by omega) ?_ | refine brDF (by omega) ?_ | refine brET (by omega) ?_ | refine brEF (by omega) ?_ | refine brNET (by omega) ?_ | refine brNEF (by omega) ?_ | refine brNot ?_)); conv => whnf))
    refine congrArg AEnd.ret (congrArg AV.tup ?_)
    have f := div_fin (X := (A * 4294967296 + B1 - A / 2980232238 * 12800000000000000000)) (q := (A * 4294967296 + B1 - A / 2980232238 * 12800000000000000000) / 2980232238) (by omega) b3 b4 eN2 (by omega) (by omega)
    exact List.cons_eq_cons.2 ⟨congrArg (AV.int .u64) (by rw [← f.1]; omega), List.cons_eq_cons.2 ⟨congrArg (AV.int .u64) (by first | exact f.2.1 | exact f.2.2), rfl⟩⟩
end Go.Proofs.YtinjgnaimmenbaaDoor
namespace Go.Proofs.YtinjgnaimmenbaaDoor
open Go.Abs
def nmV (bl : Bool) (d : List Int) (p : Int) : AV := .agg [.bool bl, .vec (ci .u8 d) d.length none, .int .i64 p]
theorem nmV_closed (bl : Bool) (d : List Int) (p : Int) : Closed (nmV bl d p) := by simp [nmV, Closed, ClosedL, ci_closed]
def digZ (d : List Int) (p i : Int) : Int := if p + i - 1 < 0 ∨ d.length ≤ p + i - 1 then 0 else d[(p + i - 1).toNat]?.getD 0
theorem digZ_bd {d : List Int} (hd : ∀ x ∈ d, 0 ≤ x ∧ x ≤ 9) (p i : Int) : 0 ≤ digZ d p i ∧ digZ d p i ≤ 9 := by
  unfold digZ
  split
  · omega
  · rename_i h
    obtain ⟨x, hx⟩ : ∃ x, d[(p + i - 1).toNat]? = some x := ⟨_, List.getElem?_eq_getElem (by omega)⟩
    rw [hx]; exact hd x (List.mem_of_getElem? hx)
theorem c_digit (bl : Bool) (d : List Int) (p i : Int) (hd : ∀ x ∈ d, 0 ≤ x ∧ x ≤ 9) (hp : -4000000000000000000 ≤ p ∧ p ≤ 4000000000000000000) (hi : -100 ≤ i ∧ i ≤ 100) : ACalls seat 15 [nmV bl d p, .int .i64 i] [] (fun x _ => x = .ret (.int .u64 (digZ d p i))) := by
  refine ACalls.body seat_ok Tryd.func15 rfl rfl ?_
  unfold digZ
  by_cases g1 : p + i - 1 < 0
  · rw [if_pos (.inl g1)]
    conv => whnf
    repeat' ((first | refine zq1 (by omega) ?_ | refine zq2 (by omega) ?_ | refine NumH.rem (by omega) ?_ | refine zq4 (by omega) ?_ | refine zq5 (by omega) ?_ | refine zq6 ?_ | refine Req.mk (by omega) ?_ | refine Req.mk (by dsimp only; omega) ?_ | refine Req.mk (show pendP _ _ by repeat' constructor) ?_ | (with_reducible first | refine brT (by assumption) ?_ | refine brF (by assumption) ?_ | refine brDT (by omega) ?_ | refine brDF (by omega) ?_ | refine brET (by omega) ?_ | refine brEF (by omega) ?_ | refine brNET (by omega) ?_ | refine brNEF (by omega) ?_ | refine brNot ?_)); conv => whnf)
    rfl
  · by_cases g2 : (d.length : Int) ≤ p + i - 1
    · rw [if_pos (.inr g2)]
      conv => whnf
      repeat' ((first | refine zq1 (by omega) ?_ | refine zq2 (by omega) ?_ | refine NumH.rem (by omega) ?_ | refine zq4 (by omega) ?_ | refine zq5 (by omega) ?_ | refine zq6 ?_ | refine Req.mk (by omega) ?_ | refine Req.mk (by dsimp only; omega) ?_ | refine Req.mk (show pendP _ _ by repeat' constructor) ?_ | (with_reducible first | refine brT (by assumption) ?_ | refine brF (by assumption) ?_ | refine brDT (by omega) ?_ | refine brDF (by omega) ?_ | refine brET (by omega) ?_ | refine brEF (by omega) ?_ | refine brNET (by omega) ?_ | refine brNEF (by omega) ?_ | refine brNot ?_)); conv => whnf)
      rfl
    · rw [if_neg (by omega)]
      obtain ⟨x, hx⟩ : ∃ x, d[(p + i - 1).toNat]? = some x := ⟨_, List.getElem?_eq_getElem (by omega)⟩
      have hb := hd x (List.mem_of_getElem? hx)
      rw [hx]
      conv => whnf
      repeat' (first | exact rfl | (refine ldI _ (ci_sub .u8 hx) ?_; conv => whnf) | ((first | refine zq1 (by omega) ?_ | refine zq2 (by omega) ?_ | refine NumH.rem (by omega) ?_ | refine zq4 (by omega) ?_ | refine zq5 (by omega) ?_ | refine zq6 ?_ | refine Req.mk (by omega) ?_ | refine Req.mk (by dsimp only; omega) ?_ | refine Req.mk (show pendP _ _ by repeat' constructor) ?_ | (with_reducible first | refine brT (by assumption) ?_ | refine brF (by assumption) ?_ | refine brDT (by omega) ?_ | refine brDF (by omega) ?_ | refine brET (by omega) ?_ | refine brEF (by omega) ?_ | refine brNET (by omega) ?_ | refine brNEF (by omega) ?_ | refine brNot ?_)); conv => whnf))
def accZ (d : List Int) (p a : Int) : Nat → Int
  | 0 => 0
  | n + 1 => 10 * accZ d p a n + digZ d p (a + n)
theorem accZ_bd {d : List Int} (hd : ∀ x ∈ d, 0 ≤ x ∧ x ≤ 9) (p a : Int) : ∀ n : Nat, 0 ≤ accZ d p a n ∧ accZ d p a n < 10 ^ n
  | 0 => by simp [accZ]
  | n + 1 => by
    have := accZ_bd hd p a n
    have h2 := digZ_bd hd p (a + n)
    rw [Int.pow_succ]
    simp only [accZ]
    omega
theorem accZ17 {d : List Int} (hd : ∀ x ∈ d, 0 ≤ x ∧ x ≤ 9) (p a : Int) {n : Nat} (hn : n ≤ 17) : 0 ≤ accZ d p a n ∧ accZ d p a n < 100000000000000000 := by
  have h := accZ_bd hd p a n
  have h2 : (10 : Nat) ^ n ≤ 10 ^ 17 := Nat.pow_le_pow_right (by decide) hn
  have h3 : ((10 : Int) ^ n) = ((10 ^ n : Nat) : Int) := by rw [Int.natCast_pow]; rfl
  have h4 : ((10 : Nat) ^ 17) = 100000000000000000 := by decide
  omega
def moreB (d : List Int) (p : Int) : Bool := decide (0 < d.length) && decide (p + 17 < d.length)
def rndZ (bl more : Bool) (b : Int) : Int := if b * 65536 % 100000000000000000 > 50000000000000000 ∨ (b * 65536 % 100000000000000000 = 50000000000000000 ∧ (more = true ∨ bl = false)) then 1 else 0
def vZ (bl : Bool) (d : List Int) (p : Int) : Int := accZ d p (-4) 5 * 65536 + accZ d p 1 17 * 65536 / 100000000000000000 + rndZ bl (moreB d p) (accZ d p 1 17)
def decR (bl : Bool) (d : List Int) (p : Int) : AV := if p > 5 ∧ 0 < d.length then .tup [.int .i64 0, .int .i64 2] else if vZ bl d p ≥ 4294967296 then .tup [.int .i64 0, .int .i64 2] else if bl = true then .tup [.int .i64 (0 - vZ bl d p), .int .i64 0] else .tup [.int .i64 (vZ bl d p), .int .i64 0]
end Go.Proofs.YtinjgnaimmenbaaDoor
namespace Go.Proofs.YtinjgnaimmenbaaDoor
open Go.Abs
def outV (n : Int) : AV := if 4294967296 ≤ n ∨ n ≤ -4294967296 then .tup [.int .i64 0, .int .i64 2] else .tup [.int .i64 n, .int .i64 0]
def upM (N : Nat) (P : Int) : Nat := N * 65536 * 10 ^ P.toNat
def dnM (P : Int) : Nat := 10 ^ (0 - P).toNat
def refV (bl : Bool) (N : Nat) (P : Int) : Int := sg (nearM (bl && decide (0 < upM N P)) (upM N P) (dnM P)).1 (nearM (bl && decide (0 < upM N P)) (upM N P) (dnM P)).2
end Go.Proofs.YtinjgnaimmenbaaDoor
namespace Go.Proofs.YtinjgnaimmenbaaDoor
open Go.Abs
def preN (d : List Int) : Nat → Int
  | 0 => 0
  | k + 1 => 10 * preN d k + (d[k]?.getD 0)
theorem preN_nil : ∀ k, preN [] k = 0
  | 0 => rfl
  | k + 1 => by simp [preN, preN_nil k]
theorem accZ_pre (d : List Int) (p a : Int) : ∀ n : Nat, accZ d p a n = preN d (p + a - 1 + n).toNat - 10 ^ n * preN d (p + a - 1).toNat
  | 0 => by simp [accZ]
  | n + 1 => by
    rw [accZ, accZ_pre d p a n, Int.pow_succ]
    unfold digZ
    by_cases h : p + (a + n) - 1 < 0
    · rw [if_pos (.inl h), show (p + a - 1 + ((n + 1 : Nat) : Int)).toNat = 0 by omega, show (p + a - 1 + (n : Int)).toNat = 0 by omega, show (p + a - 1).toNat = 0 by omega]
      simp [preN]
    · have e : (p + a - 1 + ((n + 1 : Nat) : Int)).toNat = (p + a - 1 + (n : Int)).toNat + 1 := by omega
      have e2 : (p + (a + (n : Int)) - 1).toNat = (p + a - 1 + (n : Int)).toNat := by omega
      rw [e, preN]
      have hx : (if p + (a + (n : Int)) - 1 < 0 ∨ (d.length : Int) ≤ p + (a + n) - 1 then (0 : Int) else d[(p + (a + (n : Int)) - 1).toNat]?.getD 0) = d[(p + a - 1 + (n : Int)).toNat]?.getD 0 := by
        by_cases h2 : (d.length : Int) ≤ p + (a + n) - 1
        · rw [if_pos (.inr h2), List.getElem?_eq_none (by omega)]; rfl
        · rw [if_neg (by omega), e2]
      rw [hx]
      generalize preN d (p + a - 1 + (n : Int)).toNat = x
      generalize preN d (p + a - 1).toNat = y
      generalize d[(p + a - 1 + (n : Int)).toNat]?.getD 0 = z
      generalize (10 : Int) ^ n = t
      have : t * 10 * y = 10 * (t * y) := by rw [Int.mul_comm t 10, Int.mul_assoc]
      omega
theorem preN_ge (d : List Int) (k : Nat) : preN d (d.length + k) = preN d d.length * 10 ^ k := by
  induction k with
  | zero => simp
  | succ k ih =>
    rw [← Nat.add_assoc, preN, ih, List.getElem?_eq_none (by omega), Int.pow_succ]
    simp only [Option.getD_none, Int.add_zero]
    rw [Int.mul_left_comm, Int.mul_comm 10 (10 ^ k)]
theorem preN_nonneg {d : List Int} (hd : ∀ x ∈ d, 0 ≤ x ∧ x ≤ 9) : ∀ k, 0 ≤ preN d k
  | 0 => by simp [preN]
  | k + 1 => by
    have := preN_nonneg hd k
    have h2 : 0 ≤ d[k]?.getD 0 := by
      cases h : d[k]? with
      | none => simp
      | some x => exact (hd x (List.mem_of_getElem? h)).1
    unfold preN; omega
theorem preN_rest {d : List Int} (hd : ∀ x ∈ d, 0 ≤ x ∧ x ≤ 9) (k : Nat) : ∀ j : Nat, preN d k * 10 ^ j ≤ preN d (k + j) ∧ preN d (k + j) < (preN d k + 1) * 10 ^ j
  | 0 => by simp; omega
  | j + 1 => by
    have ⟨h1, h2⟩ := preN_rest hd k j
    have h3 : 0 ≤ d[k + j]?.getD 0 ∧ d[k + j]?.getD 0 ≤ 9 := by
      cases h : d[k + j]? with
      | none => simp
      | some x => exact hd x (List.mem_of_getElem? h)
    rw [← Nat.add_assoc, preN, Int.pow_succ, ← Int.mul_assoc, ← Int.mul_assoc]
    omega
theorem preN_last {d : List Int} (hd : ∀ x ∈ d, 0 ≤ x ∧ x ≤ 9) {x : Int} (hx : 0 < x) (hd2 : ∀ y ∈ d ++ [x], 0 ≤ y ∧ y ≤ 9) {k : Nat} (hk : k ≤ d.length) : preN (d ++ [x]) k * 10 ^ (d.length + 1 - k) < preN (d ++ [x]) (d.length + 1) := by
  have h1 := (preN_rest hd2 k (d.length - k)).1
  rw [show k + (d.length - k) = d.length by omega] at h1
  rw [show d.length + 1 - k = d.length - k + 1 by omega, Int.pow_succ, ← Int.mul_assoc, preN, List.getElem?_append_right (Nat.le_refl _), Nat.sub_self]
  simp only [List.getElem?_cons_zero, Option.getD_some]
  omega
theorem preN_app (d e : List Int) : ∀ k, k ≤ d.length → preN (d ++ e) k = preN d k
  | 0, _ => rfl
  | k + 1, h => by rw [preN, preN, preN_app d e k (by omega), List.getElem?_append_left (by omega)]
def valD (d : List Int) : Int := preN d d.length
theorem valD_snoc (d : List Int) (x : Int) : valD (d ++ [x]) = 10 * valD d + x := by
  unfold valD
  rw [List.length_append, List.length_singleton, preN, preN_app d [x] d.length (Nat.le_refl _), List.getElem?_append_right (Nat.le_refl _), Nat.sub_self]
  simp
theorem valD_strip : ∀ (n : Nat) (d : List Int), d.length = n → valD d = valD (stripL d) * 10 ^ (d.length - (stripL d).length) ∧ (stripL d).length ≤ d.length
  | 0, d, h => by
    obtain rfl := List.length_eq_zero_iff.1 h
    simp [stripL, valD, preN]
  | n + 1, d, h => by
    have hne : d ≠ [] := by intro h2; rw [h2] at h; simp at h
    have e := (List.dropLast_concat_getLast hne).symm
    have hl : d.dropLast.length = n := by rw [List.length_dropLast]; omega
    have ih := valD_strip n _ hl
    generalize d.getLast hne = x at *
    generalize d.dropLast = d' at *
    rw [e, stripL_last, valD_snoc]
    by_cases hx : x = 0
    · rw [if_pos hx, ih.1, List.length_append, List.length_singleton, show d'.length + 1 - (stripL d').length = d'.length - (stripL d').length + 1 by omega, Int.pow_succ, hx, ← Int.mul_assoc]
      exact ⟨by rw [Int.add_zero, Int.mul_comm 10, Int.mul_assoc, Int.mul_comm 10 (10 ^ _)], by omega⟩
    · rw [if_neg hx, valD_snoc]
      simp
theorem stripL_end : ∀ (n : Nat) (d : List Int), d.length = n → stripL d = [] ∨ ∃ d' x, stripL d = d' ++ [x] ∧ x ≠ 0
  | 0, d, h => by
    obtain rfl := List.length_eq_zero_iff.1 h
    exact .inl rfl
  | n + 1, d, h => by
    have hne : d ≠ [] := by intro h2; rw [h2] at h; simp at h
    have e := (List.dropLast_concat_getLast hne).symm
    have hl : d.dropLast.length = n := by rw [List.length_dropLast]; omega
    have ih := stripL_end n _ hl
    rw [e, stripL_last]
    by_cases hx : d.getLast hne = 0
    · rw [if_pos hx]; exact ih
    · rw [if_neg hx]; exact .inr ⟨_, _, rfl, hx⟩
theorem ediv_is {a b z : Int} (hb : 0 < b) (h1 : z * b ≤ a) (h2 : a < (z + 1) * b) : a / b = z :=
  Int.le_antisymm (Int.lt_add_one_iff.1 (Int.ediv_lt_of_lt_mul hb h2)) ((Int.le_ediv_iff_mul_le hb).2 h1)
def rndW (bl e : Bool) (r : Int) : Int := if r > 762939453125 ∨ (r = 762939453125 ∧ (e = true ∨ bl = false)) then 1 else 0
theorem near_of (bl : Bool) (U D : Nat) (W : Int) (ρ : Int) (e : Bool) (hD : 0 < D) (hρ : 0 ≤ ρ ∧ ρ < D) (he : e = true ↔ 0 < ρ) (hU : (U : Int) * 1525878906250 = W * D + ρ) :
    sg (nearM bl U D).1 (nearM bl U D).2 = if bl = true then 0 - (W / 1525878906250 + rndW bl e (W % 1525878906250)) else W / 1525878906250 + rndW bl e (W % 1525878906250) := by
  rw [nearM_spec bl U D hD]
  have hW := Int.emod_add_mul_ediv W 1525878906250
  have hr0 := Int.emod_nonneg W (b := 1525878906250) (by decide)
  have hr1 := Int.emod_lt_of_pos W (b := 1525878906250) (by decide)
  generalize W / 1525878906250 = q at *
  generalize W % 1525878906250 = r at *
  have hWD : W * (D : Int) = r * D + 1525878906250 * (q * D) := by rw [← hW, Int.add_mul, Int.mul_assoc]
  have hD' : (0 : Int) < D := by omega
  have g1 : ∀ c : Int, c ≤ r → c * D ≤ r * D := fun c h => Int.mul_le_mul_of_nonneg_right h (by omega)
  have g2 : ∀ c : Int, r ≤ c → r * D ≤ c * D := fun c h => Int.mul_le_mul_of_nonneg_right h (by omega)
  have a1 := g1 762939453125
  have a2 := g1 762939453126
  have a3 := g2 762939453124
  have a4 := g2 762939453125
  have a5 := g1 0 hr0
  have a6 := g2 1525878906249 (by omega)
  have e1 : (q + 1) * (2 * (D : Int)) = 2 * (q * D) + 2 * D := by rw [Int.add_mul, Int.one_mul, ← Int.mul_assoc, Int.mul_comm q 2, Int.mul_assoc]
  have e0 : q * (2 * (D : Int)) = 2 * (q * D) := by rw [← Int.mul_assoc, Int.mul_comm q 2, Int.mul_assoc]
  have e2 : (q + 1 + 1) * (2 * (D : Int)) = 2 * (q * D) + 4 * D := by rw [Int.add_mul, e1]; omega
  have e3 : (0 - q) * (2 * (D : Int)) = 0 - 2 * (q * D) := by rw [Int.sub_mul, e0]; omega
  have e4 : (0 - q + 1) * (2 * (D : Int)) = 2 * D - 2 * (q * D) := by rw [Int.add_mul, e3]; omega
  have e5 : (0 - (q + 1)) * (2 * (D : Int)) = 0 - 2 * (q * D) - 2 * D := by rw [Int.sub_mul, e1]; omega
  generalize q * (D : Int) = Q at *
  generalize r * (D : Int) = A at *
  clear g1 g2 hW
  have u1 : (U : Int) < Q + D := by omega
  have u0 : Q ≤ (U : Int) := by omega
  unfold rndW
  cases bl with
  | false =>
    rw [if_neg (by decide)]
    simp only [sg, Bool.false_eq_true, if_false]
    by_cases h : r ≥ 762939453125
    · rw [if_pos (by by_cases h' : r = 762939453125; exact .inr ⟨h', .inr trivial⟩; exact .inl (by omega))]
      refine ediv_is (by omega) ?_ ?_
      · rw [e1]; omega
      · rw [e2]; omega
    · rw [if_neg (by omega), Int.add_zero]
      refine ediv_is (by omega) ?_ ?_
      · rw [e0]; omega
      · rw [e1]; omega
  | true =>
    rw [if_pos rfl]
    simp only [sg, if_true]
    by_cases h : r > 762939453125 ∨ (r = 762939453125 ∧ e = true)
    · rw [if_pos (by rcases h with h | h <;> simp [h])]
      refine ediv_is (by omega) ?_ ?_
      · rw [e5]; rcases h with h | ⟨h, h2⟩
        · omega
        · have := he.1 h2; omega
      · rw [show 0 - (q + 1) + 1 = 0 - q by omega, e3]; rcases h with h | ⟨h, h2⟩
        · omega
        · have := he.1 h2; omega
    · rw [if_neg (by simp only [Bool.true_eq_false, or_false]; exact h), Int.add_zero]
      have h2 : r = 762939453125 → ¬ 0 < ρ := fun h1 h3 => h (.inr ⟨h1, he.2 h3⟩)
      refine ediv_is (by omega) ?_ ?_
      · rw [e3]; omega
      · rw [e4]; omega
theorem rndZ_W (bl e : Bool) (F : Int) : rndZ bl e F = rndW bl e (F % 1525878906250) := by
  unfold rndZ rndW
  have : F * 65536 % 100000000000000000 = 65536 * (F % 1525878906250) := by omega
  rw [this]
  congr 1
  apply propext
  constructor
  · rintro (h | ⟨h, h2⟩)
    · exact .inl (by omega)
    · exact .inr ⟨by omega, h2⟩
  · rintro (h | ⟨h, h2⟩)
    · exact .inl (by omega)
    · exact .inr ⟨by omega, h2⟩
theorem vZ_W (bl : Bool) {d : List Int} (p : Int) (hp : p ≤ 5) : vZ bl d p = preN d (p + 17).toNat / 1525878906250 + rndW bl (moreB d p) (preN d (p + 17).toNat % 1525878906250) := by
  unfold vZ
  rw [rndZ_W, accZ_pre, accZ_pre]
  rw [show (p + -4 - 1).toNat = 0 by omega, show (p + -4 - 1 + ((5 : Nat) : Int)).toNat = p.toNat by omega, show (p + 1 - 1 + ((17 : Nat) : Int)).toNat = (p + 17).toNat by omega, show (p + 1 - 1).toNat = p.toNat by omega]
  have h0 : preN d 0 = 0 := rfl
  rw [h0]
  have h17 : (10 : Int) ^ 17 = 100000000000000000 := by decide
  rw [h17]
  generalize preN d (p + 17).toNat = W
  generalize preN d p.toNat = I
  have h1 : (W - 100000000000000000 * I) % 1525878906250 = W % 1525878906250 := by omega
  rw [h1]
  omega
end Go.Proofs.YtinjgnaimmenbaaDoor
namespace Go.Proofs.YtinjgnaimmenbaaDoor
open Go.Abs
theorem mul_pow_eq (c : Int) {a b : Nat} (h : a = b) : c * (10 : Int) ^ a = c * 10 ^ b := by rw [h]
theorem up_cast (N : Nat) (P : Int) : (upM N P : Int) * 1525878906250 = N * (10 ^ 17 * 10 ^ P.toNat) := by
  have h : (10 : Int) ^ 17 = 65536 * 1525878906250 := by decide
  unfold upM
  rw [h, Int.natCast_mul, Int.natCast_mul, Int.natCast_pow]
  show (N : Int) * 65536 * (10 : Int) ^ P.toNat * 1525878906250 = _
  generalize (10 : Int) ^ P.toNat = t
  rw [Int.mul_assoc, Int.mul_assoc, Int.mul_comm t, Int.mul_assoc]
theorem val_core (bl : Bool) (ds : List Int) (hd : ∀ x ∈ ds, 0 ≤ x ∧ x ≤ 9) (N : Nat) (hN : (N : Int) = valD ds) (hN1 : 1 ≤ N) (p : Int) (hp : p ≤ 5) :
    refV bl N (p - ds.length) = if bl = true then 0 - vZ bl (stripL ds) p else vZ bl (stripL ds) p := by
  have hU0 : 0 < upM N (p - ds.length) := Nat.mul_pos (Nat.mul_pos hN1 (by decide)) (Nat.pow_pos (by decide))
  have hD0 : 0 < dnM (p - ds.length) := Nat.pow_pos (by decide)
  unfold refV
  rw [decide_eq_true hU0, Bool.and_true, vZ_W bl p hp]
  have hs := valD_strip _ ds rfl
  have hse := stripL_end _ ds rfl
  have hd1 : ∀ x ∈ stripL ds, 0 ≤ x ∧ x ≤ 9 := fun x hx => hd x (by
    have h3 : x ∈ (ds.reverse.dropWhile (· == 0)).reverse := hx
    rw [List.mem_reverse] at h3
    exact List.mem_reverse.1 ((List.dropWhile_sublist _).subset h3))
  generalize stripL ds = d at *
  have hUT := up_cast N (p - ds.length)
  have hDc : (dnM (p - ds.length) : Int) = 10 ^ (0 - (p - ds.length)).toNat := by unfold dnM; rw [Int.natCast_pow]; rfl
  rw [hN, hs.1] at hUT
  generalize upM N (p - ds.length) = U at *
  generalize dnM (p - ds.length) = D at *
  by_cases h : (d.length : Int) ≤ p + 17
  · have hm : moreB d p = false := by unfold moreB; rw [decide_eq_false (show ¬ p + 17 < (d.length : Int) by omega), Bool.and_false]
    have hW : preN d (p + 17).toNat = valD d * 10 ^ ((p + 17).toNat - d.length) := by
      rw [show (p + 17).toNat = d.length + ((p + 17).toNat - d.length) by omega, preN_ge, Nat.add_sub_cancel_left]; rfl
    rw [hm]
    refine near_of bl U D _ 0 false hD0 (by omega) (by simp) ?_
    rw [hUT, hW, hDc, Int.add_zero, Int.mul_assoc, Int.mul_assoc, ← Int.pow_add, ← Int.pow_add, ← Int.pow_add]
    exact mul_pow_eq _ (by omega)
  · rcases hse with rfl | ⟨d', x, rfl, hx⟩
    · exfalso
      rw [hs.1] at hN
      simp [valD, preN] at hN
      omega
    · have hm : moreB (d' ++ [x]) p = true := by unfold moreB; rw [decide_eq_true (show p + 17 < ((d' ++ [x]).length : Int) by omega), Bool.and_true]; simp
      have hl : (d' ++ [x]).length = d'.length + 1 := by simp
      have hx0 : 0 < x := by have := hd1 x (by simp); omega
      have hr := preN_last (fun y hy => hd1 y (by simp [hy])) hx0 hd1 (k := (p + 17).toNat) (by omega)
      have hr2 := (preN_rest hd1 (p + 17).toNat (d'.length + 1 - (p + 17).toNat)).2
      rw [show (p + 17).toNat + (d'.length + 1 - (p + 17).toNat) = d'.length + 1 by omega] at hr2
      have hv : valD (d' ++ [x]) = preN (d' ++ [x]) (d'.length + 1) := by unfold valD; rw [hl]
      rw [hm]
      have hWD : preN (d' ++ [x]) (p + 17).toNat * (D : Int) = preN (d' ++ [x]) (p + 17).toNat * 10 ^ (d'.length + 1 - (p + 17).toNat) * 10 ^ (ds.length - (d'.length + 1) + 17) := by
        by_cases h0 : p + 17 < 0
        · rw [show (p + 17).toNat = 0 by omega]; simp [preN]
        · rw [hDc, Int.mul_assoc, ← Int.pow_add]; exact mul_pow_eq _ (by omega)
      have hP0 : (p - (ds.length : Int)).toNat = 0 := by omega
      rw [hP0, hv, hl, Int.pow_zero, Int.mul_one, Int.mul_assoc, ← Int.pow_add] at hUT
      have hpos : ∀ e : Nat, (0 : Int) < 10 ^ e := fun e => Int.pow_pos (by decide)
      refine near_of bl U D _ ((preN (d' ++ [x]) (d'.length + 1) - preN (d' ++ [x]) (p + 17).toNat * 10 ^ (d'.length + 1 - (p + 17).toNat)) * 10 ^ (ds.length - (d'.length + 1) + 17)) true hD0 ⟨?_, ?_⟩ ⟨fun _ => ?_, fun _ => rfl⟩ ?_
      · exact Int.mul_nonneg (by omega) (Int.le_of_lt (hpos _))
      · have h1 : (preN (d' ++ [x]) (d'.length + 1) - preN (d' ++ [x]) (p + 17).toNat * 10 ^ (d'.length + 1 - (p + 17).toNat)) * 10 ^ (ds.length - (d'.length + 1) + 17) < 10 ^ (d'.length + 1 - (p + 17).toNat) * 10 ^ (ds.length - (d'.length + 1) + 17) :=
          Int.mul_lt_mul_of_pos_right (by rw [Int.add_mul, Int.one_mul] at hr2; omega) (hpos _)
        refine Int.lt_of_lt_of_le h1 ?_
        rw [hDc, ← Int.pow_add]
        have h2 : (10 : Nat) ^ (d'.length + 1 - (p + 17).toNat + (ds.length - (d'.length + 1) + 17)) ≤ 10 ^ (0 - (p - (ds.length : Int))).toNat := Nat.pow_le_pow_right (by decide) (by omega)
        exact_mod_cast h2
      · exact Int.mul_pos (by omega) (hpos _)
      · rw [hWD, Int.sub_mul, hUT]; omega
end Go.Proofs.YtinjgnaimmenbaaDoor
namespace Go.Proofs.YtinjgnaimmenbaaDoor
open Go.Abs
theorem outV_big {z : Int} (h : 4294967296 ≤ z ∨ z ≤ -4294967296) : outV z = .tup [.int .i64 0, .int .i64 2] := if_pos h
theorem near_big (bl : Bool) (U D : Nat) (hD : 0 < D) (h : 4294967297 * D ≤ U) : outV (sg (nearM bl U D).1 (nearM bl U D).2) = .tup [.int .i64 0, .int .i64 2] := by
  rw [nearM_spec bl U D hD]
  have hD2 : (0 : Int) < 2 * D := by omega
  cases bl with
  | false =>
    refine outV_big (.inl ((Int.le_ediv_iff_mul_le hD2).2 ?_))
    simp only [sg, Bool.false_eq_true, if_false]; omega
  | true =>
    refine outV_big (.inr (Int.lt_add_one_iff.1 (Int.ediv_lt_of_lt_mul hD2 ?_)))
    simp only [sg, if_true]; omega
theorem near_small (bl : Bool) (U D : Nat) (hD : 0 < D) (h : 2 * U < D) : outV (sg (nearM bl U D).1 (nearM bl U D).2) = .tup [.int .i64 0, .int .i64 0] := by
  rw [nearM_spec bl U D hD]
  have hD2 : (0 : Int) < 2 * D := by omega
  rw [ediv_is (z := 0) hD2 (by cases bl <;> simp [sg] <;> omega) (by cases bl <;> simp [sg] <;> omega)]
  exact if_neg (by decide)
theorem vZ_nn (bl : Bool) {d : List Int} (hd : ∀ x ∈ d, 0 ≤ x ∧ x ≤ 9) (p : Int) (hp : p ≤ 5) : 0 ≤ vZ bl d p := by
  rw [vZ_W bl p hp]
  have h1 : 0 ≤ preN d (p + 17).toNat / 1525878906250 := Int.ediv_nonneg (preN_nonneg hd _) (by decide)
  have h2 : 0 ≤ rndW bl (moreB d p) (preN d (p + 17).toNat % 1525878906250) := by unfold rndW; split <;> decide
  omega
theorem decR_nil (bl : Bool) (p : Int) : decR bl [] p = .tup [.int .i64 0, .int .i64 0] := by
  have h0 : vZ bl [] p = 0 := by
    unfold vZ
    rw [accZ_pre, accZ_pre]
    simp only [preN_nil]
    have : rndZ bl (moreB [] p) (0 - 10 ^ 17 * 0) = 0 := by rw [Int.mul_zero, Int.sub_zero]; exact if_neg (by simp)
    rw [this]
    simp
  unfold decR
  rw [if_neg (by simp), h0, if_neg (by decide)]
  split <;> rfl
theorem stripL_dig {ds : List Int} (hd : ∀ x ∈ ds, 0 ≤ x ∧ x ≤ 9) : ∀ x ∈ stripL ds, 0 ≤ x ∧ x ≤ 9 := fun y hy => hd y (by
  have h3 : y ∈ (ds.reverse.dropWhile (· == 0)).reverse := hy
  rw [List.mem_reverse] at h3
  exact List.mem_reverse.1 ((List.dropWhile_sublist _).subset h3))
theorem dec_val (bl : Bool) (ds : List Int) (hd : ∀ x ∈ ds, 0 ≤ x ∧ x ≤ 9) (hh : ds = [] ∨ ∃ x l, ds = x :: l ∧ 0 < x) (N : Nat) (hN : (N : Int) = valD ds) (b : Nat) (hb : b ≤ 400) (hl : ds.length ≤ 400)
    (pB pR : Int) (h0 : 0 ≤ pB) (hR : pR = if pB ≤ 1000 then pB else 1000) (dn : Bool) :
    decR bl (stripL ds) ((ds.length : Int) - b + if dn = true then 0 - pB else pB) = outV (refV bl N ((if dn = true then 0 - pR else pR) - b)) := by
  rcases hh with rfl | ⟨x, l, rfl, hx⟩
  · have hN0 : N = 0 := by simp [valD, preN] at hN; omega
    rw [show stripL [] = [] from rfl, decR_nil, hN0]
    refine (near_small _ _ _ (Nat.pow_pos (by decide)) ?_).symm
    have : upM 0 ((if dn = true then 0 - pR else pR) - b) = 0 := by unfold upM; simp
    rw [this]
    exact Nat.pow_pos (by decide)
  · have hlo := (preN_rest hd 1 l.length).1
    have hhi := (preN_rest hd 0 (l.length + 1)).2
    have e1 : preN (x :: l) 1 = x := by simp [preN]
    have e0 : preN (x :: l) 0 = 0 := rfl
    have hl1 : (x :: l).length = l.length + 1 := rfl
    have ev : valD (x :: l) = preN (x :: l) (l.length + 1) := rfl
    rw [e1, Nat.add_comm 1, ← ev, ← hN] at hlo
    rw [e0, Nat.zero_add, ← ev, ← hN, Int.zero_add, Int.one_mul] at hhi
    have hlo2 : 10 ^ l.length ≤ N := by
      have h1 : (1 : Int) * 10 ^ l.length ≤ x * 10 ^ l.length := Int.mul_le_mul_of_nonneg_right (by omega) (Int.le_of_lt (Int.pow_pos (by decide)))
      rw [Int.one_mul] at h1
      have h2 : ((10 ^ l.length : Nat) : Int) ≤ N := by rw [Int.natCast_pow]; exact Int.le_trans h1 hlo
      omega
    have hhi2 : N < 10 ^ (l.length + 1) := by
      have h2 : (N : Int) < ((10 ^ (l.length + 1) : Nat) : Int) := by rw [Int.natCast_pow]; exact hhi
      omega
    have hN1 : 1 ≤ N := Nat.le_trans (Nat.pow_pos (by decide)) hlo2
    have hsl : 0 < (stripL (x :: l)).length := by
      apply Nat.pos_of_ne_zero
      intro h
      have h2 := (valD_strip _ (x :: l) rfl).1
      rw [List.length_eq_zero_iff.1 h] at h2
      simp only [valD, List.length_nil, preN, Int.zero_mul] at h2
      unfold valD at hN
      omega
    have hbl : ∀ P, (bl && decide (0 < upM N P)) = bl := fun P => by
      have h : 0 < upM N P := Nat.mul_pos (Nat.mul_pos hN1 (by decide)) (Nat.pow_pos (by decide))
      rw [decide_eq_true h, Bool.and_true]
    clear hlo hhi e1 e0 ev
    have hn : (x :: l).length = l.length + 1 := rfl
    by_cases hp5 : (((x :: l).length : Int) - b + if dn = true then 0 - pB else pB) > 5
    · rw [show decR bl (stripL (x :: l)) (((x :: l).length : Int) - b + if dn = true then 0 - pB else pB) = .tup [.int .i64 0, .int .i64 2] from if_pos ⟨hp5, hsl⟩]
      unfold refV
      rw [hbl]
      refine (near_big bl _ _ (Nat.pow_pos (by decide)) ?_).symm
      obtain ⟨P, hP⟩ : ∃ P, P = (if dn = true then 0 - pR else pR) - (b : Int) := ⟨_, rfl⟩
      rw [← hP]
      have hP6 : 5 < P + (l.length + 1 : Nat) := by
        cases dn with
        | true =>
          simp only [if_true] at hp5 hP
          split at hR <;> omega
        | false =>
          simp only [Bool.false_eq_true, if_false] at hp5 hP
          split at hR <;> omega
      unfold upM
      by_cases hs : 0 ≤ P
      · rw [show (0 - P).toNat = 0 by omega, Nat.pow_zero]
        have h1 : 10 ^ l.length * 10 ^ P.toNat ≤ N * 10 ^ P.toNat := Nat.mul_le_mul_right _ hlo2
        rw [← Nat.pow_add] at h1
        have h2 : 100000 ≤ 10 ^ (l.length + P.toNat) := Nat.le_trans (by decide : 100000 ≤ 10 ^ 5) (Nat.pow_le_pow_right (by decide) (by omega))
        rw [Nat.mul_assoc, Nat.mul_comm 65536, ← Nat.mul_assoc]
        generalize N * 10 ^ P.toNat = A at *
        generalize 10 ^ (l.length + P.toNat) = B at *
        omega
      · rw [show P.toNat = 0 by omega, Nat.pow_zero, Nat.mul_one]
        have h1 : 10 ^ l.length = 10 ^ (l.length - (0 - P).toNat) * 10 ^ (0 - P).toNat := by rw [← Nat.pow_add]; congr 1; omega
        have h2 : 100000 ≤ 10 ^ (l.length - (0 - P).toNat) := Nat.le_trans (by decide : 100000 ≤ 10 ^ 5) (Nat.pow_le_pow_right (by decide) (by omega))
        have h3 := Nat.mul_le_mul_right (10 ^ (0 - P).toNat) h2
        rw [← h1] at h3
        generalize 10 ^ (0 - P).toNat = A at *
        generalize 10 ^ l.length = B at *
        omega
    · by_cases hc : pB ≤ 1000
      · rw [if_pos hc] at hR
        subst hR
        have hd2 := stripL_dig hd
        have hc2 := val_core bl (x :: l) hd N hN hN1 _ (Int.not_lt.1 hp5)
        have hnn := vZ_nn bl hd2 _ (Int.not_lt.1 hp5)
        rw [show ((x :: l).length : Int) - b + (if dn = true then 0 - pR else pR) - ((x :: l).length : Int) = (if dn = true then 0 - pR else pR) - b by omega] at hc2
        rw [hc2]
        generalize hv : vZ bl (stripL (x :: l)) (((x :: l).length : Int) - b + if dn = true then 0 - pR else pR) = v at *
        have hd1 : decR bl (stripL (x :: l)) (((x :: l).length : Int) - b + if dn = true then 0 - pR else pR) = if v ≥ 4294967296 then .tup [.int .i64 0, .int .i64 2] else if bl = true then .tup [.int .i64 (0 - v), .int .i64 0] else .tup [.int .i64 v, .int .i64 0] := by
          unfold decR
          rw [if_neg (fun h => hp5 h.1), hv]
        rw [hd1]
        unfold outV
        by_cases hb : v ≥ 4294967296
        · rw [if_pos hb, if_pos (by cases bl <;> simp <;> omega)]
        · rw [if_neg hb]
          cases bl with
          | true =>
            simp only [if_true]
            rw [if_neg (by omega)]
          | false =>
            simp only [Bool.false_eq_true, if_false]
            rw [if_neg (by omega)]
      · rw [if_neg hc] at hR
        subst hR
        have hdn : dn = true := by
          cases dn with
          | true => rfl
          | false => simp only [Bool.false_eq_true, if_false] at hp5; omega
        subst hdn
        simp only [if_true] at hp5 ⊢
        have hv : vZ bl (stripL (x :: l)) (((x :: l).length : Int) - b + (0 - pB)) = 0 := by
          rw [vZ_W bl _ (by omega), show (((x :: l).length : Int) - b + (0 - pB) + 17).toNat = 0 by omega]
          simp only [preN]
          have : rndW bl (moreB (stripL (x :: l)) (((x :: l).length : Int) - b + (0 - pB))) (0 % 1525878906250) = 0 := if_neg (by simp)
          rw [this]; rfl
        have hd1 : decR bl (stripL (x :: l)) (((x :: l).length : Int) - b + (0 - pB)) = .tup [.int .i64 0, .int .i64 0] := by
          unfold decR
          rw [if_neg (fun h => hp5 h.1), hv, if_neg (by decide)]
          split <;> rfl
        rw [hd1]
        unfold refV
        refine (near_small _ _ _ (Nat.pow_pos (by decide)) ?_).symm
        unfold upM
        rw [show (0 - (1000 : Int) - b).toNat = 0 by omega, show (0 - (0 - (1000 : Int) - b)).toNat = 1000 + b by omega, Nat.pow_zero, Nat.mul_one]
        have h1 : 10 ^ (l.length + 1) * 10 ^ 6 ≤ 10 ^ (1000 + b) := by
          rw [← Nat.pow_add]; exact Nat.pow_le_pow_right (by decide) (by omega)
        have h6 : 10 ^ 6 = 1000000 := by decide
        rw [h6] at h1
        generalize 10 ^ (l.length + 1) = A at *
        generalize 10 ^ (1000 + b) = B at *
        omega
end Go.Proofs.YtinjgnaimmenbaaDoor
