/- The law ScanNever answers true. No condition. -/
import Derived.Test.YtelgbnjagbleoaaDoorScanW4
set_option linter.unusedSimpArgs false
set_option linter.unusedVariables false
set_option linter.deprecated false
namespace Go.Proofs.YtelgbnjagbleoaaDoor
open Go.Abs
theorem dp_lit {s S A : List UInt8} {B : Option (List UInt8)} {ex} {v : AV} (h : TxtOK S A B ex) (hl : s.length ≤ 400) (hs : s = txt S A B ex) (hv : txtV S A B ex = v) : ACalls seat 25 [.str s] [] (fun x _ => x = .ret v) := by
  subst hs hv; exact c_dparse_txt h hl
set_option maxRecDepth 20000 in
theorem c_wakes : ACalls seat 7 [] [] (fun x _ => x = .ret (.bool true)) := by
  have p1 : ACalls seat 25 [.str [49, 46, 53]] [] (fun x _ => x = .ret (.tup [.int .i64 98304, .int .i64 0])) :=
    dp_lit (S := []) (A := [49]) (B := some [53]) (ex := none) ⟨.inl rfl, by unfold digL; decide, by unfold digL; decide, by decide, trivial⟩ (by decide) rfl (by rfl)
  have p2 : ACalls seat 25 [.str [45, 50]] [] (fun x _ => x = .ret (.tup [.int .i64 (-131072), .int .i64 0])) :=
    dp_lit (S := [45]) (A := [50]) (B := none) (ex := none) ⟨.inr (.inr rfl), by unfold digL; decide, by unfold digL; decide, by decide, trivial⟩ (by decide) rfl (by rfl)
  have c1 := c_numberV [49, 46, 53, 45, 50] 0 3 true 98304 0 (by decide) (by decide) (by rfl) p1
  have c2 := c_numberV [49, 46, 53, 45, 50] 3 5 true (-131072) 0 (by decide) (by decide) (by rfl) p2
  have c3 := c_left [49, 46, 53, 45, 50] 5 (by decide) (by decide)
  rw [if_pos rfl] at c1 c2
  refine ACalls.body seat_ok Tryd.func7 rfl rfl ?_
  unfold rdr at *
  conv => whnf
  refine CallH.body seat_ok Tryd.func9 rfl rfl ?_
  conv => whnf
  refine CallH.mem1 seat_g 0 c1 rfl (by simp [Closed, ClosedL]) (by simp [Closed, ClosedL]) (by simp [Closed, ClosedL]) rfl ?_
  conv => whnf
  refine CallH.mem1 seat_g 0 c2 rfl (by simp [Closed, ClosedL]) (by simp [Closed, ClosedL]) (by simp [Closed, ClosedL]) rfl ?_
  conv => whnf
  refine CallH.mem1 seat_g 0 c3 rfl (by simp [Closed, ClosedL]) (by simp [Closed, ClosedL]) (by simp [Closed, ClosedL]) rfl ?_
  conv => whnf
  rfl
def u8v (l : List Int) : AV := .vec (ci .u8 l) l.length none
set_option maxRecDepth 20000 in
set_option maxHeartbeats 2000000 in
theorem l_scanNever (s : List UInt8) (l : List Int) (hl8 : ∀ a ∈ l, 0 ≤ a ∧ a < 256) : ACalls seat 6 [.str s, u8v l] [] (fun x _ => x = .ret (.bool true)) := by
  refine ACalls.body seat_ok Tryd.func6 rfl rfl ?_
  unfold u8v
  by_cases g1 : s.length ≤ 80
  · by_cases g2 : l.length ≤ 100
    · have g1' : ¬ ((s.length : Int) > 80) := by omega
      have g2' : ¬ ((l.length : Int) > 100) := by omega
      conv => whnf
      refine CallH.lift seat_g c_wakes trivial (by simp [Closed]) ?_
      conv => whnf
      repeat' ((first | refine zq1 (by omega) ?_ | refine zq2 (by omega) ?_ | refine NumH.rem (by omega) ?_ | refine zq4 (by omega) ?_ | refine zq5 (by omega) ?_ | refine zq6 ?_ | refine Req.mk (by omega) ?_ | refine Req.mk (by dsimp only; omega) ?_ | refine Req.mk ⟨rfl, rfl, rfl, by simp [ci_length, *], rfl, by simp [okCell], by dsimp only; omega, by omega, by decide⟩ ?_ | refine Req.mk (show pendP _ _ by repeat' constructor) ?_ | (with_reducible refine brT ?_ ?_; next => assumption) | (with_reducible refine brF ?_ ?_; next => assumption) | (with_reducible refine brDT ?_ ?_; next => omega) | (with_reducible refine brDF ?_ ?_; next => omega) | (with_reducible refine brET ?_ ?_; next => omega) | (with_reducible refine brEF ?_ ?_; next => omega) | (with_reducible refine brNET ?_ ?_; next => omega) | (with_reducible refine brNEF ?_ ?_; next => omega) | with_reducible refine brNot ?_); conv => whnf)
      refine CallH.body seat_ok Tryd.func9 rfl rfl ?_
      conv => whnf
      refine Sat.cut (fun x t h => x = .exit 0 ∧ t = (uu :: uu :: uu :: uu :: uu :: .ptr 0 0 :: uu :: uu :: uu :: uu :: uu :: uu :: uu :: uu :: uu :: uu :: uu :: uu :: uu :: uu :: uu :: uu :: uu :: uu :: uu :: uu :: uu :: uu :: uu :: uu :: uu :: uu :: uu :: uu :: uu :: uu :: uu :: uu :: uu :: uu :: uu :: uu :: uu :: uu :: uu :: uu :: uu :: uu :: uu :: uu :: uu :: uu :: uu :: uu :: uu :: uu :: uu :: uu :: uu :: uu :: uu :: uu :: uu :: uu :: uu :: uu :: uu :: uu :: uu :: uu :: uu :: uu :: uu :: uu :: uu :: uu :: uu :: uu :: uu :: uu :: uu :: uu :: uu :: uu :: uu :: uu :: uu :: uu :: uu :: uu :: uu :: uu :: uu :: uu :: uu :: uu :: uu :: uu :: uu :: uu :: uu :: uu :: uu :: uu :: uu :: uu :: uu :: uu :: [])) ?_ ?_
      · refine Sat.invP seat_ok seat_g (maskOf 108 [0, 5, 27, 28, 29]) 1 (fun μ t h => ∃ (i p : Nat) (z : Int), z = i ∧ i ≤ l.length ∧ p ≤ s.length ∧ μ = l.length - i ∧ t = (.str s :: uu :: uu :: uu :: uu :: .ptr 0 0 :: uu :: uu :: uu :: uu :: uu :: uu :: uu :: uu :: uu :: uu :: uu :: uu :: uu :: uu :: uu :: uu :: uu :: uu :: uu :: uu :: uu :: .vec (ci .u8 l) l.length none :: .int .i64 l.length :: .int .i64 z :: uu :: uu :: uu :: uu :: uu :: uu :: uu :: uu :: uu :: uu :: uu :: uu :: uu :: uu :: uu :: uu :: uu :: uu :: uu :: uu :: uu :: uu :: uu :: uu :: uu :: uu :: uu :: uu :: uu :: uu :: uu :: uu :: uu :: uu :: uu :: uu :: uu :: uu :: uu :: uu :: uu :: uu :: uu :: uu :: uu :: uu :: uu :: uu :: uu :: uu :: uu :: uu :: uu :: uu :: uu :: uu :: uu :: uu :: uu :: uu :: uu :: uu :: uu :: uu :: uu :: uu :: uu :: uu :: uu :: uu :: uu :: uu :: uu :: uu :: uu :: uu :: uu :: uu :: []) ∧ h = [.var (rdr s p) 51])
          ?_ ⟨_, _, WeakL.of_eq rfl, 0, 0, 0, rfl, by omega, by omega, rfl, rfl, rfl⟩ ?_
        · rintro _ _ _ ⟨i, p, z, -, -, -, -, rfl, rfl⟩
          exact ⟨rfl, (by simp [IdsL, Ids, IdsH, IdsC, lv_ids, ci_ids]), by simp [rdr, IdsH, IdsC, IdsL, Ids]⟩
        rintro _ _ _ ⟨i, p, z, hz, hi, hp, rfl, rfl, rfl⟩
        by_cases g : i < l.length
        · obtain ⟨a, ha⟩ : ∃ a, l[z.toNat]? = some a := ⟨_, List.getElem?_eq_getElem (by omega)⟩
          have hab := hl8 a (List.mem_of_getElem? ha)
          have gz : z < l.length := by omega
          have hld := ci_sub .u8 ha
          have ca := c_at s p
          -- the end of a round
          have hr4 : a % 4 = 0 ∨ a % 4 = 1 ∨ a % 4 = 2 ∨ a % 4 = 3 := by omega
          rcases hr4 with h4 | h4 | h4 | h4
          · have cf := c_flag s p hp (by omega)
            obtain ⟨⟨v, e, q⟩, hF⟩ : ∃ r, flR s p = r := ⟨_, rfl⟩
            rw [hF] at cf
            simp only at cf
            have hq : (e = 0 ∧ q = p + 1 ∧ q ≤ s.length) ∨ (e = 3 ∧ q = p) := by
              by_cases gp : p < s.length
              · rw [flR_some (List.getElem?_eq_getElem gp)] at hF
                split at hF
                · cases hF; exact .inl ⟨rfl, rfl, by omega⟩
                · cases hF; exact .inr ⟨rfl, rfl⟩
              · rw [flR_none (by omega)] at hF; cases hF; exact .inr ⟨rfl, rfl⟩
            rcases hq with ⟨rfl, rfl, hq⟩ | ⟨rfl, rfl⟩
            · have cb := c_at s (p + 1)
              have cl := c_left s (p + 1) (by omega) hq
              have hA : ((((p + 1 : Nat) : Int)) == (p : Int) + 1) = true := by simp
              unfold rdr at *
              conv => whnf
              repeat' (first | exact ⟨_, _, Nat.sub_lt_sub_left g (Nat.lt_succ_self i), WeakL.of_eq rfl, i + 1, p + 1, z + 1, by omega, by omega, by omega, rfl, rfl, rfl⟩ | (refine ldI _ hld ?_; conv => whnf) | (refine CallH.mem1 seat_g 0 ca rfl (by simp [Closed, ClosedL]) (by simp [Closed, ClosedL]) (by simp [Closed, ClosedL]) rfl ?_; conv => whnf) | (refine CallH.mem1 seat_g 0 cf rfl (by simp [Closed, ClosedL]) (by simp [Closed, ClosedL]) (by simp [Closed, ClosedL]) rfl ?_; conv => whnf) | (refine CallH.mem1 seat_g 0 cb rfl (by simp [Closed, ClosedL]) (by simp [Closed, ClosedL]) (by simp [Closed, ClosedL]) rfl ?_; conv => whnf) | (refine CallH.mem1 seat_g 0 cl rfl (by simp [Closed, ClosedL]) (by simp [Closed, ClosedL]) (by simp [Closed, ClosedL]) rfl ?_; conv => whnf) | (refine brF (by rw [hA]; rfl) ?_; conv => whnf) | ((first | refine zq1 (by omega) ?_ | refine zq2 (by omega) ?_ | refine NumH.rem (by omega) ?_ | refine zq4 (by omega) ?_ | refine zq5 (by omega) ?_ | refine zq6 ?_ | refine Req.mk (by omega) ?_ | refine Req.mk (by dsimp only; omega) ?_ | refine Req.mk ⟨rfl, rfl, rfl, by simp [ci_length, *], rfl, by simp [okCell], by dsimp only; omega, by omega, by decide⟩ ?_ | refine Req.mk (show pendP _ _ by repeat' constructor) ?_ | (with_reducible refine brT ?_ ?_; next => assumption) | (with_reducible refine brF ?_ ?_; next => assumption) | (with_reducible refine brDT ?_ ?_; next => omega) | (with_reducible refine brDF ?_ ?_; next => omega) | (with_reducible refine brET ?_ ?_; next => omega) | (with_reducible refine brEF ?_ ?_; next => omega) | (with_reducible refine brNET ?_ ?_; next => omega) | (with_reducible refine brNEF ?_ ?_; next => omega) | with_reducible refine brNot ?_); conv => whnf))
            · have cl := c_left s q (by omega) hp
              have hA : (((q : Int)) == (q : Int) + 1) = false := by simp; omega
              unfold rdr at *
              conv => whnf
              repeat' (first | exact ⟨_, _, Nat.sub_lt_sub_left g (Nat.lt_succ_self i), WeakL.of_eq rfl, i + 1, q, z + 1, by omega, by omega, by omega, rfl, rfl, rfl⟩ | (refine ldI _ hld ?_; conv => whnf) | (refine CallH.mem1 seat_g 0 ca rfl (by simp [Closed, ClosedL]) (by simp [Closed, ClosedL]) (by simp [Closed, ClosedL]) rfl ?_; conv => whnf) | (refine CallH.mem1 seat_g 0 cf rfl (by simp [Closed, ClosedL]) (by simp [Closed, ClosedL]) (by simp [Closed, ClosedL]) rfl ?_; conv => whnf) | (refine CallH.mem1 seat_g 0 cl rfl (by simp [Closed, ClosedL]) (by simp [Closed, ClosedL]) (by simp [Closed, ClosedL]) rfl ?_; conv => whnf) | (refine brF (by rw [hA]; rfl) ?_; conv => whnf) | ((first | refine zq1 (by omega) ?_ | refine zq2 (by omega) ?_ | refine NumH.rem (by omega) ?_ | refine zq4 (by omega) ?_ | refine zq5 (by omega) ?_ | refine zq6 ?_ | refine Req.mk (by omega) ?_ | refine Req.mk (by dsimp only; omega) ?_ | refine Req.mk ⟨rfl, rfl, rfl, by simp [ci_length, *], rfl, by simp [okCell], by dsimp only; omega, by omega, by decide⟩ ?_ | refine Req.mk (show pendP _ _ by repeat' constructor) ?_ | (with_reducible refine brT ?_ ?_; next => assumption) | (with_reducible refine brF ?_ ?_; next => assumption) | (with_reducible refine brDT ?_ ?_; next => omega) | (with_reducible refine brDF ?_ ?_; next => omega) | (with_reducible refine brET ?_ ?_; next => omega) | (with_reducible refine brEF ?_ ?_; next => omega) | (with_reducible refine brNET ?_ ?_; next => omega) | (with_reducible refine brNEF ?_ ?_; next => omega) | with_reducible refine brNot ?_); conv => whnf))
          · obtain ⟨v, e, q, hq, he0, he2, hee, cn, -⟩ := num_both s p true hp (by omega)
            have cb := c_at s q
            have cl := c_left s q (by omega) hq.2
            unfold rdr at *
            rcases hee with rfl | rfl | rfl
            · have hpq := he0 rfl
              conv => whnf
              repeat' (first | exact ⟨_, _, Nat.sub_lt_sub_left g (Nat.lt_succ_self i), WeakL.of_eq rfl, i + 1, q, z + 1, by omega, by omega, by omega, rfl, rfl, rfl⟩ | (refine ldI _ hld ?_; conv => whnf) | (refine CallH.mem1 seat_g 0 ca rfl (by simp [Closed, ClosedL]) (by simp [Closed, ClosedL]) (by simp [Closed, ClosedL]) rfl ?_; conv => whnf) | (refine CallH.mem1 seat_g 0 cn rfl (by simp [Closed, ClosedL]) (by simp [Closed, ClosedL]) (by simp [Closed, ClosedL]) rfl ?_; conv => whnf) | (refine CallH.mem1 seat_g 0 cb rfl (by simp [Closed, ClosedL]) (by simp [Closed, ClosedL]) (by simp [Closed, ClosedL]) rfl ?_; conv => whnf) | (refine CallH.mem1 seat_g 0 cl rfl (by simp [Closed, ClosedL]) (by simp [Closed, ClosedL]) (by simp [Closed, ClosedL]) rfl ?_; conv => whnf) | ((first | refine zq1 (by omega) ?_ | refine zq2 (by omega) ?_ | refine NumH.rem (by omega) ?_ | refine zq4 (by omega) ?_ | refine zq5 (by omega) ?_ | refine zq6 ?_ | refine Req.mk (by omega) ?_ | refine Req.mk (by dsimp only; omega) ?_ | refine Req.mk ⟨rfl, rfl, rfl, by simp [ci_length, *], rfl, by simp [okCell], by dsimp only; omega, by omega, by decide⟩ ?_ | refine Req.mk (show pendP _ _ by repeat' constructor) ?_ | (with_reducible refine brT ?_ ?_; next => assumption) | (with_reducible refine brF ?_ ?_; next => assumption) | (with_reducible refine brDT ?_ ?_; next => omega) | (with_reducible refine brDF ?_ ?_; next => omega) | (with_reducible refine brET ?_ ?_; next => omega) | (with_reducible refine brEF ?_ ?_; next => omega) | (with_reducible refine brNET ?_ ?_; next => omega) | (with_reducible refine brNEF ?_ ?_; next => omega) | with_reducible refine brNot ?_); conv => whnf))
            · have hpq := he2 rfl
              subst hpq
              conv => whnf
              repeat' (first | exact ⟨_, _, Nat.sub_lt_sub_left g (Nat.lt_succ_self i), WeakL.of_eq rfl, i + 1, q, z + 1, by omega, by omega, by omega, rfl, rfl, rfl⟩ | (refine ldI _ hld ?_; conv => whnf) | (refine CallH.mem1 seat_g 0 ca rfl (by simp [Closed, ClosedL]) (by simp [Closed, ClosedL]) (by simp [Closed, ClosedL]) rfl ?_; conv => whnf) | (refine CallH.mem1 seat_g 0 cn rfl (by simp [Closed, ClosedL]) (by simp [Closed, ClosedL]) (by simp [Closed, ClosedL]) rfl ?_; conv => whnf) | (refine CallH.mem1 seat_g 0 cl rfl (by simp [Closed, ClosedL]) (by simp [Closed, ClosedL]) (by simp [Closed, ClosedL]) rfl ?_; conv => whnf) | ((first | refine zq1 (by omega) ?_ | refine zq2 (by omega) ?_ | refine NumH.rem (by omega) ?_ | refine zq4 (by omega) ?_ | refine zq5 (by omega) ?_ | refine zq6 ?_ | refine Req.mk (by omega) ?_ | refine Req.mk (by dsimp only; omega) ?_ | refine Req.mk ⟨rfl, rfl, rfl, by simp [ci_length, *], rfl, by simp [okCell], by dsimp only; omega, by omega, by decide⟩ ?_ | refine Req.mk (show pendP _ _ by repeat' constructor) ?_ | (with_reducible refine brT ?_ ?_; next => assumption) | (with_reducible refine brF ?_ ?_; next => assumption) | (with_reducible refine brDT ?_ ?_; next => omega) | (with_reducible refine brDF ?_ ?_; next => omega) | (with_reducible refine brET ?_ ?_; next => omega) | (with_reducible refine brEF ?_ ?_; next => omega) | (with_reducible refine brNET ?_ ?_; next => omega) | (with_reducible refine brNEF ?_ ?_; next => omega) | with_reducible refine brNot ?_); conv => whnf))
            · conv => whnf
              repeat' (first | exact ⟨_, _, Nat.sub_lt_sub_left g (Nat.lt_succ_self i), WeakL.of_eq rfl, i + 1, q, z + 1, by omega, by omega, by omega, rfl, rfl, rfl⟩ | (refine ldI _ hld ?_; conv => whnf) | (refine CallH.mem1 seat_g 0 ca rfl (by simp [Closed, ClosedL]) (by simp [Closed, ClosedL]) (by simp [Closed, ClosedL]) rfl ?_; conv => whnf) | (refine CallH.mem1 seat_g 0 cn rfl (by simp [Closed, ClosedL]) (by simp [Closed, ClosedL]) (by simp [Closed, ClosedL]) rfl ?_; conv => whnf) | (refine CallH.mem1 seat_g 0 cb rfl (by simp [Closed, ClosedL]) (by simp [Closed, ClosedL]) (by simp [Closed, ClosedL]) rfl ?_; conv => whnf) | (refine CallH.mem1 seat_g 0 cl rfl (by simp [Closed, ClosedL]) (by simp [Closed, ClosedL]) (by simp [Closed, ClosedL]) rfl ?_; conv => whnf) | ((first | refine zq1 (by omega) ?_ | refine zq2 (by omega) ?_ | refine NumH.rem (by omega) ?_ | refine zq4 (by omega) ?_ | refine zq5 (by omega) ?_ | refine zq6 ?_ | refine Req.mk (by omega) ?_ | refine Req.mk (by dsimp only; omega) ?_ | refine Req.mk ⟨rfl, rfl, rfl, by simp [ci_length, *], rfl, by simp [okCell], by dsimp only; omega, by omega, by decide⟩ ?_ | refine Req.mk (show pendP _ _ by repeat' constructor) ?_ | (with_reducible refine brT ?_ ?_; next => assumption) | (with_reducible refine brF ?_ ?_; next => assumption) | (with_reducible refine brDT ?_ ?_; next => omega) | (with_reducible refine brDF ?_ ?_; next => omega) | (with_reducible refine brET ?_ ?_; next => omega) | (with_reducible refine brEF ?_ ?_; next => omega) | (with_reducible refine brNET ?_ ?_; next => omega) | (with_reducible refine brNEF ?_ ?_; next => omega) | with_reducible refine brNot ?_); conv => whnf))
          · have cg := c_gap s p hp (by omega)
            have hin := gap_in s p hp
            rw [show decide (0 < gapN (s.drop p)) = decide (((p + gapN (s.drop p) : Nat) : Int) > (p : Int)) from decide_eq_decide.2 (by omega)] at cg
            generalize hq : p + gapN (s.drop p) = q at *
            have hpq : p ≤ q := by omega
            have cb := c_at s q
            have cl := c_left s q (by omega) hin
            clear hq
            unfold rdr at *
            conv => whnf
            repeat' (first | exact ⟨_, _, Nat.sub_lt_sub_left g (Nat.lt_succ_self i), WeakL.of_eq rfl, i + 1, q, z + 1, by omega, by omega, by omega, rfl, rfl, rfl⟩ | (refine ldI _ hld ?_; conv => whnf) | (refine CallH.mem1 seat_g 0 ca rfl (by simp [Closed, ClosedL]) (by simp [Closed, ClosedL]) (by simp [Closed, ClosedL]) rfl ?_; conv => whnf) | (refine CallH.mem1 seat_g 0 cg rfl (by simp [Closed, ClosedL]) (by simp [Closed, ClosedL]) (by simp [Closed, ClosedL]) rfl ?_; conv => whnf) | (refine CallH.mem1 seat_g 0 cb rfl (by simp [Closed, ClosedL]) (by simp [Closed, ClosedL]) (by simp [Closed, ClosedL]) rfl ?_; conv => whnf) | (refine CallH.mem1 seat_g 0 cl rfl (by simp [Closed, ClosedL]) (by simp [Closed, ClosedL]) (by simp [Closed, ClosedL]) rfl ?_; conv => whnf) | (refine brF (bne_self_eq_false _) ?_; conv => whnf) | ((first | refine zq1 (by omega) ?_ | refine zq2 (by omega) ?_ | refine NumH.rem (by omega) ?_ | refine zq4 (by omega) ?_ | refine zq5 (by omega) ?_ | refine zq6 ?_ | refine Req.mk (by omega) ?_ | refine Req.mk (by dsimp only; omega) ?_ | refine Req.mk ⟨rfl, rfl, rfl, by simp [ci_length, *], rfl, by simp [okCell], by dsimp only; omega, by omega, by decide⟩ ?_ | refine Req.mk (show pendP _ _ by repeat' constructor) ?_ | (with_reducible refine brT ?_ ?_; next => assumption) | (with_reducible refine brF ?_ ?_; next => assumption) | (with_reducible refine brDT ?_ ?_; next => omega) | (with_reducible refine brDF ?_ ?_; next => omega) | (with_reducible refine brET ?_ ?_; next => omega) | (with_reducible refine brEF ?_ ?_; next => omega) | (with_reducible refine brNET ?_ ?_; next => omega) | (with_reducible refine brNEF ?_ ?_; next => omega) | with_reducible refine brNot ?_); conv => whnf))
          · have ck := c_skip s p hp (by omega)
            have hpq : p ≤ min (p + 1) s.length ∧ min (p + 1) s.length ≤ s.length := by omega
            generalize min (p + 1) s.length = q at *
            have cb := c_at s q
            have cl := c_left s q (by omega) hpq.2
            unfold rdr at *
            conv => whnf
            repeat' (first | exact ⟨_, _, Nat.sub_lt_sub_left g (Nat.lt_succ_self i), WeakL.of_eq rfl, i + 1, q, z + 1, by omega, by omega, by omega, rfl, rfl, rfl⟩ | (refine ldI _ hld ?_; conv => whnf) | (refine CallH.mem1 seat_g 0 ca rfl (by simp [Closed, ClosedL]) (by simp [Closed, ClosedL]) (by simp [Closed, ClosedL]) rfl ?_; conv => whnf) | (refine CallH.mem1 seat_g 0 ck rfl (by simp [Closed, ClosedL]) (by simp [Closed, ClosedL]) (by simp [Closed, ClosedL]) rfl ?_; conv => whnf) | (refine CallH.mem1 seat_g 0 cb rfl (by simp [Closed, ClosedL]) (by simp [Closed, ClosedL]) (by simp [Closed, ClosedL]) rfl ?_; conv => whnf) | (refine CallH.mem1 seat_g 0 cl rfl (by simp [Closed, ClosedL]) (by simp [Closed, ClosedL]) (by simp [Closed, ClosedL]) rfl ?_; conv => whnf) | ((first | refine zq1 (by omega) ?_ | refine zq2 (by omega) ?_ | refine NumH.rem (by omega) ?_ | refine zq4 (by omega) ?_ | refine zq5 (by omega) ?_ | refine zq6 ?_ | refine Req.mk (by omega) ?_ | refine Req.mk (by dsimp only; omega) ?_ | refine Req.mk ⟨rfl, rfl, rfl, by simp [ci_length, *], rfl, by simp [okCell], by dsimp only; omega, by omega, by decide⟩ ?_ | refine Req.mk (show pendP _ _ by repeat' constructor) ?_ | (with_reducible refine brT ?_ ?_; next => assumption) | (with_reducible refine brF ?_ ?_; next => assumption) | (with_reducible refine brDT ?_ ?_; next => omega) | (with_reducible refine brDF ?_ ?_; next => omega) | (with_reducible refine brET ?_ ?_; next => omega) | (with_reducible refine brEF ?_ ?_; next => omega) | (with_reducible refine brNET ?_ ?_; next => omega) | (with_reducible refine brNEF ?_ ?_; next => omega) | with_reducible refine brNot ?_); conv => whnf))
        · obtain rfl : i = l.length := by omega
          have gz : ¬ (z < l.length) := by omega
          conv => whnf
          repeat' ((first | refine zq1 (by omega) ?_ | refine zq2 (by omega) ?_ | refine NumH.rem (by omega) ?_ | refine zq4 (by omega) ?_ | refine zq5 (by omega) ?_ | refine zq6 ?_ | refine Req.mk (by omega) ?_ | refine Req.mk (by dsimp only; omega) ?_ | refine Req.mk ⟨rfl, rfl, rfl, by simp [ci_length, *], rfl, by simp [okCell], by dsimp only; omega, by omega, by decide⟩ ?_ | refine Req.mk (show pendP _ _ by repeat' constructor) ?_ | (with_reducible refine brT ?_ ?_; next => assumption) | (with_reducible refine brF ?_ ?_; next => assumption) | (with_reducible refine brDT ?_ ?_; next => omega) | (with_reducible refine brDF ?_ ?_; next => omega) | (with_reducible refine brET ?_ ?_; next => omega) | (with_reducible refine brEF ?_ ?_; next => omega) | (with_reducible refine brNET ?_ ?_; next => omega) | (with_reducible refine brNEF ?_ ?_; next => omega) | with_reducible refine brNot ?_); conv => whnf)
          exact ⟨_, keepT_weak (maskOf 108 [5]) _, rfl, rfl⟩
      · rintro _ _ _ ⟨rfl, rfl⟩
        conv => whnf
        rfl
    · have g1' : ¬ ((s.length : Int) > 80) := by omega
      have g2' : (l.length : Int) > 100 := by omega
      conv => whnf
      refine CallH.lift seat_g c_wakes trivial (by simp [Closed]) ?_
      conv => whnf
      repeat' ((first | refine zq1 (by omega) ?_ | refine zq2 (by omega) ?_ | refine NumH.rem (by omega) ?_ | refine zq4 (by omega) ?_ | refine zq5 (by omega) ?_ | refine zq6 ?_ | refine Req.mk (by omega) ?_ | refine Req.mk (by dsimp only; omega) ?_ | refine Req.mk ⟨rfl, rfl, rfl, by simp [ci_length, *], rfl, by simp [okCell], by dsimp only; omega, by omega, by decide⟩ ?_ | refine Req.mk (show pendP _ _ by repeat' constructor) ?_ | (with_reducible refine brT ?_ ?_; next => assumption) | (with_reducible refine brF ?_ ?_; next => assumption) | (with_reducible refine brDT ?_ ?_; next => omega) | (with_reducible refine brDF ?_ ?_; next => omega) | (with_reducible refine brET ?_ ?_; next => omega) | (with_reducible refine brEF ?_ ?_; next => omega) | (with_reducible refine brNET ?_ ?_; next => omega) | (with_reducible refine brNEF ?_ ?_; next => omega) | with_reducible refine brNot ?_); conv => whnf)
      rfl
  · have g1' : (s.length : Int) > 80 := by omega
    conv => whnf
    refine CallH.lift seat_g c_wakes trivial (by simp [Closed]) ?_
    conv => whnf
    repeat' ((first | refine zq1 (by omega) ?_ | refine zq2 (by omega) ?_ | refine NumH.rem (by omega) ?_ | refine zq4 (by omega) ?_ | refine zq5 (by omega) ?_ | refine zq6 ?_ | refine Req.mk (by omega) ?_ | refine Req.mk (by dsimp only; omega) ?_ | refine Req.mk ⟨rfl, rfl, rfl, by simp [ci_length, *], rfl, by simp [okCell], by dsimp only; omega, by omega, by decide⟩ ?_ | refine Req.mk (show pendP _ _ by repeat' constructor) ?_ | (with_reducible refine brT ?_ ?_; next => assumption) | (with_reducible refine brF ?_ ?_; next => assumption) | (with_reducible refine brDT ?_ ?_; next => omega) | (with_reducible refine brDF ?_ ?_; next => omega) | (with_reducible refine brET ?_ ?_; next => omega) | (with_reducible refine brEF ?_ ?_; next => omega) | (with_reducible refine brNET ?_ ?_; next => omega) | (with_reducible refine brNEF ?_ ?_; next => omega) | with_reducible refine brNot ?_); conv => whnf)
    rfl
end Go.Proofs.YtelgbnjagbleoaaDoor
