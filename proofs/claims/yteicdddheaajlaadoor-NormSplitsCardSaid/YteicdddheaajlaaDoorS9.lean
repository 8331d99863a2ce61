/- Definitions and lemmas for the law, part 9. No condition beyond those in each statement. -/
import Derived.Test.YteicdddheaajlaaDoorS8
set_option linter.unusedSimpArgs false
set_option linter.unusedVariables false
set_option linter.deprecated false
namespace Go.Proofs.YteicdddheaajlaaDoor
open Go.Abs
set_option maxRecDepth 20000 in
set_option maxHeartbeats 4000000 in
theorem c_walkP (s : List UInt8) (hl : s.length ≤ 400) (G : List (UInt8 × List Int)) (e : Int) (q : Nat) (hG : pathR s = (G, e, q)) :
    ACalls seat 28 [.str s, .fn 29 [] [.ptr 0 0]] [.var [.vec [] 0 (some 1)] 32, .tok 0 37 2] (fun x h => x = .ret (.tup [.int .i64 (if e = 0 then -1 else (q : Nat)), .int .i64 e]) ∧ ∃ r, h = .var [.vec (cs cmdC G) G.length (some 1)] 32 :: .tok G.length 37 2 :: r) := by
  unfold pathR at hG
  refine ACalls.body seat_ok Tryd.func28 rfl rfl ?_
  have cb0 := c_blanks s 0 (by omega) (by omega)
  have hin0 := blk_in s 0 (by omega)
  rw [Nat.zero_add, List.drop_zero] at cb0 hin0
  unfold rdr at cb0
  conv => whnf
  refine Sat.scope seat_ok ?_
  conv => whnf
  refine CallH.body seat_ok Tryd.func39 rfl rfl ?_
  conv => whnf
  refine CallH.mem1 seat_g 2 cb0 rfl (by simp [Closed, ClosedL]) (by simp [Closed, ClosedL]) (by simp [Closed, ClosedL]) rfl ?_
  conv => whnf
  refine Sat.cut (fun x t h => (∃ r, h = .var [.vec (cs cmdC G) G.length (some 1)] 32 :: .tok G.length 37 2 :: r) ∧ ((x = .ret ∧ e ≠ 0 ∧ t = (uu::uu::uu::uu::.int .i64 (q : Nat)::.int .i64 e::uu::uu::uu::uu::uu::uu::uu::uu::uu::uu::uu::uu::uu::uu::uu::uu::uu::uu::uu::uu::uu::uu::uu::uu::uu::uu::uu::uu::uu::uu::uu::uu::uu::uu::uu::uu::uu::uu::uu::uu::uu::uu::uu::uu::uu::uu::uu::uu::uu::uu::uu::uu::uu::uu::uu::uu::uu::uu::uu::uu::uu::uu::uu::uu::uu::uu::uu::uu::uu::uu::uu::uu::uu::uu::uu::uu::uu::uu::uu::uu::uu::[])) ∨ (x = .exit 0 ∧ e = 0 ∧ t = (uu::uu::uu::uu::uu::uu::uu::uu::uu::uu::uu::uu::uu::uu::uu::uu::uu::uu::uu::uu::uu::uu::uu::uu::uu::uu::uu::uu::uu::uu::uu::uu::uu::uu::uu::uu::uu::uu::uu::uu::uu::uu::uu::uu::uu::uu::uu::uu::uu::uu::uu::uu::uu::uu::uu::uu::uu::uu::uu::uu::uu::uu::uu::uu::uu::uu::uu::uu::uu::uu::uu::uu::uu::uu::uu::uu::uu::uu::uu::uu::uu::uu::uu::uu::uu::uu::uu::[])))) ?_ ?_
  · refine Sat.invP seat_ok seat_g (maskOf 87 [1, 6, 7]) 3 (fun μ t h => ∃ (fuel : Nat) (first : Bool) (p : Nat) (L : List (UInt8 × List Int)), p ≤ s.length ∧ s.length < p + fuel ∧ L.length ≤ p ∧ Fin6 G e q L (walkR s fuel first p) ∧ μ = s.length - p ∧
        t = (uu::.fn 29 [] [.ptr 0 0]::uu::uu::uu::uu::.ptr 2 0::.bool first::uu::uu::uu::uu::uu::uu::uu::uu::uu::uu::uu::uu::uu::uu::uu::uu::uu::uu::uu::uu::uu::uu::uu::uu::uu::uu::uu::uu::uu::uu::uu::uu::uu::uu::uu::uu::uu::uu::uu::uu::uu::uu::uu::uu::uu::uu::uu::uu::uu::uu::uu::uu::uu::uu::uu::uu::uu::uu::uu::uu::uu::uu::uu::uu::uu::uu::uu::uu::uu::uu::uu::uu::uu::uu::uu::uu::uu::uu::uu::[]) ∧ h = [.var [.vec (cs cmdC L) L.length (some 1)] 32, .tok L.length 37 2, .var (rdr s p) 107])
      ?_ ⟨_, _, WeakL.of_eq rfl, s.length + 1, true, blk s, [], hin0, by omega, by simp, ⟨by have := congrArg (·.1) hG; simpa using this, congrArg (·.2.1) hG, fun _ => congrArg (·.2.2) hG⟩, rfl, rfl, rfl⟩ ?_
    · rintro _ _ _ ⟨fuel, first, p, L, -, -, -, -, -, rfl, rfl⟩
      exact ⟨rfl, (by simp [IdsL, Ids, IdsH, IdsC, lv_ids, ci_ids]), by simp [rdr, IdsH, IdsC, IdsL, Ids, cmd_ids]⟩
    rintro _ _ _ ⟨fuel, first, p, L, hp, hfu, hLp, hF, rfl, rfl, rfl⟩
    have cl := c_left s p (by omega) hp
    obtain ⟨n, rfl⟩ : ∃ n, fuel = n + 1 := ⟨fuel - 1, by omega⟩
    by_cases g : p < s.length
    · obtain ⟨c, hc⟩ : ∃ c, s[p]? = some c := ⟨_, List.getElem?_eq_getElem g⟩
      have cp := c_peekS s p c hc (by omega)
      have cf := c_pof c.toNat ⟨by omega, by have := c.toNat_lt; omega⟩
      have hg0 : (s.length : Int) - p > 0 := by omega
      have ca := c_at s p
      unfold pofV at cf
      cases hx : ofN c.toNat with
      | none =>
        obtain ⟨rfl, rfl, rfl⟩ := hF.bad hc (.inl hx)
        rw [hx] at cf
        simp only at cf
        clear hF hG
        unfold rdr at *
        conv => whnf
        repeat' (first | exact ⟨_, keepT_weak (maskOf 87 [4, 5]) _, ⟨_, rfl⟩, .inl ⟨rfl, by decide, rfl⟩⟩ | (refine CallH.mem1 seat_g 2 cl rfl (by simp [Closed, ClosedL]) (by simp [Closed, ClosedL]) (by simp [Closed, ClosedL, lv_closed]) rfl ?_; conv => whnf) | (refine CallH.mem1 seat_g 2 cp rfl (by simp [Closed, ClosedL]) (by simp [Closed, ClosedL]) (by simp [Closed, ClosedL, lv_closed]) rfl ?_; conv => whnf) | (refine lf seat_g cf ?_; conv => whnf) | (refine CallH.mem1 seat_g 2 ca rfl (by simp [Closed, ClosedL]) (by simp [Closed, ClosedL]) (by simp [Closed, ClosedL, lv_closed]) rfl ?_; conv => whnf) | ((first | refine zs (by omega) ?_ | refine zq6 ?_ | refine zs (by dsimp only; omega) ?_ | refine zs (show pendP _ _ by repeat' constructor) ?_ | (with_reducible first | refine brT ‹_› ?_ | refine brF ‹_› ?_ | refine zt (by omega) ?_ | refine zf (by omega) ?_ | refine brNot ?_)); conv => whnf))
      | some x =>
        rw [hx] at cf
        simp only at cf
        by_cases hf : first = true ∧ x.1 ≠ 77
        · obtain ⟨rfl, rfl, rfl⟩ := hF.bad hc (.inr ⟨x, hx, hf⟩)
          obtain ⟨rfl, hf2⟩ := hf
          clear hF hG
          unfold rdr at *
          conv => whnf
          repeat' (first | exact ⟨_, keepT_weak (maskOf 87 [4, 5]) _, ⟨_, rfl⟩, .inl ⟨rfl, by decide, rfl⟩⟩ | (refine CallH.mem1 seat_g 2 cl rfl (by simp [Closed, ClosedL]) (by simp [Closed, ClosedL]) (by simp [Closed, ClosedL, lv_closed]) rfl ?_; conv => whnf) | (refine CallH.mem1 seat_g 2 cp rfl (by simp [Closed, ClosedL]) (by simp [Closed, ClosedL]) (by simp [Closed, ClosedL, lv_closed]) rfl ?_; conv => whnf) | (refine lf seat_g cf ?_; conv => whnf) | (refine CallH.mem1 seat_g 2 ca rfl (by simp [Closed, ClosedL]) (by simp [Closed, ClosedL]) (by simp [Closed, ClosedL, lv_closed]) rfl ?_; conv => whnf) | ((first | refine zs (by omega) ?_ | refine zq6 ?_ | refine zs (by dsimp only; omega) ?_ | refine zs (show pendP _ _ by repeat' constructor) ?_ | (with_reducible first | refine brT ‹_› ?_ | refine brF ‹_› ?_ | refine zt (by omega) ?_ | refine zf (by omega) ?_ | refine brNot ?_)); conv => whnf))
        · obtain ⟨hk, hal, hh, hx8⟩ := sign_ok hx
          have ck := c_skip s p hp (by omega)
          rw [Nat.min_eq_left (by omega)] at ck
          have c2 := c_blanks s (p + 1) (by omega) (by omega)
          have hin := blk_in s (p + 1) (by omega)
          obtain ⟨p1, hp1⟩ : ∃ p1, p1 = p + 1 + blk (s.drop (p + 1)) := ⟨_, rfl⟩
          have hpp : p < p1 := by omega
          have hcl := cmd_length L
          have hll : ∀ v, (L ++ [(c, v)]).length = L.length + 1 := fun v => by simp
          obtain ⟨a1, args⟩ := x
          simp only at hf hk hal hh hx8 cf hin
          by_cases ha : args = []
          · have hF2 := hF.alone hc hx hf ha
            rw [← hp1] at hF2 c2 hin
            subst ha
            clear hF hG
            unfold rdr at *
            cases first with
            | true =>
              have h77 : a1 = 77 := Classical.byContradiction fun h => hf ⟨rfl, h⟩
              conv => whnf
              repeat' (first | exact ⟨_, _, show s.length - p1 < s.length - p by omega, WeakL.of_eq rfl, n, false, p1, L ++ [(c, [])], hin, by omega, by rw [hll]; omega, hF2, rfl, rfl, by rw [cmd_snoc, hll]; rfl⟩ | (refine CallH.mem1 seat_g 2 cl rfl (by simp [Closed, ClosedL]) (by simp [Closed, ClosedL]) (by simp [Closed, ClosedL, lv_closed]) rfl ?_; conv => whnf) | (refine CallH.mem1 seat_g 2 cp rfl (by simp [Closed, ClosedL]) (by simp [Closed, ClosedL]) (by simp [Closed, ClosedL, lv_closed]) rfl ?_; conv => whnf) | (refine lf seat_g cf ?_; conv => whnf) | (refine CallH.mem1 seat_g 2 ck rfl (by simp [Closed, ClosedL]) (by simp [Closed, ClosedL]) (by simp [Closed, ClosedL, lv_closed]) rfl ?_; conv => whnf) | (refine CallH.mem1 seat_g 2 c2 rfl (by simp [Closed, ClosedL]) (by simp [Closed, ClosedL]) (by simp [Closed, ClosedL, lv_closed]) rfl ?_; conv => whnf) | (refine CallH.weakA (WeakL.cons (Weak.agg (WeakL.cons (Weak.refl _) (WeakL.cons Weak.nils (WeakL.refl _)))) (WeakL.refl _)) ?_; refine CallH.body seat_ok Tryd.func29 rfl rfl ?_; conv => whnf) | (refine Req.mk ⟨rfl, rfl, rfl, hcl, rfl, by simp [okCell], by dsimp only; omega, by omega, by decide⟩ ?_; conv => whnf) | ((first | refine zs (by omega) ?_ | refine zq6 ?_ | refine zs (by dsimp only; omega) ?_ | refine zs (show pendP _ _ by repeat' constructor) ?_ | (with_reducible first | refine brT ‹_› ?_ | refine brF ‹_› ?_ | refine zt (by omega) ?_ | refine zf (by omega) ?_ | refine brNot ?_)); conv => whnf))
            | false =>
              conv => whnf
              repeat' (first | exact ⟨_, _, show s.length - p1 < s.length - p by omega, WeakL.of_eq rfl, n, false, p1, L ++ [(c, [])], hin, by omega, by rw [hll]; omega, hF2, rfl, rfl, by rw [cmd_snoc, hll]; rfl⟩ | (refine CallH.mem1 seat_g 2 cl rfl (by simp [Closed, ClosedL]) (by simp [Closed, ClosedL]) (by simp [Closed, ClosedL, lv_closed]) rfl ?_; conv => whnf) | (refine CallH.mem1 seat_g 2 cp rfl (by simp [Closed, ClosedL]) (by simp [Closed, ClosedL]) (by simp [Closed, ClosedL, lv_closed]) rfl ?_; conv => whnf) | (refine lf seat_g cf ?_; conv => whnf) | (refine CallH.mem1 seat_g 2 ck rfl (by simp [Closed, ClosedL]) (by simp [Closed, ClosedL]) (by simp [Closed, ClosedL, lv_closed]) rfl ?_; conv => whnf) | (refine CallH.mem1 seat_g 2 c2 rfl (by simp [Closed, ClosedL]) (by simp [Closed, ClosedL]) (by simp [Closed, ClosedL, lv_closed]) rfl ?_; conv => whnf) | (refine CallH.weakA (WeakL.cons (Weak.agg (WeakL.cons (Weak.refl _) (WeakL.cons Weak.nils (WeakL.refl _)))) (WeakL.refl _)) ?_; refine CallH.body seat_ok Tryd.func29 rfl rfl ?_; conv => whnf) | (refine Req.mk ⟨rfl, rfl, rfl, hcl, rfl, by simp [okCell], by dsimp only; omega, by omega, by decide⟩ ?_; conv => whnf) | ((first | refine zs (by omega) ?_ | refine zq6 ?_ | refine zs (by dsimp only; omega) ?_ | refine zs (show pendP _ _ by repeat' constructor) ?_ | (with_reducible first | refine brT ‹_› ?_ | refine brF ‹_› ?_ | refine zt (by omega) ?_ | refine zf (by omega) ?_ | refine brNot ?_)); conv => whnf))
          · have hF2 := hF.runs hc hx hf ha
            rw [← hp1] at hF2 c2 hin
            obtain ⟨k, r, rfl, hk2⟩ : ∃ k r, args = k :: r ∧ (k = 110 ∨ k = 117) := by
              rcases hh with h | h
              · exact absurd h ha
              · exact h
            clear hF hG
            have h77 : first = true → a1 = 77 := fun h => Classical.byContradiction fun h2 => hf ⟨h, h2⟩
            unfold rdr
            unfold rdr at cl cp ck c2
            have hhead : ∀ q2, moreR s ((k :: r).head? == some 110) q2 = moreR s (k == 110) q2 := fun _ => rfl
            have hrl : r.length ≤ 100 := by simp only [List.length_cons] at hal; omega
            clear hf hx hcl hll
            cases first
            all_goals try have h78 := h77 rfl
            all_goals
              conv => whnf
              repeat' (first | (refine CallH.mem1 seat_g 2 cl rfl (by simp [Closed, ClosedL]) (by simp [Closed, ClosedL]) (by simp [Closed, ClosedL, lv_closed]) rfl ?_; conv => whnf) | (refine CallH.mem1 seat_g 2 cp rfl (by simp [Closed, ClosedL]) (by simp [Closed, ClosedL]) (by simp [Closed, ClosedL, lv_closed]) rfl ?_; conv => whnf) | (refine lf seat_g cf ?_; conv => whnf) | (refine CallH.mem1 seat_g 2 ck rfl (by simp [Closed, ClosedL]) (by simp [Closed, ClosedL]) (by simp [Closed, ClosedL, lv_closed]) rfl ?_; conv => whnf) | (refine CallH.mem1 seat_g 2 c2 rfl (by simp [Closed, ClosedL]) (by simp [Closed, ClosedL]) (by simp [Closed, ClosedL, lv_closed]) rfl ?_; conv => whnf) | ((first | refine zs (by omega) ?_ | refine zq6 ?_ | refine zs (by dsimp only; omega) ?_ | refine zs (show pendP _ _ by repeat' constructor) ?_ | (with_reducible first | refine brT ‹_› ?_ | refine brF ‹_› ?_ | refine zt (by omega) ?_ | refine zf (by omega) ?_ | refine brNot ?_)); conv => whnf))
            all_goals
              refine Sat.cut (fun x t h => (x = .ret ∧ e ≠ 0 ∧ t = (uu::uu::uu::uu::.int .i64 (q : Nat)::.int .i64 e::uu::uu::uu::uu::uu::uu::uu::uu::uu::uu::uu::uu::uu::uu::uu::uu::uu::uu::uu::uu::uu::uu::uu::uu::uu::uu::uu::uu::uu::uu::uu::uu::uu::uu::uu::uu::uu::uu::uu::uu::uu::uu::uu::uu::uu::uu::uu::uu::uu::uu::uu::uu::uu::uu::uu::uu::uu::uu::uu::uu::uu::uu::uu::uu::uu::uu::uu::uu::uu::uu::uu::uu::uu::uu::uu::uu::uu::uu::uu::uu::uu::[]) ∧ ∃ r, h = .var [.vec (cs cmdC G) G.length (some 1)] 32 :: .tok G.length 37 2 :: r) ∨
                (x = .exit 1 ∧ ∃ (p3 : Nat) (L3 : List (UInt8 × List Int)), p < p3 ∧ p3 ≤ s.length ∧ L3.length ≤ p3 ∧ Fin6 G e q L3 (walkR s n false p3) ∧ t = (uu::.fn 29 [] [.ptr 0 0]::uu::uu::uu::uu::.ptr 2 0::.bool false::uu::uu::uu::uu::uu::uu::uu::uu::uu::uu::uu::uu::uu::uu::uu::uu::uu::uu::uu::uu::uu::uu::uu::uu::uu::uu::uu::uu::uu::uu::uu::uu::uu::uu::uu::uu::uu::uu::uu::uu::uu::uu::uu::uu::uu::uu::uu::uu::uu::uu::uu::uu::uu::uu::uu::uu::uu::uu::uu::uu::uu::uu::uu::uu::uu::uu::uu::uu::uu::uu::uu::uu::uu::uu::uu::uu::uu::uu::uu::[]) ∧ ∃ r, h = .var [.vec (cs cmdC L3) L3.length (some 1)] 32 :: .tok L3.length 37 2 :: .var [.str s, .int .i64 (p3 : Nat)] 107 :: r)) ?_ ?_
              · refine Sat.invP seat_ok seat_g (maskOf 87 [1, 6, 7, 8, 10]) 4 (fun μ t h => ∃ (m : Nat) (d : UInt8) (p2 : Nat) (L2 : List (UInt8 × List Int)), p < p2 ∧ p2 ≤ s.length ∧ s.length < p2 + m ∧ L2.length < p2 ∧ FinG G e q L2 s n (runR s (k :: r) m d p2) ∧ μ = s.length - p2 ∧
                    t = (uu::.fn 29 [] [.ptr 0 0]::uu::uu::uu::uu::.ptr 2 0::.bool false::.int .u8 d.toNat::uu::.ptr 3 0::uu::uu::uu::uu::uu::uu::uu::uu::uu::uu::uu::uu::uu::uu::uu::uu::uu::uu::uu::uu::uu::uu::uu::uu::uu::uu::uu::uu::uu::uu::uu::uu::uu::uu::uu::uu::uu::uu::uu::uu::uu::uu::uu::uu::uu::uu::uu::uu::uu::uu::uu::uu::uu::uu::uu::uu::uu::uu::uu::uu::uu::uu::uu::uu::uu::uu::uu::uu::uu::uu::uu::uu::uu::uu::uu::uu::[]) ∧ h = .var [.vec (cs cmdC L2) L2.length (some 1)] 32 :: .tok L2.length 37 2 :: .var [.str s, .int .i64 (p2 : Nat)] 107 :: .var [.int .u8 a1, .str (k :: r)] 78 :: [])
                  ?_ ⟨_, _, WeakL.of_eq rfl, s.length + 1, c, p1, L, hpp, hin, by omega, by omega, hF2, rfl, rfl, rfl⟩ ?_
                · rintro _ _ _ ⟨m, d, p2, L2, -, -, -, -, -, -, rfl, rfl⟩
                  exact ⟨rfl, (by simp [IdsL, Ids, IdsH, IdsC, lv_ids, ci_ids]), by simp [IdsH, IdsC, IdsL, Ids, cmd_ids]⟩
                rintro _ _ _ ⟨m, d, p2, L2, hpp2, hp2, hm2, hL2, hR, rfl, rfl, rfl⟩
                clear cl cp ck c2 hF2
                obtain ⟨m, rfl⟩ : ∃ i, m = i + 1 := ⟨m - 1, by omega⟩
                have cg := c_group s (k :: r) p2 hp2 hl hk hal
                have hb := grpR_bd s hl (k :: r) 0 p2 [] hp2
                have hd8 := d.toNat_lt
                have e0 := hR.err
                have e1 := hR.last
                have e2 := hR.more
                clear hR
                obtain ⟨⟨vals, e', q2⟩, hA⟩ : ∃ R, grpR s (k :: r) 0 p2 [] = R := ⟨_, rfl⟩
                rw [hA] at cg hb e0 e1 e2
                simp only [hhead] at cg hb e0 e1 e2
                have hcl2 := cmd_length L2
                have hll2 : ∀ v, (L2 ++ [(d, v)]).length = L2.length + 1 := fun v => by simp
                by_cases he : e' = 0
                · subst he
                  have hq2 := hb.2 (by simp) rfl
                  have e1 := e1 rfl
                  have e2 := e2 rfl
                  have hmb := more_bd s (k == 110) q2 hb.1.2
                  have cm := c_more s k r q2 hb.1.2 (by omega) hrl hk2
                  obtain ⟨⟨mo, p3⟩, hM0⟩ : ∃ R, moreR s (k == 110) q2 = R := ⟨_, rfl⟩
                  rw [hM0] at e1 e2 hmb cm
                  simp only at e1 e2 hmb cm
                  unfold rdr at cg cm
                  cases mo with
                  | false =>
                    have h4 := e1 rfl
                    conv => whnf
                    repeat' (first | exact ⟨_, keepT_weak (maskOf 87 [1, 6, 7]) _, .inr ⟨rfl, p3, L2 ++ [(d, vals)], by omega, by omega, by rw [hll2]; omega, h4, rfl, _, by rw [cmd_snoc, hll2]; rfl⟩⟩ | (refine CallH.mem1 seat_g 2 cg rfl (by simp [Closed, ClosedL]) (by simp [Closed, ClosedL]) (by simp [Closed, ClosedL, lv_closed]) rfl ?_; conv => whnf) | (refine CallH.body seat_ok Tryd.func29 rfl rfl ?_; conv => whnf) | (refine Req.mk ⟨rfl, rfl, rfl, hcl2, rfl, by simp [okCell, lv], by dsimp only; omega, by omega, by decide⟩ ?_; conv => whnf) | (refine CallH.mem1 seat_g 2 cm rfl (by simp [Closed, ClosedL]) (by simp [Closed, ClosedL]) (by simp [Closed, ClosedL, lv_closed]) rfl ?_; conv => whnf) | ((first | refine zs (by omega) ?_ | refine zq6 ?_ | refine zs (by dsimp only; omega) ?_ | refine zs (show pendP _ _ by repeat' constructor) ?_ | (with_reducible first | refine brT ‹_› ?_ | refine brF ‹_› ?_ | refine zt (by omega) ?_ | refine zf (by omega) ?_ | refine brNot ?_)); conv => whnf))
                  | true =>
                    have hM := e2 rfl
                    by_cases h1 : (d.toNat : Int) = 77
                    · have hd : d = 77 := UInt8.toNat_inj.1 (by show d.toNat = 77; omega)
                      have hnd : nextC d = 76 := by rw [hd]; rfl
                      rw [hnd] at hM
                      clear hd hnd
                      conv => whnf
                      repeat' (first | exact ⟨_, _, show s.length - p3 < s.length - p2 by omega, WeakL.of_eq rfl, m, 76, p3, L2 ++ [(d, vals)], by omega, by omega, by omega, by rw [hll2]; omega, hM, rfl, rfl, by rw [cmd_snoc, hll2]; rfl⟩ | (refine CallH.mem1 seat_g 2 cg rfl (by simp [Closed, ClosedL]) (by simp [Closed, ClosedL]) (by simp [Closed, ClosedL, lv_closed]) rfl ?_; conv => whnf) | (refine CallH.body seat_ok Tryd.func29 rfl rfl ?_; conv => whnf) | (refine Req.mk ⟨rfl, rfl, rfl, hcl2, rfl, by simp [okCell, lv], by dsimp only; omega, by omega, by decide⟩ ?_; conv => whnf) | (refine CallH.mem1 seat_g 2 cm rfl (by simp [Closed, ClosedL]) (by simp [Closed, ClosedL]) (by simp [Closed, ClosedL, lv_closed]) rfl ?_; conv => whnf) | (refine WrapH.is 0 (by rw [h1]; rfl) ?_; conv => whnf) | (refine WrapH.is 76 rfl ?_; conv => whnf) | ((first | refine zs (by omega) ?_ | refine zq6 ?_ | refine zs (by dsimp only; omega) ?_ | refine zs (show pendP _ _ by repeat' constructor) ?_ | (with_reducible first | refine brT ‹_› ?_ | refine brF ‹_› ?_ | refine zt (by omega) ?_ | refine zf (by omega) ?_ | refine brNot ?_)); conv => whnf))
                    · by_cases h2 : (d.toNat : Int) = 109
                      · have hd : d = 109 := UInt8.toNat_inj.1 (by show d.toNat = 109; omega)
                        have hnd : nextC d = 108 := by rw [hd]; rfl
                        rw [hnd] at hM
                        clear hd hnd
                        conv => whnf
                        repeat' (first | exact ⟨_, _, show s.length - p3 < s.length - p2 by omega, WeakL.of_eq rfl, m, 108, p3, L2 ++ [(d, vals)], by omega, by omega, by omega, by rw [hll2]; omega, hM, rfl, rfl, by rw [cmd_snoc, hll2]; rfl⟩ | (refine CallH.mem1 seat_g 2 cg rfl (by simp [Closed, ClosedL]) (by simp [Closed, ClosedL]) (by simp [Closed, ClosedL, lv_closed]) rfl ?_; conv => whnf) | (refine CallH.body seat_ok Tryd.func29 rfl rfl ?_; conv => whnf) | (refine Req.mk ⟨rfl, rfl, rfl, hcl2, rfl, by simp [okCell, lv], by dsimp only; omega, by omega, by decide⟩ ?_; conv => whnf) | (refine CallH.mem1 seat_g 2 cm rfl (by simp [Closed, ClosedL]) (by simp [Closed, ClosedL]) (by simp [Closed, ClosedL, lv_closed]) rfl ?_; conv => whnf) | (refine WrapH.is 32 (by rw [h2]; rfl) ?_; conv => whnf) | (refine WrapH.is 108 rfl ?_; conv => whnf) | ((first | refine zs (by omega) ?_ | refine zq6 ?_ | refine zs (by dsimp only; omega) ?_ | refine zs (show pendP _ _ by repeat' constructor) ?_ | (with_reducible first | refine brT ‹_› ?_ | refine brF ‹_› ?_ | refine zt (by omega) ?_ | refine zf (by omega) ?_ | refine brNot ?_)); conv => whnf))
                      · have hnd : nextC d = d := by
                          unfold nextC
                          rw [if_neg (fun h => h1 (by rw [h]; rfl)), if_neg (fun h => h2 (by rw [h]; rfl))]
                        rw [hnd] at hM
                        conv => whnf
                        repeat' (first | exact ⟨_, _, show s.length - p3 < s.length - p2 by omega, WeakL.of_eq rfl, m, d, p3, L2 ++ [(d, vals)], by omega, by omega, by omega, by rw [hll2]; omega, hM, rfl, rfl, by rw [cmd_snoc, hll2]; rfl⟩ | (refine CallH.mem1 seat_g 2 cg rfl (by simp [Closed, ClosedL]) (by simp [Closed, ClosedL]) (by simp [Closed, ClosedL, lv_closed]) rfl ?_; conv => whnf) | (refine CallH.body seat_ok Tryd.func29 rfl rfl ?_; conv => whnf) | (refine Req.mk ⟨rfl, rfl, rfl, hcl2, rfl, by simp [okCell, lv], by dsimp only; omega, by omega, by decide⟩ ?_; conv => whnf) | (refine CallH.mem1 seat_g 2 cm rfl (by simp [Closed, ClosedL]) (by simp [Closed, ClosedL]) (by simp [Closed, ClosedL, lv_closed]) rfl ?_; conv => whnf) | ((first | refine zs (by omega) ?_ | refine zq6 ?_ | refine zs (by dsimp only; omega) ?_ | refine zs (show pendP _ _ by repeat' constructor) ?_ | (with_reducible first | refine brT ‹_› ?_ | refine brF ‹_› ?_ | refine zt (by omega) ?_ | refine zf (by omega) ?_ | refine brNot ?_)); conv => whnf))
                · obtain ⟨rfl, rfl, rfl⟩ := e0 he
                  have ca2 := c_at s q
                  unfold rdr at cg ca2
                  conv => whnf
                  repeat' (first | exact ⟨_, keepT_weak (maskOf 87 [4, 5]) _, .inl ⟨rfl, he, rfl, _, rfl⟩⟩ | (refine CallH.mem1 seat_g 2 cg rfl (by simp [Closed, ClosedL]) (by simp [Closed, ClosedL]) (by simp [Closed, ClosedL, lv_closed]) rfl ?_; conv => whnf) | (refine CallH.mem1 seat_g 2 ca2 rfl (by simp [Closed, ClosedL]) (by simp [Closed, ClosedL]) (by simp [Closed, ClosedL, lv_closed]) rfl ?_; conv => whnf) | ((first | refine zs (by omega) ?_ | refine zq6 ?_ | refine zs (by dsimp only; omega) ?_ | refine zs (show pendP _ _ by repeat' constructor) ?_ | (with_reducible first | refine brT ‹_› ?_ | refine brF ‹_› ?_ | refine zt (by omega) ?_ | refine zf (by omega) ?_ | refine brNot ?_)); conv => whnf))
              · rintro _ _ _ (⟨rfl, h1, rfl, r2, rfl⟩ | ⟨rfl, p3, L3, h1, h2, h3, h4, rfl, r2, rfl⟩)
                · conv => whnf
                  exact ⟨_, keepT_weak (maskOf 87 [4, 5]) _, ⟨_, rfl⟩, .inl ⟨rfl, h1, rfl⟩⟩
                · conv => whnf
                  exact ⟨_, _, show s.length - p3 < s.length - p by omega, WeakL.of_eq rfl, n, false, p3, L3, by omega, by omega, h3, h4, rfl, rfl, rfl⟩
    · have hpe : p = s.length := by omega
      obtain ⟨rfl, rfl⟩ := hF.fin (List.getElem?_eq_none (by omega))
      have hg0 : ¬ ((s.length : Int) - p > 0) := by omega
      clear hF hG
      unfold rdr at *
      conv => whnf
      repeat' (first | exact ⟨_, keepT_weak (maskOf 87 []) _, ⟨_, rfl⟩, .inr ⟨rfl, rfl, rfl⟩⟩ | (refine CallH.mem1 seat_g 2 cl rfl (by simp [Closed, ClosedL]) (by simp [Closed, ClosedL]) (by simp [Closed, ClosedL, lv_closed]) rfl ?_; conv => whnf) | ((first | refine zs (by omega) ?_ | refine zq6 ?_ | refine zs (by dsimp only; omega) ?_ | refine zs (show pendP _ _ by repeat' constructor) ?_ | (with_reducible first | refine brT ‹_› ?_ | refine brF ‹_› ?_ | refine zt (by omega) ?_ | refine zf (by omega) ?_ | refine brNot ?_)); conv => whnf))
  · rintro _ _ _ ⟨⟨r, rfl⟩, ⟨rfl, h1, rfl⟩ | ⟨rfl, h1, rfl⟩⟩
    · rw [if_neg h1]
      conv => whnf
      exact ⟨rfl, _, rfl⟩
    · subst h1
      rw [if_pos rfl]
      conv => whnf
      exact ⟨rfl, _, rfl⟩
end Go.Proofs.YteicdddheaajlaaDoor
namespace Go.Proofs.YteicdddheaajlaaDoor
open Go.Abs
def cmdV (G : List (UInt8 × List Int)) : AV := .vec (cs cmdC G) G.length none
theorem c_parse (s : List UInt8) (hl : s.length ≤ 400) : ACalls seat 17 [.str s] [] (fun x _ => x = .ret (.tup [cmdV (pathR s).1, .int .i64 (if (pathR s).2.1 = 0 then -1 else ((pathR s).2.2 : Nat)), .int .i64 (pathR s).2.1])) := by
  have hw : ACalls seat 17 [.str s] [] (fun r h' => (∃ v v', r = .ret v ∧ Weak v v' ∧ (AEnd.ret v' = .ret (.tup [cmdV (pathR s).1, .int .i64 (if (pathR s).2.1 = 0 then -1 else ((pathR s).2.2 : Nat)), .int .i64 (pathR s).2.1]))) ∨ (∃ v, r = .pan v ∧ (r = .ret (.tup [cmdV (pathR s).1, .int .i64 (if (pathR s).2.1 = 0 then -1 else ((pathR s).2.2 : Nat)), .int .i64 (pathR s).2.1])))) := by
    refine ACalls.bodyS seat_ok Tryd.func17 rfl rfl ?_
    have g : ¬ ((s.length : Int) > 65536) := by omega
    refine Sat.splitAt seat_ok (fun t h => t = (.str s::uu::uu::uu::uu::.ptr 0 0::uu::uu::uu::uu::uu::uu::uu::uu::uu::uu::uu::uu::uu::uu::[]) ∧ h = [.var [.nils] 32]) 3 ?_ ?_
    · conv => whnf
      repeat' (first | exact ⟨_, keepT_weak (maskOf 20 [0, 5]) _, rfl, rfl⟩ | ((first | refine zs (by omega) ?_ | refine zq6 ?_ | refine zs (by dsimp only; omega) ?_ | refine zs (show pendP _ _ by repeat' constructor) ?_ | (with_reducible first | refine brT ‹_› ?_ | refine brF ‹_› ?_ | refine zt (by omega) ?_ | refine zf (by omega) ?_ | refine brNot ?_)); conv => whnf))
    rintro _ _ ⟨rfl, rfl⟩
    refine Sat.nilTokH 0 0 37 2 rfl rfl ?_
    refine codeR_sound seat_ok _ _ _ _ ?_
    obtain ⟨⟨G, e, q⟩, hG⟩ : ∃ R, pathR s = R := ⟨_, rfl⟩
    rw [hG]
    have cw := c_walkP s hl G e q hG
    conv => whnf
    refine ⟨cw.mono ?_⟩
    rintro _ _ ⟨rfl, r, rfl⟩
    conv => whnf
    exact .inl ⟨_, _, rfl, Weak.tup (.cons Weak.tok (WeakL.refl _)), rfl⟩
  exact ACalls.weakR hw
end Go.Proofs.YteicdddheaajlaaDoor
namespace Go.Proofs.YteicdddheaajlaaDoor
open Go.Abs
theorem cs_takeN {α : Type} {f : α → List AV} {sz : Nat} (hf : ∀ a, (f a).length = sz) : ∀ (l : List α) (i : Nat), (cs f l).take (i * sz) = cs f (l.take i)
  | l, 0 => by simp [cs]
  | [], i + 1 => by simp [cs]
  | a :: l, i + 1 => by
    have := cs_takeN hf l i
    simp only [cs, List.flatMap_cons, List.take_succ_cons] at this ⊢
    rw [← this, Nat.succ_mul, Nat.add_comm, ← hf a, List.take_length_add_append]
theorem sg_first (L : List Sg) (n : Nat) (hn : n ≤ L.length) : AV.vec (((cs sgC L).drop ((0 : Int).toNat * 12)).take ((((n : Nat) : Int).toNat - (0 : Int).toNat) * 12)) (((n : Nat) : Int).toNat - (0 : Int).toNat) none = sgV (L.take n) := by
  unfold sgV
  rw [Int.toNat_natCast, show (0 : Int).toNat = 0 from rfl, Nat.zero_mul, List.drop_zero, Nat.sub_zero, cs_takeN sgC_len, List.length_take, Nat.min_eq_left hn]
def atV (r : Option Nat) : Int := match r with
  | none => -1
  | some i => i
def erV (r : Option Nat) : Int := match r with
  | none => 0
  | some _ => 2
set_option maxRecDepth 20000 in
theorem c_nwalk (G : List (UInt8 × List Int)) (hG : ∀ x ∈ G, CmdOk x) (hl : G.length ≤ 100000) (L : List Sg) (r : Option Nat) (hW : walkN G 0 st0 = (L, r)) :
    ACalls seat 18 [cmdV G] [] (fun x _ => x = .ret (.tup [sgV L, .int .i64 (atV r), .int .i64 (erV r)])) := by
  refine ACalls.weakR ?_
  refine ACalls.bodyS seat_ok Tryd.func18 rfl rfl ?_
  refine Sat.splitAt seat_ok (fun t h => t = (cmdV G::uu::uu::uu::uu::.ptr 0 0::uu::uu::uu::uu::uu::uu::uu::uu::uu::uu::uu::uu::uu::uu::uu::uu::uu::uu::uu::uu::uu::uu::uu::uu::uu::uu::[]) ∧ h = [.var [.int .i64 0, .int .i64 0, .int .i64 0, .int .i64 0, .bool false, .int .u8 0, .int .i64 0, .int .i64 0, .nils, .bool false] 68]) 2 ?_ ?_
  · conv => whnf
    repeat' (first | exact ⟨_, keepT_weak (maskOf 32 [0, 5]) _, rfl, rfl⟩ | ((first | refine zs (by omega) ?_ | refine zq6 ?_ | refine zs (by dsimp only; omega) ?_ | refine zs (show pendP _ _ by repeat' constructor) ?_ | (with_reducible first | refine brT ‹_› ?_ | refine brF ‹_› ?_ | refine zt (by omega) ?_ | refine zf (by omega) ?_ | refine brNot ?_)); conv => whnf))
  rintro _ _ ⟨rfl, rfl⟩
  refine Sat.nilTokH 0 8 43 12 rfl rfl ?_
  refine codeR_sound seat_ok _ _ _ _ ?_
  unfold cmdV
  conv => whnf
  repeat' ((first | refine zs (by omega) ?_ | refine zq6 ?_ | refine zs (by dsimp only; omega) ?_ | refine zs (show pendP _ _ by repeat' constructor) ?_ | (with_reducible first | refine brT ‹_› ?_ | refine brF ‹_› ?_ | refine zt (by omega) ?_ | refine zf (by omega) ?_ | refine brNot ?_)); conv => whnf)
  refine Sat.cut (fun x t h => (x = .ret ∧ t = (uu::uu::sgV L::.int .i64 (atV r)::.int .i64 (erV r)::uu::uu::uu::uu::uu::uu::uu::uu::uu::uu::uu::uu::uu::uu::uu::uu::uu::uu::uu::uu::uu::uu::uu::uu::uu::uu::uu::[])) ∨ (x = .exit 0 ∧ ∃ s, s.out = L ∧ r = none ∧ t = (uu::uu::uu::uu::uu::.ptr 0 0::uu::uu::uu::uu::uu::uu::uu::uu::uu::uu::uu::uu::uu::uu::uu::uu::uu::uu::uu::uu::uu::uu::uu::uu::uu::uu::[]) ∧ h = stH s)) ?_ ?_
  · refine Sat.invP seat_ok seat_g (maskOf 32 [5, 9, 10, 11]) 2 (fun μ t h => ∃ (i : Nat) (s : St) (l : List Sg) (w : Int), i ≤ G.length ∧ StOk s ∧ Rel s l w ∧ l.length ≤ 2 * i ∧ walkN (G.drop i) i s = (L, r) ∧ μ = G.length - i ∧ t = (uu::uu::uu::uu::uu::.ptr 0 0::uu::uu::uu::.vec (cs cmdC G) G.length none::.int .i64 G.length::.int .i64 i::uu::uu::uu::uu::uu::uu::uu::uu::uu::uu::uu::uu::uu::uu::uu::uu::uu::uu::uu::uu::[]) ∧ h = stH s)
      ?_ ⟨_, _, WeakL.of_eq rfl, 0, st0, [], 0, Nat.zero_le _, st0_ok, rel0, Nat.le_refl _, hW, rfl, rfl, rfl⟩ ?_
    · rintro _ _ _ ⟨i, s, l, w, -, -, -, -, -, -, rfl, rfl⟩
      exact ⟨rfl, by simp [IdsL, Ids, cmd_ids], stH_ids s⟩
    rintro _ _ _ ⟨i, s, l, w, hi, hs, hr, hll, hw, rfl, rfl, rfl⟩
    by_cases g : i < G.length
    · obtain ⟨x, hx⟩ : ∃ x, G[i]? = some x := ⟨_, List.getElem?_eq_getElem g⟩
      have hk := hG x (List.mem_of_getElem? hx)
      rw [drop_cons' hx, walkN] at hw
      have hsl : s.out.length ≤ 2 * i := by rw [hr.out]; exact hll
      have cd := c_do s x.1 x.2 hk hs.pos hs.ct (by omega)
      obtain ⟨h1, h2⟩ := rel_step x.1.toNat x.2 hs hr
      have ho := do_out x.1.toNat x.2 hs hr
      obtain ⟨m, hm, hml⟩ := kR_pre x.1.toNat l
      have hpre : (doS s x.1.toNat x.2).out.take s.out.length = s.out := by rw [ho, hm, hr.out, List.append_assoc, List.take_left]
      have hlen : s.out.length ≤ (doS s x.1.toNat x.2).out.length := by rw [ho, hm, hr.out]; simp only [List.length_append]; omega
      have hfi := sg_first (doS s x.1.toNat x.2).out s.out.length hlen
      rw [hpre] at hfi
      have hld : sub (cs cmdC G) ((i : Int).toNat * 2) 2 = some (cmdC x) := cs_sub cmdC_len hx
      cases hb : (doS s x.1.toNat x.2).bad with
      | true =>
        rw [if_pos hb] at hw
        cases hw
        clear h1 h2 ho hm hpre hG
        generalize doS s x.1.toNat x.2 = u at *
        conv => whnf
        repeat' (first | exact ⟨_, keepT_weak (maskOf 32 [2, 3, 4]) _, .inl ⟨rfl, by rw [← hfi]; rfl⟩⟩ | (refine ldI _ hld ?_; conv => whnf) | (refine CallH.st cd (by simp [IdsL, Ids, lv_ids]) (by simp [Ids, IdsL]) rfl ?_; conv => whnf) | (refine Req.mk ⟨by omega, by omega, by omega, by omega⟩ ?_; conv => whnf) | ((first | refine zs (by omega) ?_ | refine zq6 ?_ | refine zs (by dsimp only; omega) ?_ | refine zs (show pendP _ _ by repeat' constructor) ?_ | (with_reducible first | refine brT ‹_› ?_ | refine brF ‹_› ?_ | refine zt (by omega) ?_ | refine zf (by omega) ?_ | refine brNot ?_)); conv => whnf))
      | false =>
        rw [if_neg (by rw [hb]; decide)] at hw
        obtain ⟨h3, h4⟩ := h2 (h1.1 hb)
        have hll2 : (kR x.1.toNat l ++ [sgR x.1.toNat x.2 (atR l) (kR x.1.toNat l) w]).length ≤ 2 * (i + 1) := by rw [hm]; simp; omega
        generalize kR x.1.toNat l ++ [sgR x.1.toNat x.2 (atR l) (kR x.1.toNat l) w] = l2 at *
        clear h1 h2 ho hm hpre hG hfi
        generalize doS s x.1.toNat x.2 = u at *
        conv => whnf
        repeat' (first | exact ⟨_, _, Nat.sub_lt_sub_left g (Nat.lt_succ_self i), WeakL.of_eq rfl, i + 1, u, l2, _, g, h3, h4, hll2, hw, rfl, rfl, rfl⟩ | (refine ldI _ hld ?_; conv => whnf) | (refine CallH.st cd (by simp [IdsL, Ids, lv_ids]) (by simp [Ids, IdsL]) rfl ?_; conv => whnf) | ((first | refine zs (by omega) ?_ | refine zq6 ?_ | refine zs (by dsimp only; omega) ?_ | refine zs (show pendP _ _ by repeat' constructor) ?_ | (with_reducible first | refine brT ‹_› ?_ | refine brF ‹_› ?_ | refine zt (by omega) ?_ | refine zf (by omega) ?_ | refine brNot ?_)); conv => whnf))
    · obtain rfl : i = G.length := by omega
      rw [List.drop_length] at hw
      cases hw
      conv => whnf
      repeat' (first | exact ⟨_, keepT_weak (maskOf 32 [5]) _, .inr ⟨rfl, s, rfl, rfl, rfl, rfl⟩⟩ | ((first | refine zs (by omega) ?_ | refine zq6 ?_ | refine zs (by dsimp only; omega) ?_ | refine zs (show pendP _ _ by repeat' constructor) ?_ | (with_reducible first | refine brT ‹_› ?_ | refine brF ‹_› ?_ | refine zt (by omega) ?_ | refine zf (by omega) ?_ | refine brNot ?_)); conv => whnf))
  · rintro _ _ _ (⟨rfl, rfl⟩ | ⟨rfl, s, rfl, rfl, rfl, rfl⟩)
    · unfold sgV
      conv => whnf
      exact .inl ⟨_, _, rfl, Weak.refl _, rfl⟩
    · conv => whnf
      repeat' (first | exact .inl ⟨_, _, rfl, Weak.tup (.cons Weak.tok (WeakL.refl _)), rfl⟩ | ((first | refine zs (by omega) ?_ | refine zq6 ?_ | refine zs (by dsimp only; omega) ?_ | refine zs (show pendP _ _ by repeat' constructor) ?_ | (with_reducible first | refine brT ‹_› ?_ | refine brF ‹_› ?_ | refine zt (by omega) ?_ | refine zf (by omega) ?_ | refine brNot ?_)); conv => whnf))
end Go.Proofs.YteicdddheaajlaaDoor
namespace Go.Proofs.YteicdddheaajlaaDoor
open Go.Abs
def ex1 : List UInt8 := [77, 49, 32, 50, 32, 51, 32, 52, 122]
def ex2 : List UInt8 := [77, 49, 32, 50, 44, 76, 51, 32, 52]
theorem n11 : numR ex1 1 true = (65536, 0, 2) := numR_dig (d := 49) rfl (by decide) (by rfl)
theorem n13 : numR ex1 3 true = (131072, 0, 4) := numR_dig (d := 50) rfl (by decide) (by rfl)
theorem n15 : numR ex1 5 true = (196608, 0, 6) := numR_dig (d := 51) rfl (by decide) (by rfl)
theorem n17 : numR ex1 7 true = (262144, 0, 8) := numR_dig (d := 52) rfl (by decide) (by rfl)
theorem n21 : numR ex2 1 true = (65536, 0, 2) := numR_dig (d := 49) rfl (by decide) (by rfl)
theorem n23 : numR ex2 3 true = (131072, 0, 4) := numR_dig (d := 50) rfl (by decide) (by rfl)
theorem n25 : numR ex2 5 true = (0, 3, 5) := numR_none (by rfl)
theorem argR_n (s : List UInt8) (p : Nat) : argR s 110 p = numR s p true := if_neg (by decide)
theorem grp_two (s : List UInt8) (p p1 q1 q2 : Nat) (v1 v2 : Int) (h1 : numR s p true = (v1, 0, q1)) (hg : q1 + gapN (s.drop q1) = p1) (h2 : numR s p1 true = (v2, 0, q2)) : grpR s [110, 110] 0 p [] = ([v1, v2], 0, q2) := by
  have nk : ∀ P : Prop, ¬ ((110 : UInt8) = 103 ∧ P) := fun P h => absurd h.1 (by decide)
  have n0 : ¬ ((0 : Int) ≠ 0) := by decide
  rw [grpR]
  simp only [Nat.lt_irrefl, if_false, argR_n, h1]
  rw [if_neg (nk _), if_neg n0, grpR]
  simp only [Nat.lt_add_one, if_true, argR_n, hg, h2]
  rw [if_neg (nk _), if_neg n0, grpR]
  rfl
theorem g11 : grpR ex1 [110, 110] 0 1 [] = ([65536, 131072], 0, 4) := grp_two ex1 1 3 2 4 _ _ n11 rfl n13
theorem g15 : grpR ex1 [110, 110] 0 5 [] = ([196608, 262144], 0, 8) := grp_two ex1 5 7 6 8 _ _ n15 rfl n17
theorem g21 : grpR ex2 [110, 110] 0 1 [] = ([65536, 131072], 0, 4) := grp_two ex2 1 3 2 4 _ _ n21 rfl n23
theorem g25 : grpR ex2 [110, 110] 0 5 [] = ([], 3, 5) := by
  rw [grpR]
  simp only [Nat.lt_irrefl, if_false, argR_n, n25]
  rw [if_neg (by decide), if_pos (by decide)]
theorem r1 (n : Nat) : runR ex1 [110, 110] (n + 2) 77 1 = ([(77, [65536, 131072]), (76, [196608, 262144])], 0, 8) := by
  have m1 : moreR ex1 (([110, 110] : List UInt8).head? == some 110) 4 = (true, 5) := by rfl
  have m2 : moreR ex1 (([110, 110] : List UInt8).head? == some 110) 8 = (false, 8) := by rfl
  rw [runR]
  simp only [g11, m1]
  rw [if_neg (by decide), if_pos trivial, show nextC 77 = 76 from rfl, runR]
  simp only [g15, m2]
  rw [if_neg (by decide), if_neg (by decide)]
theorem p1 : pathR ex1 = ([(77, [65536, 131072]), (76, [196608, 262144]), (122, [])], 0, 9) := by
  unfold pathR
  rw [show ex1.length + 1 = 7 + 1 + 1 + 1 from rfl, show blk ex1 = 0 from rfl, walkR]
  rw [show ex1[0]? = some 77 from rfl]
  simp only
  rw [show ofN (77 : UInt8).toNat = some (77, [110, 110]) from rfl]
  simp only
  rw [if_neg (by decide), if_neg (by decide), show 0 + 1 + blk (ex1.drop (0 + 1)) = 1 from rfl, show ex1.length + 1 = 8 + 2 from rfl, r1]
  simp only
  rw [if_neg (by decide), walkR, show ex1[8]? = some 122 from rfl]
  simp only
  rw [show ofN (122 : UInt8).toNat = some (90, []) from rfl]
  simp only
  rw [if_neg (by decide), if_pos trivial, walkR, show ex1[8 + 1 + blk (ex1.drop (8 + 1))]? = none from rfl]
  rfl
theorem r2 (n : Nat) : runR ex2 [110, 110] (n + 2) 77 1 = ([(77, [65536, 131072])], 3, 5) := by
  have m1 : moreR ex2 (([110, 110] : List UInt8).head? == some 110) 4 = (true, 5) := by rfl
  rw [runR]
  simp only [g21, m1]
  rw [if_neg (by decide), if_pos trivial, runR]
  simp only [g25]
  rw [if_pos (by decide)]
theorem p2 : pathR ex2 = ([(77, [65536, 131072])], 3, 5) := by
  unfold pathR
  rw [show ex2.length + 1 = 8 + 1 + 1 from rfl, show blk ex2 = 0 from rfl, walkR]
  rw [show ex2[0]? = some 77 from rfl]
  simp only
  rw [show ofN (77 : UInt8).toNat = some (77, [110, 110]) from rfl]
  simp only
  rw [if_neg (by decide), if_neg (by decide), show 0 + 1 + blk (ex2.drop (0 + 1)) = 1 from rfl, show ex2.length + 1 = 8 + 2 from rfl, r2]
  simp only
  rw [if_pos (by decide)]
end Go.Proofs.YteicdddheaajlaaDoor
namespace Go.Proofs.YteicdddheaajlaaDoor
open Go.Abs
def ex7 : List UInt8 := [77, 32, 49, 32, 49, 32, 104, 32, 50, 32, 122, 32, 108, 32, 49, 32, 48]
theorem n72 : numR ex7 2 true = (65536, 0, 3) := numR_dig (d := 49) rfl (by decide) (by rfl)
theorem n74 : numR ex7 4 true = (65536, 0, 5) := numR_dig (d := 49) rfl (by decide) (by rfl)
theorem n78 : numR ex7 8 true = (131072, 0, 9) := numR_dig (d := 50) rfl (by decide) (by rfl)
theorem n714 : numR ex7 14 true = (65536, 0, 15) := numR_dig (d := 49) rfl (by decide) (by rfl)
theorem n716 : numR ex7 16 true = (0, 0, 17) := numR_dig (d := 48) rfl (by decide) (by rfl)
theorem g72 : grpR ex7 [110, 110] 0 2 [] = ([65536, 65536], 0, 5) := grp_two ex7 2 4 3 5 _ _ n72 rfl n74
theorem g714 : grpR ex7 [110, 110] 0 14 [] = ([65536, 0], 0, 17) := grp_two ex7 14 16 15 17 _ _ n714 rfl n716
theorem g78 : grpR ex7 [110] 0 8 [] = ([131072], 0, 9) := by
  rw [grpR]
  simp only [Nat.lt_irrefl, if_false, argR_n, n78]
  rw [if_neg (by decide), if_neg (by decide), grpR]
  rfl
theorem r72 (n : Nat) : runR ex7 [110, 110] (n + 1) 77 2 = ([(77, [65536, 65536])], 0, 6) := by
  have m1 : moreR ex7 (([110, 110] : List UInt8).head? == some 110) 5 = (false, 6) := by rfl
  rw [runR]
  simp only [g72, m1]
  rw [if_neg (by decide), if_neg (by decide)]
theorem r78 (n : Nat) : runR ex7 [110] (n + 1) 104 8 = ([(104, [131072])], 0, 10) := by
  have m1 : moreR ex7 (([110] : List UInt8).head? == some 110) 9 = (false, 10) := by rfl
  rw [runR]
  simp only [g78, m1]
  rw [if_neg (by decide), if_neg (by decide)]
theorem r714 (n : Nat) : runR ex7 [110, 110] (n + 1) 108 14 = ([(108, [65536, 0])], 0, 17) := by
  have m1 : moreR ex7 (([110, 110] : List UInt8).head? == some 110) 17 = (false, 17) := by rfl
  rw [runR]
  simp only [g714, m1]
  rw [if_neg (by decide), if_neg (by decide)]
def G7 : List (UInt8 × List Int) := [(77, [65536, 65536]), (104, [131072]), (122, []), (108, [65536, 0])]
theorem w717 (n : Nat) : walkR ex7 n false 17 = ([], 0, 17) := by
  cases n with
  | zero => rfl
  | succ n => rw [walkR, show ex7[17]? = none from rfl]
theorem w712 (n : Nat) : walkR ex7 (n + 1) false 12 = ([(108, [65536, 0])], 0, 17) := by
  rw [walkR, show ex7[12]? = some 108 from rfl]
  simp only
  rw [show ofN (108 : UInt8).toNat = some (76, [110, 110]) from rfl]
  simp only
  rw [if_neg (by decide), if_neg (by decide), show 12 + 1 + blk (ex7.drop (12 + 1)) = 14 from rfl, show ex7.length + 1 = 17 + 1 from rfl, r714]
  simp only
  rw [if_neg (by decide), w717]
  rfl
theorem w710 (n : Nat) : walkR ex7 (n + 2) false 10 = ([(122, []), (108, [65536, 0])], 0, 17) := by
  rw [walkR, show ex7[10]? = some 122 from rfl]
  simp only
  rw [show ofN (122 : UInt8).toNat = some (90, []) from rfl]
  simp only
  rw [if_neg (by decide), if_pos trivial, show 10 + 1 + blk (ex7.drop (10 + 1)) = 12 from rfl, w712]
theorem w76 (n : Nat) : walkR ex7 (n + 3) false 6 = ([(104, [131072]), (122, []), (108, [65536, 0])], 0, 17) := by
  rw [walkR, show ex7[6]? = some 104 from rfl]
  simp only
  rw [show ofN (104 : UInt8).toNat = some (72, [110]) from rfl]
  simp only
  rw [if_neg (by decide), if_neg (by decide), show 6 + 1 + blk (ex7.drop (6 + 1)) = 8 from rfl, show ex7.length + 1 = 17 + 1 from rfl, r78]
  simp only
  rw [if_neg (by decide), w710]
  rfl
theorem p7 : pathR ex7 = (G7, 0, 17) := by
  unfold pathR
  rw [show ex7.length + 1 = 14 + 3 + 1 from rfl, show blk ex7 = 0 from rfl, walkR, show ex7[0]? = some 77 from rfl]
  simp only
  rw [show ofN (77 : UInt8).toNat = some (77, [110, 110]) from rfl]
  simp only
  rw [if_neg (by decide), if_neg (by decide), show 0 + 1 + blk (ex7.drop (0 + 1)) = 2 from rfl, show ex7.length + 1 = 17 + 1 from rfl, r72]
  simp only
  rw [if_neg (by decide), w76]
  rfl
def ptI (x y : Int) : Pt := ⟨x * 65536, y * 65536⟩
def S7 : List Sg := [lnS 1 (ptI 1 1), lnS 2 (ptI 3 1), lnS 6 (ptI 1 1), lnS 1 (ptI 1 1), lnS 2 (ptI 2 1)]
theorem k7 : walkN G7 0 st0 = (S7, none) := by rfl
end Go.Proofs.YteicdddheaajlaaDoor
namespace Go.Proofs.YteicdddheaajlaaDoor
open Go.Abs
theorem pathR_len' (s : List UInt8) (hl : s.length ≤ 400) : (pathR s).1.length ≤ s.length := by
  have h1 := blk_in s 0 (by omega)
  rw [Nat.zero_add, List.drop_zero] at h1
  have := walkR_pos s hl (s.length + 1) true (blk s) h1
  unfold pathR; omega
def parV (p : List (UInt8 × List Int) × Int × Nat) (L : List Sg) (r : Option Nat) : AV := match r with
  | none => .tup [sgV L, .int .i64 (if p.2.1 = 0 then -1 else (p.2.2 : Nat)), .int .i64 p.2.1]
  | some i => .tup [sgV L, .int .i64 i, .int .i64 2]
set_option maxRecDepth 20000 in
theorem c_nparse (s : List UInt8) (hl : s.length ≤ 400) (L : List Sg) (r : Option Nat) (hW : walkN (pathR s).1 0 st0 = (L, r)) : ACalls seat 8 [.str s] [] (fun x _ => x = .ret (parV (pathR s) L r)) := by
  have c1 := c_parse s hl
  have hlen := pathR_len' s hl
  have c2 := c_nwalk (pathR s).1 (pathR_ok s hl) (by omega) L r hW
  have he := pathR_e s hl
  generalize pathR s = p at *
  obtain ⟨G, e, q⟩ := p
  unfold parV
  unfold cmdV sgV at *
  simp only at *
  clear hW
  refine ACalls.body seat_ok Tryd.func8 rfl rfl ?_
  cases r with
  | none =>
    conv => whnf
    repeat' (first | exact rfl | (refine lf seat_g c1 ?_; conv => whnf) | (refine lf seat_g c2 ?_; conv => whnf) | ((first | refine zs (by omega) ?_ | refine zq6 ?_ | refine zs (by dsimp only; omega) ?_ | refine zs (show pendP _ _ by repeat' constructor) ?_ | (with_reducible first | refine brT ‹_› ?_ | refine brF ‹_› ?_ | refine zt (by omega) ?_ | refine zf (by omega) ?_ | refine brNot ?_)); conv => whnf))
  | some i =>
    conv => whnf
    repeat' (first | exact rfl | (refine lf seat_g c1 ?_; conv => whnf) | (refine lf seat_g c2 ?_; conv => whnf) | ((first | refine zs (by omega) ?_ | refine zq6 ?_ | refine zs (by dsimp only; omega) ?_ | refine zs (show pendP _ _ by repeat' constructor) ?_ | (with_reducible first | refine brT ‹_› ?_ | refine brF ‹_› ?_ | refine zt (by omega) ?_ | refine zf (by omega) ?_ | refine brNot ?_)); conv => whnf))
theorem c_lpoint (x y : Int) (hx : -1000 ≤ x ∧ x ≤ 1000) (hy : -1000 ≤ y ∧ y ≤ 1000) : ACalls seat 16 [.int .i64 x, .int .i64 y] [] (fun r _ => r = .ret (ptI x y).a) := by
  refine ACalls.body seat_ok Tryd.func16 rfl rfl ?_
  have e : (2 : Int) ^ min (Int.toNat 16) (IntKind.bits .i64) = 65536 := rfl
  have w1 : IntKind.wrap .i64 (x * 2 ^ min (Int.toNat 16) (IntKind.bits .i64)) = x * 65536 := by rw [e]; exact wrap_i64 (by omega) (by omega)
  have w2 : IntKind.wrap .i64 (y * 2 ^ min (Int.toNat 16) (IntKind.bits .i64)) = y * 65536 := by rw [e]; exact wrap_i64 (by omega) (by omega)
  conv => whnf
  repeat' (first | exact rfl | (refine WrapH.is _ w1 ?_; conv => whnf) | (refine WrapH.is _ w2 ?_; conv => whnf) | ((first | refine zs (by omega) ?_ | refine zq6 ?_ | refine zs (by dsimp only; omega) ?_ | refine zs (show pendP _ _ by repeat' constructor) ?_ | (with_reducible first | refine brT ‹_› ?_ | refine brF ‹_› ?_ | refine zt (by omega) ?_ | refine zf (by omega) ?_ | refine brNot ?_)); conv => whnf))
set_option maxRecDepth 20000 in
theorem c_rsame (L : List Sg) (hl : L.length ≤ 100000) : ACalls seat 10 [sgV L, sgV L] [] (fun x _ => x = .ret (.bool true)) := by
  refine ACalls.body seat_ok Tryd.func10 rfl rfl ?_
  unfold sgV
  conv => whnf
  repeat' ((first | refine zs (by omega) ?_ | refine zq6 ?_ | refine zs (by dsimp only; omega) ?_ | refine zs (show pendP _ _ by repeat' constructor) ?_ | (with_reducible first | refine brT ‹_› ?_ | refine brF ‹_› ?_ | refine zt (by omega) ?_ | refine zf (by omega) ?_ | refine brNot ?_)); conv => whnf)
  refine Sat.cut (fun x t h => x = .exit 0 ∧ t = (uu::uu::uu::uu::uu::uu::uu::uu::uu::uu::uu::uu::uu::uu::uu::uu::uu::uu::uu::uu::uu::uu::uu::uu::uu::uu::[])) ?_ ?_
  · refine Sat.invP seat_ok seat_g (maskOf 26 [0, 1, 5]) 0 (fun μ t h => ∃ i : Nat, i ≤ L.length ∧ μ = L.length - i ∧ t = (.vec (cs sgC L) L.length none::.vec (cs sgC L) L.length none::uu::uu::uu::.int .i64 i::uu::uu::uu::uu::uu::uu::uu::uu::uu::uu::uu::uu::uu::uu::uu::uu::uu::uu::uu::uu::[]) ∧ h = [])
      ?_ ⟨_, _, WeakL.of_eq rfl, 0, Nat.zero_le _, rfl, rfl, rfl⟩ ?_
    · rintro _ _ _ ⟨i, -, -, rfl, rfl⟩
      exact ⟨rfl, by simp [IdsL, Ids, sg_ids], (by simp [IdsL, Ids, IdsH, IdsC, lv_ids, ci_ids])⟩
    rintro _ _ _ ⟨i, hi, rfl, rfl, rfl⟩
    by_cases g : i < L.length
    · obtain ⟨x, hx⟩ : ∃ x, L[i]? = some x := ⟨_, List.getElem?_eq_getElem g⟩
      have hld : sub (cs sgC L) ((i : Int).toNat * 12) 12 = some (sgC x) := cs_sub sgC_len hx
      have hb : (x.kind == x.kind && (x.to.x == x.to.x && (x.to.y == x.to.y && (x.c1.x == x.c1.x && (x.c1.y == x.c1.y && (x.c2.x == x.c2.x && (x.c2.y == x.c2.y && (x.rx == x.rx && (x.ry == x.ry && (x.turn == x.turn && (x.large == x.large && (x.sweep == x.sweep && true)))))))))))) = true := by simp
      conv => whnf
      repeat' ((first | refine zs (by omega) ?_ | refine zq6 ?_ | refine zs (by dsimp only; omega) ?_ | refine zs (show pendP _ _ by repeat' constructor) ?_ | (with_reducible first | refine brT ‹_› ?_ | refine brF ‹_› ?_ | refine zt (by omega) ?_ | refine zf (by omega) ?_ | refine brNot ?_)); conv => whnf)
      refine DrawH.plan seat_ok (.take 0 (.take 1 (.take 2 (.take 3 (.take 4 (.take 5 (.take 6 (.take 7 (.take 8 Plan.done))))))))) 0 (by kernel_rfl) ?_
      conv => whnf
      repeat' (first | exact ⟨_, _, Nat.sub_lt_sub_left g (Nat.lt_succ_self i), WeakL.of_eq rfl, i + 1, g, rfl, rfl, rfl⟩ | (refine ldI _ hld ?_; conv => whnf) | (refine brNot (brT hb ?_); conv => whnf) | ((first | refine zs (by omega) ?_ | refine zq6 ?_ | refine zs (by dsimp only; omega) ?_ | refine zs (show pendP _ _ by repeat' constructor) ?_ | (with_reducible first | refine brT ‹_› ?_ | refine brF ‹_› ?_ | refine zt (by omega) ?_ | refine zf (by omega) ?_ | refine brNot ?_)); conv => whnf))
    · conv => whnf
      repeat' (first | exact ⟨_, keepT_weak (maskOf 26 []) _, rfl, rfl⟩ | ((first | refine zs (by omega) ?_ | refine zq6 ?_ | refine zs (by dsimp only; omega) ?_ | refine zs (show pendP _ _ by repeat' constructor) ?_ | (with_reducible first | refine brT ‹_› ?_ | refine brF ‹_› ?_ | refine zt (by omega) ?_ | refine zf (by omega) ?_ | refine brNot ?_)); conv => whnf))
  · rintro _ _ _ ⟨rfl, rfl⟩
    conv => whnf
    rfl
set_option maxRecDepth 20000 in
theorem c_wakes : ACalls seat 7 [] [] (fun x _ => x = .ret (.bool true)) := by
  have c1 := c_nparse ex7 (by decide) S7 none (by rw [p7]; exact k7)
  rw [p7] at c1
  unfold parV at c1
  have c2 := c_rsame S7 (by decide)
  have q1 := c_lpoint 1 1 (by decide) (by decide)
  have q2 := c_lpoint 3 1 (by decide) (by decide)
  have q3 := c_lpoint 2 1 (by decide) (by decide)
  unfold sgV at *
  refine ACalls.body seat_ok Tryd.func7 rfl rfl ?_
  conv => whnf
  repeat' (first | exact rfl | (refine lf seat_g c1 ?_; conv => whnf) | (refine CallH.lift seat_g q1 (by simp [Closed, ClosedL]) (Pt.closed _) ?_; conv => whnf) | (refine CallH.lift seat_g q2 (by simp [Closed, ClosedL]) (Pt.closed _) ?_; conv => whnf) | (refine CallH.lift seat_g q3 (by simp [Closed, ClosedL]) (Pt.closed _) ?_; conv => whnf) | (refine CallH.weakA (WeakL.cons (Weak.refl _) (WeakL.cons Weak.tok WeakL.nil)) ?_; refine lf seat_g c2 ?_; conv => whnf) | ((first | refine zs (by omega) ?_ | refine zq6 ?_ | refine zs (by dsimp only; omega) ?_ | refine zs (show pendP _ _ by repeat' constructor) ?_ | (with_reducible first | refine brT ‹_› ?_ | refine brF ‹_› ?_ | refine zt (by omega) ?_ | refine zf (by omega) ?_ | refine brNot ?_)); conv => whnf))
end Go.Proofs.YteicdddheaajlaaDoor
namespace Go.Proofs.YteicdddheaajlaaDoor
open Go.Abs
def allA : List UInt8 → List Int → Bool
  | k :: ks, v :: vs => if v ≤ -4294967296 ∨ v ≥ 4294967296 ∨ (k = 117 ∧ v < 0) ∨ ((k = 103 ∨ k = 102) ∧ v ≠ 0 ∧ v ≠ 1) then false else allA ks vs
  | _, _ => true
def rightR (c : Int) (vals : List Int) : Bool := match ofN c with
  | some x => if vals.length = x.2.length then allA x.2 vals else false
  | none => false
theorem pofV_none {c : Int} (h : ofN c = none) : pofV c = .tup [.agg [.int .u8 0, .str []], .bool false] := by unfold pofV; rw [h]
theorem pofV_some {c : Int} {x : Int × List UInt8} (h : ofN c = some x) : pofV c = .tup [.agg [.int .u8 x.1, .str x.2], .bool true] := by unfold pofV; rw [h]
set_option maxRecDepth 20000 in
set_option maxHeartbeats 1000000 in
theorem c_right (c : Int) (vals : List Int) (hc : 0 ≤ c ∧ c < 256) (hl : vals.length ≤ 100000) : ACalls seat 23 [.agg [.int .u8 c, .vec (ci .i64 vals) vals.length none]] [] (fun x _ => x = .ret (.bool (rightR c vals))) := by
  refine ACalls.body seat_ok Tryd.func23 rfl rfl ?_
  have cf := c_pof c hc
  cases h : ofN c with
  | none =>
    have hr : rightR c vals = false := by unfold rightR; rw [h]
    rw [hr]
    rw [pofV_none h] at cf
    clear hr h
    conv => whnf
    repeat' (first | exact rfl | (refine lf seat_g cf ?_; conv => whnf) | (refine Req.mk (by decide) ?_; conv => whnf) | ((first | refine zs (by omega) ?_ | refine zq6 ?_ | refine zs (by dsimp only; omega) ?_ | refine zs (show pendP _ _ by repeat' constructor) ?_ | (with_reducible first | refine brT ‹_› ?_ | refine brF ‹_› ?_ | refine zt (by omega) ?_ | refine zf (by omega) ?_ | refine brNot ?_)); conv => whnf))
  | some y =>
    have hx := sign_ok h
    have hr : rightR c vals = if vals.length = y.2.length then allA y.2 vals else false := by unfold rightR; rw [h]
    rw [hr]
    rw [pofV_some h] at cf
    obtain ⟨a, ks⟩ := y
    simp only at cf hr hx ⊢
    clear hr h
    by_cases hle : vals.length = ks.length
    · rw [if_pos hle]
      have hle2 : ((vals.length : Int) != (ks.length : Int)) = false := by simp; omega
      generalize hR : allA ks vals = R
      conv => whnf
      repeat' (first | (refine lf seat_g cf ?_; conv => whnf) | (refine Req.mk (by decide) ?_; conv => whnf) | (refine brF hle2 ?_; conv => whnf) | ((first | refine zs (by omega) ?_ | refine zq6 ?_ | refine zs (by dsimp only; omega) ?_ | refine zs (show pendP _ _ by repeat' constructor) ?_ | (with_reducible first | refine brT ‹_› ?_ | refine brF ‹_› ?_ | refine zt (by omega) ?_ | refine zf (by omega) ?_ | refine brNot ?_)); conv => whnf))
      refine Sat.cut (fun x t h => (x = .ret ∧ R = false ∧ t = (uu::uu::.bool false::uu::uu::uu::uu::uu::uu::uu::uu::uu::uu::uu::uu::uu::uu::uu::uu::uu::uu::uu::uu::uu::uu::uu::uu::uu::uu::uu::uu::uu::uu::uu::uu::uu::uu::uu::uu::uu::uu::uu::uu::uu::uu::uu::uu::uu::uu::uu::uu::uu::uu::uu::uu::uu::uu::uu::uu::uu::uu::uu::uu::uu::uu::uu::uu::uu::uu::[])) ∨ (x = .exit 0 ∧ R = true ∧ t = (uu::uu::uu::uu::uu::uu::uu::uu::uu::uu::uu::uu::uu::uu::uu::uu::uu::uu::uu::uu::uu::uu::uu::uu::uu::uu::uu::uu::uu::uu::uu::uu::uu::uu::uu::uu::uu::uu::uu::uu::uu::uu::uu::uu::uu::uu::uu::uu::uu::uu::uu::uu::uu::uu::uu::uu::uu::uu::uu::uu::uu::uu::uu::uu::uu::uu::uu::uu::uu::[]))) ?_ ?_
      · refine Sat.invP seat_ok seat_g (maskOf 69 [3, 25, 26, 27]) 2 (fun μ t h => ∃ (i : Nat) (z : Int), z = i ∧ i ≤ vals.length ∧ allA (ks.drop i) (vals.drop i) = R ∧ μ = vals.length - i ∧ t = (uu::uu::uu::.ptr 1 0::uu::uu::uu::uu::uu::uu::uu::uu::uu::uu::uu::uu::uu::uu::uu::uu::uu::uu::uu::uu::uu::.vec (ci .i64 vals) vals.length none::.int .i64 vals.length::.int .i64 z::uu::uu::uu::uu::uu::uu::uu::uu::uu::uu::uu::uu::uu::uu::uu::uu::uu::uu::uu::uu::uu::uu::uu::uu::uu::uu::uu::uu::uu::uu::uu::uu::uu::uu::uu::uu::uu::uu::uu::uu::uu::[]) ∧ h = [.var [.int .u8 c, .vec (ci .i64 vals) vals.length none] 37, .var [.int .u8 a, .str ks] 78])
          ?_ ⟨_, _, WeakL.of_eq rfl, 0, 0, rfl, by omega, by rw [List.drop_zero, List.drop_zero]; exact hR, rfl, rfl, rfl⟩ ?_
        · rintro _ _ _ ⟨i, z, -, -, -, -, rfl, rfl⟩
          exact ⟨rfl, by simp [IdsL, Ids, ci_ids], by simp [IdsH, IdsC, IdsL, Ids, ci_ids]⟩
        rintro _ _ _ ⟨i, z, hz, hi, hA, rfl, rfl, rfl⟩
        clear cf hR
        by_cases g : i < vals.length
        · obtain ⟨v, hv⟩ : ∃ v, vals[i]? = some v := ⟨_, List.getElem?_eq_getElem g⟩
          obtain ⟨k, hk⟩ : ∃ k, ks[i]? = some k := ⟨_, List.getElem?_eq_getElem (by omega)⟩
          have hld : sub (ci .i64 vals) (z.toNat * 1) 1 = some [.int .i64 v] := by rw [show z.toNat = i by omega]; exact ci_sub .i64 hv
          have hlk : ks[z.toNat]? = some k := by rw [show z.toNat = i by omega]; exact hk
          have gz : z < vals.length := by omega
          have gk : z < ks.length := by omega
          rw [drop_cons' hv, drop_cons' hk] at hA
          simp only [allA] at hA
          have t117 : k = 117 ↔ (k.toNat : Int) = 117 := ⟨fun h => by rw [h]; rfl, fun h => UInt8.toNat_inj.1 (by show k.toNat = 117; omega)⟩
          have t103 : k = 103 ↔ (k.toNat : Int) = 103 := ⟨fun h => by rw [h]; rfl, fun h => UInt8.toNat_inj.1 (by show k.toNat = 103; omega)⟩
          have t102 : k = 102 ↔ (k.toNat : Int) = 102 := ⟨fun h => by rw [h]; rfl, fun h => UInt8.toNat_inj.1 (by show k.toNat = 102; omega)⟩
          simp only [t117, t103, t102] at hA
          clear t117 t103 t102
          have hcs : (v ≤ -4294967296) ∨ (¬ v ≤ -4294967296 ∧ v ≥ 4294967296) ∨ (¬ v ≤ -4294967296 ∧ ¬ v ≥ 4294967296 ∧ (k.toNat : Int) = 117 ∧ v < 0) ∨ (¬ v ≤ -4294967296 ∧ ¬ v ≥ 4294967296 ∧ (k.toNat : Int) = 103 ∧ v ≠ 0 ∧ v ≠ 1) ∨ (¬ v ≤ -4294967296 ∧ ¬ v ≥ 4294967296 ∧ (k.toNat : Int) = 102 ∧ v ≠ 0 ∧ v ≠ 1) ∨
              (¬ v ≤ -4294967296 ∧ ¬ v ≥ 4294967296 ∧ (k.toNat : Int) = 117 ∧ ¬ v < 0) ∨ (¬ v ≤ -4294967296 ∧ ¬ v ≥ 4294967296 ∧ (k.toNat : Int) = 103 ∧ v = 0) ∨ (¬ v ≤ -4294967296 ∧ ¬ v ≥ 4294967296 ∧ (k.toNat : Int) = 102 ∧ v = 0) ∨ (¬ v ≤ -4294967296 ∧ ¬ v ≥ 4294967296 ∧ (k.toNat : Int) = 103 ∧ v = 1) ∨ (¬ v ≤ -4294967296 ∧ ¬ v ≥ 4294967296 ∧ (k.toNat : Int) = 102 ∧ v = 1) ∨ (¬ v ≤ -4294967296 ∧ ¬ v ≥ 4294967296 ∧ (k.toNat : Int) ≠ 117 ∧ (k.toNat : Int) ≠ 103 ∧ (k.toNat : Int) ≠ 102) := by omega
          rcases hcs with h1 | ⟨h1, h2⟩ | ⟨h1, h2, h3, h4⟩ | ⟨h1, h2, h3, h4, h5⟩ | ⟨h1, h2, h3, h4, h5⟩ | ⟨h1, h2, h3, h4⟩ | ⟨h1, h2, h3, h4⟩ | ⟨h1, h2, h3, h4⟩ | ⟨h1, h2, h3, h4⟩ | ⟨h1, h2, h3, h4⟩ | ⟨h1, h2, h3, h4, h5⟩
          all_goals
            first
              | (have hA : false = R := by rw [if_pos (by omega)] at hA; exact hA
                 have hA := hA.symm
                 conv => whnf
                 repeat' (first | exact ⟨_, keepT_weak (maskOf 69 [2]) _, .inl ⟨rfl, hA, rfl⟩⟩ | (refine ldI _ hld ?_; conv => whnf) | (refine ldI _ hlk ?_; conv => whnf) | ((first | refine zs (by omega) ?_ | refine zq6 ?_ | refine zs (by dsimp only; omega) ?_ | refine zs (show pendP _ _ by repeat' constructor) ?_ | (with_reducible first | refine brT ‹_› ?_ | refine brF ‹_› ?_ | refine zt (by omega) ?_ | refine zf (by omega) ?_ | refine brNot ?_)); conv => whnf)))
              | (rw [if_neg (by omega)] at hA
                 conv => whnf
                 repeat' (first | exact ⟨_, _, Nat.sub_lt_sub_left g (Nat.lt_succ_self i), WeakL.of_eq rfl, i + 1, z + 1, by omega, by omega, hA, rfl, rfl, rfl⟩ | (refine ldI _ hld ?_; conv => whnf) | (refine ldI _ hlk ?_; conv => whnf) | ((first | refine zs (by omega) ?_ | refine zq6 ?_ | refine zs (by dsimp only; omega) ?_ | refine zs (show pendP _ _ by repeat' constructor) ?_ | (with_reducible first | refine brT ‹_› ?_ | refine brF ‹_› ?_ | refine zt (by omega) ?_ | refine zf (by omega) ?_ | refine brNot ?_)); conv => whnf)))
        · obtain rfl : i = vals.length := by omega
          have gz : ¬ (z < vals.length) := by omega
          have hA : true = R := by rw [hle, List.drop_length] at hA; exact hA
          have hA := hA.symm
          conv => whnf
          repeat' (first | exact ⟨_, keepT_weak (maskOf 69 []) _, .inr ⟨rfl, hA, rfl⟩⟩ | ((first | refine zs (by omega) ?_ | refine zq6 ?_ | refine zs (by dsimp only; omega) ?_ | refine zs (show pendP _ _ by repeat' constructor) ?_ | (with_reducible first | refine brT ‹_› ?_ | refine brF ‹_› ?_ | refine zt (by omega) ?_ | refine zf (by omega) ?_ | refine brNot ?_)); conv => whnf))
      · rintro _ _ _ (⟨rfl, h1, rfl⟩ | ⟨rfl, h1, rfl⟩)
        · subst h1
          conv => whnf
          rfl
        · subst h1
          conv => whnf
          rfl
    · rw [if_neg hle]
      have hle2 : ((vals.length : Int) != (ks.length : Int)) = true := by simp; omega
      conv => whnf
      repeat' (first | exact rfl | (refine lf seat_g cf ?_; conv => whnf) | (refine Req.mk (by decide) ?_; conv => whnf) | (refine brT hle2 ?_; conv => whnf) | ((first | refine zs (by omega) ?_ | refine zq6 ?_ | refine zs (by dsimp only; omega) ?_ | refine zs (show pendP _ _ by repeat' constructor) ?_ | (with_reducible first | refine brT ‹_› ?_ | refine brF ‹_› ?_ | refine zt (by omega) ?_ | refine zf (by omega) ?_ | refine brNot ?_)); conv => whnf))
end Go.Proofs.YteicdddheaajlaaDoor
namespace Go.Proofs.YteicdddheaajlaaDoor
open Go.Abs
theorem cs_take {α : Type} {f : α → List AV} {sz : Nat} (hf : ∀ a, (f a).length = sz) : ∀ (l : List α) (i : Nat), (cs f l).take (i * sz) = cs f (l.take i)
  | l, 0 => by simp [cs]
  | [], i + 1 => by simp [cs]
  | a :: l, i + 1 => by
    have := cs_take hf l i
    simp only [cs, List.flatMap_cons, List.take_succ_cons] at this ⊢
    rw [← this, Nat.succ_mul, Nat.add_comm, ← hf a, List.take_length_add_append]
theorem cmd_first (G : List (UInt8 × List Int)) (z : Int) (n : Nat) (hz : z = n) (hn : n ≤ G.length) : AV.vec (((cs cmdC G).drop ((0 : Int).toNat * 2)).take ((z.toNat - (0 : Int).toNat) * 2)) (z.toNat - (0 : Int).toNat) none = cmdV (G.take n) := by
  subst hz
  unfold cmdV
  rw [Int.toNat_natCast, show (0 : Int).toNat = 0 from rfl, Nat.zero_mul, List.drop_zero, Nat.sub_zero, cs_take cmdC_len, List.length_take, Nat.min_eq_left hn]
theorem first_closed (G : List (UInt8 × List Int)) (a b n : Nat) : Closed (.vec (((cs cmdC G).drop a).take b) n none) := by
  simp only [Closed]
  exact ⟨trivial, ClosedL_iff.2 fun c hc => ClosedL_iff.1 (cmd_closed G) c (List.mem_of_mem_drop (List.mem_of_mem_take hc))⟩
theorem u8_wf {n : Int} (h : (Lit.int .u8 n).wf = true) : ∃ m : Nat, n = m ∧ m < 256 := by
  have h2 : 0 ≤ n ∧ n ≤ 255 := by simpa [Lit.wf, IntKind.min, IntKind.max, IntKind.signed, IntKind.bits] using h
  exact ⟨n.toNat, by omega, by omega⟩
end Go.Proofs.YteicdddheaajlaaDoor
namespace Go.Proofs.YteicdddheaajlaaDoor
open Go.Abs
theorem allA_ok : ∀ (ks : List UInt8) (vs : List Int), ks.length = vs.length → allA ks vs = true → ∀ v ∈ vs, -4294967296 < v ∧ v < 4294967296
  | [], [], _, _, v, h => by cases h
  | k :: ks, w :: vs, hl, ha, v, h => by
    simp only [allA] at ha
    split at ha
    · cases ha
    · rename_i g
      rcases List.mem_cons.1 h with h | h
      · subst h; omega
      · exact allA_ok ks vs (by simpa using hl) ha v h
theorem right_ok {x : UInt8 × List Int} (h : rightR x.1.toNat x.2 = true) : CmdOk x := by
  unfold rightR at h
  split at h
  · rename_i y hy
    split at h
    · rename_i hl; exact ⟨y, hy, hl, allA_ok y.2 x.2 hl.symm h⟩
    · cases h
  · cases h
def badI : List (UInt8 × List Int) → Nat → Option Nat
  | [], _ => none
  | x :: l, i => if rightR x.1.toNat x.2 = true ∧ (i = 0 → (x.1.toNat : Int) = 77 ∨ (x.1.toNat : Int) = 109) then badI l (i + 1) else some i
theorem badI_ok : ∀ (l : List (UInt8 × List Int)) (i : Nat), badI l i = none → ∀ x ∈ l, CmdOk x
  | [], _, _, x, h => by cases h
  | y :: l, i, hb, x, h => by
    rw [badI] at hb
    split at hb
    · rename_i g
      rcases List.mem_cons.1 h with h | h
      · subst h; exact right_ok g.1
      · exact badI_ok l (i + 1) hb x h
    · cases hb
theorem badI_take : ∀ (l : List (UInt8 × List Int)) (i k : Nat), badI l i = none → badI (l.take k) i = none
  | [], _, _, _ => by rw [List.take_nil]; rfl
  | y :: l, i, 0, _ => rfl
  | y :: l, i, k + 1, hb => by
    rw [badI] at hb
    rw [List.take_succ_cons, badI]
    split at hb
    · rename_i g; rw [if_pos g]; exact badI_take l (i + 1) k hb
    · cases hb
def norV (b : Option Nat) (L : List Sg) (r : Option Nat) : AV := match b, r with
  | some i, _ => .tup [.nils, .int .i64 i, .int .i64 1]
  | none, some i => .tup [.nils, .int .i64 i, .int .i64 2]
  | none, none => .tup [sgV L, .int .i64 (-1), .int .i64 0]
set_option maxRecDepth 20000 in
theorem c_normal (C : List (UInt8 × List Int)) (hl : C.length ≤ 100000) (hv : ∀ x ∈ C, x.2.length ≤ 100000) (L : List Sg) (r : Option Nat) (hW : walkN C 0 st0 = (L, r)) :
    ACalls seat 13 [cmdV C] [] (fun x _ => x = .ret (norV (badI C 0) L r)) := by
  refine ACalls.body seat_ok Tryd.func13 rfl rfl ?_
  have cw := fun h => c_nwalk C (badI_ok C 0 h) hl L r hW
  clear hW
  generalize hB : badI C 0 = B at *
  unfold cmdV at *
  conv => whnf
  repeat' ((first | refine zs (by omega) ?_ | refine zq6 ?_ | refine zs (by dsimp only; omega) ?_ | refine zs (show pendP _ _ by repeat' constructor) ?_ | (with_reducible first | refine brT ‹_› ?_ | refine brF ‹_› ?_ | refine zt (by omega) ?_ | refine zf (by omega) ?_ | refine brNot ?_)); conv => whnf)
  refine Sat.cut (fun x t h => (x = .ret ∧ ∃ i : Nat, B = some i ∧ t = (uu::uu::.nils::.int .i64 i::.int .i64 1::uu::uu::uu::uu::uu::uu::uu::uu::uu::uu::uu::uu::uu::uu::uu::uu::uu::uu::uu::uu::uu::uu::uu::uu::uu::uu::uu::uu::uu::uu::uu::uu::uu::uu::uu::uu::uu::uu::uu::uu::uu::uu::[])) ∨ (x = .exit 0 ∧ B = none ∧ t = (.vec (cs cmdC C) C.length none::uu::uu::uu::uu::uu::uu::uu::uu::uu::uu::uu::uu::uu::uu::uu::uu::uu::uu::uu::uu::uu::uu::uu::uu::uu::uu::uu::uu::uu::uu::uu::uu::uu::uu::uu::uu::uu::uu::uu::uu::uu::uu::uu::uu::uu::uu::[]))) ?_ ?_
  · clear cw
    refine Sat.invP seat_ok seat_g (maskOf 47 [0, 10, 11, 12]) 0 (fun μ t h => ∃ i : Nat, i ≤ C.length ∧ badI (C.drop i) i = B ∧ μ = C.length - i ∧ t = (.vec (cs cmdC C) C.length none::uu::uu::uu::uu::uu::uu::uu::uu::uu::.vec (cs cmdC C) C.length none::.int .i64 C.length::.int .i64 i::uu::uu::uu::uu::uu::uu::uu::uu::uu::uu::uu::uu::uu::uu::uu::uu::uu::uu::uu::uu::uu::uu::uu::uu::uu::uu::uu::uu::uu::uu::uu::uu::uu::uu::[]) ∧ h = [])
      ?_ ⟨_, _, WeakL.of_eq rfl, 0, Nat.zero_le _, hB, rfl, rfl, rfl⟩ ?_
    · rintro _ _ _ ⟨i, -, -, -, rfl, rfl⟩
      exact ⟨rfl, by simp [IdsL, Ids, cmd_ids], (by simp [IdsL, Ids, IdsH, IdsC, lv_ids, ci_ids])⟩
    clear hB
    rintro _ _ _ ⟨i, hi, hb, rfl, rfl, rfl⟩
    by_cases g : i < C.length
    · obtain ⟨x, hx⟩ : ∃ x, C[i]? = some x := ⟨_, List.getElem?_eq_getElem g⟩
      have hld : sub (cs cmdC C) ((i : Int).toNat * 2) 2 = some (cmdC x) := cs_sub cmdC_len hx
      have hxb : 0 ≤ (x.1.toNat : Int) ∧ (x.1.toNat : Int) < 256 := by have := UInt8.toNat_lt x.1; omega
      have cr := c_right x.1.toNat x.2 hxb (hv x (List.mem_of_getElem? hx))
      rw [drop_cons' hx, badI] at hb
      clear hv hx
      generalize rightR x.1.toNat x.2 = R at *
      have h5 : (R = false) ∨ (R = true ∧ i ≠ 0) ∨ (R = true ∧ i = 0 ∧ (x.1.toNat : Int) = 77) ∨ (R = true ∧ i = 0 ∧ (x.1.toNat : Int) ≠ 77 ∧ (x.1.toNat : Int) = 109) ∨ (R = true ∧ i = 0 ∧ (x.1.toNat : Int) ≠ 77 ∧ (x.1.toNat : Int) ≠ 109) := by
        cases R with
        | false => exact .inl rfl
        | true =>
          by_cases g1 : i = 0
          · by_cases g2 : (x.1.toNat : Int) = 77
            · exact .inr (.inr (.inl ⟨rfl, g1, g2⟩))
            · by_cases g3 : (x.1.toNat : Int) = 109
              · exact .inr (.inr (.inr (.inl ⟨rfl, g1, g2, g3⟩)))
              · exact .inr (.inr (.inr (.inr ⟨rfl, g1, g2, g3⟩)))
          · exact .inr (.inl ⟨rfl, g1⟩)
      rcases h5 with rfl | ⟨rfl, h1⟩ | ⟨rfl, h1, h2⟩ | ⟨rfl, h1, h2, h3⟩ | ⟨rfl, h1, h2, h3⟩
      all_goals
        first
          | (rw [if_pos ⟨rfl, by omega⟩] at hb
             conv => whnf
             repeat' (first | exact ⟨_, _, Nat.sub_lt_sub_left g (Nat.lt_succ_self i), WeakL.of_eq rfl, i + 1, g, hb, rfl, rfl, rfl⟩ | (refine ldI _ hld ?_; conv => whnf) | (refine lf seat_g cr ?_; conv => whnf) | ((first | refine zs (by omega) ?_ | refine zq6 ?_ | refine zs (by dsimp only; omega) ?_ | refine zs (show pendP _ _ by repeat' constructor) ?_ | (with_reducible first | refine brT ‹_› ?_ | refine brF ‹_› ?_ | refine zt (by omega) ?_ | refine zf (by omega) ?_ | refine brNot ?_)); conv => whnf)))
          | (rw [if_neg (by first | (intro h; cases h.1; done) | (intro h; have := h.2 h1; omega))] at hb
             conv => whnf
             repeat' (first | exact ⟨_, keepT_weak (maskOf 47 [2, 3, 4]) _, .inl ⟨rfl, i, hb.symm, rfl⟩⟩ | (refine ldI _ hld ?_; conv => whnf) | (refine lf seat_g cr ?_; conv => whnf) | ((first | refine zs (by omega) ?_ | refine zq6 ?_ | refine zs (by dsimp only; omega) ?_ | refine zs (show pendP _ _ by repeat' constructor) ?_ | (with_reducible first | refine brT ‹_› ?_ | refine brF ‹_› ?_ | refine zt (by omega) ?_ | refine zf (by omega) ?_ | refine brNot ?_)); conv => whnf)))
    · obtain rfl : i = C.length := by omega
      rw [List.drop_length] at hb
      conv => whnf
      repeat' (first | exact ⟨_, keepT_weak (maskOf 47 [0]) _, .inr ⟨rfl, hb.symm, rfl⟩⟩ | ((first | refine zs (by omega) ?_ | refine zq6 ?_ | refine zs (by dsimp only; omega) ?_ | refine zs (show pendP _ _ by repeat' constructor) ?_ | (with_reducible first | refine brT ‹_› ?_ | refine brF ‹_› ?_ | refine zt (by omega) ?_ | refine zf (by omega) ?_ | refine brNot ?_)); conv => whnf))
  · rintro _ _ _ (⟨rfl, i, rfl, rfl⟩ | ⟨rfl, rfl, rfl⟩)
    · conv => whnf
      rfl
    · have c := cw rfl
      unfold sgV at c
      unfold norV sgV
      clear cw
      cases r with
      | none =>
        conv => whnf
        repeat' (first | exact rfl | (refine lf seat_g c ?_; conv => whnf) | ((first | refine zs (by omega) ?_ | refine zq6 ?_ | refine zs (by dsimp only; omega) ?_ | refine zs (show pendP _ _ by repeat' constructor) ?_ | (with_reducible first | refine brT ‹_› ?_ | refine brF ‹_› ?_ | refine zt (by omega) ?_ | refine zf (by omega) ?_ | refine brNot ?_)); conv => whnf))
      | some i =>
        conv => whnf
        repeat' (first | exact rfl | (refine lf seat_g c ?_; conv => whnf) | ((first | refine zs (by omega) ?_ | refine zq6 ?_ | refine zs (by dsimp only; omega) ?_ | refine zs (show pendP _ _ by repeat' constructor) ?_ | (with_reducible first | refine brT ‹_› ?_ | refine brF ‹_› ?_ | refine zt (by omega) ?_ | refine zf (by omega) ?_ | refine brNot ?_)); conv => whnf))
set_option maxRecDepth 20000 in
theorem c_great (C : List (UInt8 × List Int)) (m : Int) (hm : 0 ≤ m ∧ m ≤ 1000) : ∃ b : Bool, ACalls seat 11 [cmdV C, .int .i64 m] [] (fun x _ => x = .ret (.bool b)) ∧ (b = false → (C.length : Int) ≤ m ∧ ∀ x ∈ C, x.2.length ≤ 20) := by
  by_cases g0 : (C.length : Int) > m
  · refine ⟨true, ?_, fun h => by cases h⟩
    refine ACalls.body seat_ok Tryd.func11 rfl rfl ?_
    unfold cmdV
    conv => whnf
    repeat' ((first | refine zs (by omega) ?_ | refine zq6 ?_ | refine zs (by dsimp only; omega) ?_ | refine zs (show pendP _ _ by repeat' constructor) ?_ | (with_reducible first | refine brT ‹_› ?_ | refine brF ‹_› ?_ | refine zt (by omega) ?_ | refine zf (by omega) ?_ | refine brNot ?_)); conv => whnf)
    rfl
  · refine ⟨C.any fun x => decide (20 < x.2.length), ?_, fun h => ⟨by omega, fun x hx => ?_⟩⟩
    rotate_left
    · apply Nat.le_of_not_lt; intro h2
      have := List.any_eq_false.1 h x hx
      exact this (decide_eq_true h2)
    refine ACalls.body seat_ok Tryd.func11 rfl rfl ?_
    generalize hB : (C.any fun x => decide (20 < x.2.length)) = B
    unfold cmdV
    conv => whnf
    repeat' ((first | refine zs (by omega) ?_ | refine zq6 ?_ | refine zs (by dsimp only; omega) ?_ | refine zs (show pendP _ _ by repeat' constructor) ?_ | (with_reducible first | refine brT ‹_› ?_ | refine brF ‹_› ?_ | refine zt (by omega) ?_ | refine zf (by omega) ?_ | refine brNot ?_)); conv => whnf)
    refine Sat.cut (fun x t h => (x = .ret ∧ B = true ∧ t = (uu::uu::uu::uu::.bool true::uu::uu::uu::uu::uu::uu::uu::uu::uu::uu::uu::uu::uu::uu::uu::uu::uu::uu::[])) ∨ (x = .exit 0 ∧ B = false ∧ t = (uu::uu::uu::uu::uu::uu::uu::uu::uu::uu::uu::uu::uu::uu::uu::uu::uu::uu::uu::uu::uu::uu::uu::[]))) ?_ ?_
    · refine Sat.invP seat_ok seat_g (maskOf 23 [0, 5]) 0 (fun μ t h => ∃ i : Nat, i ≤ C.length ∧ ((C.drop i).any fun x => decide (20 < x.2.length)) = B ∧ μ = C.length - i ∧ t = (.vec (cs cmdC C) C.length none::uu::uu::uu::uu::.int .i64 i::uu::uu::uu::uu::uu::uu::uu::uu::uu::uu::uu::uu::uu::uu::uu::uu::uu::[]) ∧ h = [])
        ?_ ⟨_, _, WeakL.of_eq rfl, 0, Nat.zero_le _, hB, rfl, rfl, rfl⟩ ?_
      · rintro _ _ _ ⟨i, -, -, -, rfl, rfl⟩
        exact ⟨rfl, by simp [IdsL, Ids, cmd_ids], (by simp [IdsL, Ids, IdsH, IdsC, lv_ids, ci_ids])⟩
      clear hB
      rintro _ _ _ ⟨i, hi, hb, rfl, rfl, rfl⟩
      by_cases g : i < C.length
      · obtain ⟨x, hx⟩ : ∃ x, C[i]? = some x := ⟨_, List.getElem?_eq_getElem g⟩
        have hld : sub (cs cmdC C) ((i : Int).toNat * 2) 2 = some (cmdC x) := cs_sub cmdC_len hx
        rw [drop_cons' hx, List.any_cons] at hb
        clear hx
        by_cases h2 : 20 < x.2.length
        · rw [decide_eq_true h2, Bool.true_or] at hb
          conv => whnf
          repeat' (first | exact ⟨_, keepT_weak (maskOf 23 [4]) _, .inl ⟨rfl, hb.symm, rfl⟩⟩ | (refine ldI _ hld ?_; conv => whnf) | ((first | refine zs (by omega) ?_ | refine zq6 ?_ | refine zs (by dsimp only; omega) ?_ | refine zs (show pendP _ _ by repeat' constructor) ?_ | (with_reducible first | refine brT ‹_› ?_ | refine brF ‹_› ?_ | refine zt (by omega) ?_ | refine zf (by omega) ?_ | refine brNot ?_)); conv => whnf))
        · rw [decide_eq_false h2, Bool.false_or] at hb
          conv => whnf
          repeat' (first | exact ⟨_, _, Nat.sub_lt_sub_left g (Nat.lt_succ_self i), WeakL.of_eq rfl, i + 1, g, hb, rfl, rfl, rfl⟩ | (refine ldI _ hld ?_; conv => whnf) | ((first | refine zs (by omega) ?_ | refine zq6 ?_ | refine zs (by dsimp only; omega) ?_ | refine zs (show pendP _ _ by repeat' constructor) ?_ | (with_reducible first | refine brT ‹_› ?_ | refine brF ‹_› ?_ | refine zt (by omega) ?_ | refine zf (by omega) ?_ | refine brNot ?_)); conv => whnf))
      · obtain rfl : i = C.length := by omega
        rw [List.drop_length] at hb
        conv => whnf
        repeat' (first | exact ⟨_, keepT_weak (maskOf 23 []) _, .inr ⟨rfl, hb.symm, rfl⟩⟩ | ((first | refine zs (by omega) ?_ | refine zq6 ?_ | refine zs (by dsimp only; omega) ?_ | refine zs (show pendP _ _ by repeat' constructor) ?_ | (with_reducible first | refine brT ‹_› ?_ | refine brF ‹_› ?_ | refine zt (by omega) ?_ | refine zf (by omega) ?_ | refine brNot ?_)); conv => whnf))
    · rintro _ _ _ (⟨rfl, rfl, rfl⟩ | ⟨rfl, rfl, rfl⟩)
      · conv => whnf
        rfl
      · conv => whnf
        rfl
theorem sfirst_closed (G : List Sg) (a b n : Nat) : Closed (.vec (((cs sgC G).drop a).take b) n none) := by
  simp only [Closed]
  exact ⟨trivial, ClosedL_iff.2 fun c hc => ClosedL_iff.1 (sg_closed G) c (List.mem_of_mem_drop (List.mem_of_mem_take hc))⟩
theorem doS_pre (s : St) (c : Int) (n : List Int) : s.out <+: (doS s c n).out := by
  have ho : s.out <+: (opS (bigI c) s).out := by
    unfold opS; split
    · exact List.prefix_append _ _
    · exact List.prefix_rfl
  refine ho.trans ?_
  have hm : ∀ a b, (mirS (opS (bigI c) s) a b).out = (opS (bigI c) s).out := fun a b => by unfold mirS; split <;> rfl
  show _ <+: (actS (bigI c) (frS c s) n (opS (bigI c) s)).out
  unfold actS
  repeat' split
  all_goals first | exact List.prefix_append _ _ | (show _ <+: (mirS (opS (bigI c) s) _ _).out ++ [_]; rw [hm]; exact List.prefix_append _ _)
theorem doS_len (s : St) (c : Int) (n : List Int) : (doS s c n).out.length ≤ s.out.length + 2 := by
  have ho := opS_out (bigI c) s
  have hm : ∀ a b, (mirS (opS (bigI c) s) a b).out = (opS (bigI c) s).out := fun a b => by unfold mirS; split <;> rfl
  have h1 : ∀ x : Sg, ((opS (bigI c) s).out ++ [x]).length ≤ s.out.length + 2 := fun x => by rw [List.length_append, List.length_singleton]; omega
  show (actS (bigI c) (frS c s) n (opS (bigI c) s)).out.length ≤ _
  unfold actS
  repeat' split
  all_goals first | exact h1 _ | (show ((mirS (opS (bigI c) s) _ _).out ++ [_]).length ≤ _; rw [hm]; exact h1 _)
theorem walkN_len : ∀ (C : List (UInt8 × List Int)) (i : Nat) (s : St), (walkN C i s).1.length ≤ s.out.length + 2 * C.length
  | [], _, s => by simp [walkN]
  | x :: C, i, s => by
    have h1 := walkN_len C (i + 1) (doS s x.1.toNat x.2)
    have h2 := doS_len s x.1.toNat x.2
    rw [walkN]
    split
    · dsimp only; omega
    · rw [List.length_cons]; omega
theorem walkN_pre : ∀ (C : List (UInt8 × List Int)) (i : Nat) (s : St) (L : List Sg), walkN C i s = (L, none) → s.out <+: L
  | [], _, s, L, h => by cases h; exact List.prefix_rfl
  | x :: C, i, s, L, h => by
    rw [walkN] at h
    split at h
    · cases h
    · exact (doS_pre s _ _).trans (walkN_pre C (i + 1) _ L h)
theorem walkN_take : ∀ (C : List (UInt8 × List Int)) (i k : Nat) (s : St) (L : List Sg), walkN C i s = (L, none) → ∃ L2, walkN (C.take k) i s = (L2, none) ∧ L2 <+: L
  | [], _, _, s, L, h => by rw [List.take_nil]; exact ⟨L, h, List.prefix_rfl⟩
  | x :: C, i, 0, s, L, h => ⟨s.out, rfl, walkN_pre _ _ _ _ h⟩
  | x :: C, i, k + 1, s, L, h => by
    rw [walkN] at h
    rw [List.take_succ_cons, walkN]
    split at h
    · cases h
    · rename_i g; rw [if_neg g]; exact walkN_take C (i + 1) k _ L h
set_option maxRecDepth 20000 in
theorem l_normSplits (C : List (UInt8 × List Int)) (cut : Nat) (hs : cut < 256) : ACalls seat 5 [cmdV C, .int .u8 cut] [] (fun x _ => x = .ret (.bool true)) := by
  refine ACalls.body seat_ok Tryd.func5 rfl rfl ?_
  obtain ⟨b, cg, hb⟩ := c_great C 30 (by decide)
  cases b with
  | true =>
    clear hb
    unfold cmdV at *
    conv => whnf
    repeat' (first | exact rfl | (refine CallH.lift seat_g c_wakes trivial (by simp [Closed]) ?_; conv => whnf) | (refine lf seat_g cg ?_; conv => whnf) | ((first | refine zs (by omega) ?_ | refine zq6 ?_ | refine zs (by dsimp only; omega) ?_ | refine zs (show pendP _ _ by repeat' constructor) ?_ | (with_reducible first | refine brT ‹_› ?_ | refine brF ‹_› ?_ | refine zt (by omega) ?_ | refine zf (by omega) ?_ | refine brNot ?_)); conv => whnf))
  | false =>
    obtain ⟨h1, h2⟩ := hb rfl
    obtain ⟨⟨L, r⟩, hW⟩ : ∃ p, walkN C 0 st0 = p := ⟨_, rfl⟩
    have c1 := c_normal C (by omega) (fun x hx => by have := h2 x hx; omega) L r hW
    have hk1 : cut % (C.length + 1) ≤ C.length := Nat.le_of_lt_succ (Nat.mod_lt _ (by omega))
    obtain ⟨k, hk⟩ : ∃ k, cut % (C.length + 1) = k := ⟨_, rfl⟩
    rw [hk] at hk1
    have hz : Int.tmod (cut : Int) ((C.length : Int) + 1) = k := by rw [← hk]; rfl
    clear hk
    have h3 : (∃ i : Nat, badI C 0 = some i) ∨ (badI C 0 = none ∧ ∃ i, r = some i) ∨ (badI C 0 = none ∧ r = none ∧ ∃ L2, L2.length ≤ L.length ∧ ACalls seat 13 [.vec (((cs cmdC C).drop ((0 : Int).toNat * 2)).take (((k : Int).toNat - (0 : Int).toNat) * 2)) ((k : Int).toNat - (0 : Int).toNat) none] [] (fun x _ => x = .ret (.tup [sgV L2, .int .i64 (-1), .int .i64 0])) ∧
        ACalls seat 10 [sgV L2, .vec (((cs sgC L).drop ((0 : Int).toNat * 12)).take ((((L2.length : Nat) : Int).toNat - (0 : Int).toNat) * 12)) (((L2.length : Nat) : Int).toNat - (0 : Int).toNat) none] [] (fun x _ => x = .ret (.bool true))) := by
      cases hB : badI C 0 with
      | some i => exact .inl ⟨i, rfl⟩
      | none =>
        cases r with
        | some i => exact .inr (.inl ⟨rfl, i, rfl⟩)
        | none =>
          obtain ⟨L2, hW2, hp⟩ := walkN_take C 0 k st0 L hW
          have hll := List.IsPrefix.length_le hp
          have c2 := c_normal (C.take k) (by rw [List.length_take]; omega) (fun x hx => by have := h2 x (List.mem_of_mem_take hx); omega) L2 none hW2
          rw [badI_take C 0 k hB] at c2
          rw [← cmd_first C (k : Int) k rfl hk1] at c2
          have hL2 := walkN_len (C.take k) 0 st0
          rw [hW2, List.length_take] at hL2
          have c3 := c_rsame L2 (by have : st0.out.length = 0 := rfl; simp only at hL2; omega)
          refine .inr (.inr ⟨rfl, rfl, L2, hll, c2, ?_⟩)
          rw [sg_first L L2.length hll, ← List.prefix_iff_eq_take.1 hp]
          exact c3
    clear hW h2
    rcases h3 with ⟨i, h3⟩ | ⟨h3, i, rfl⟩ | ⟨h3, rfl, L2, h4, c2, c3⟩
    all_goals
      rw [h3] at c1
      unfold norV sgV at c1
      unfold cmdV at *
      try unfold sgV at c2 c3
      conv => whnf
      repeat' (first | exact rfl | (refine NumH.is (k : Int) hz ?_; conv => whnf) | (refine CallH.lift seat_g c_wakes trivial (by simp [Closed]) ?_; conv => whnf) | (refine lf seat_g cg ?_; conv => whnf) | (refine lf seat_g c1 ?_; conv => whnf) | (refine CallH.lift seat_g c2 ⟨first_closed _ _ _ _, trivial⟩ (by simp [Closed, ClosedL, sg_closed]) ?_; conv => whnf) | (refine CallH.lift seat_g c3 ⟨by simp [Closed, sg_closed], sfirst_closed _ _ _ _, trivial⟩ (by simp [Closed]) ?_; conv => whnf) | ((first | refine zs (by omega) ?_ | refine zq6 ?_ | refine zs (by dsimp only; omega) ?_ | refine zs (show pendP _ _ by repeat' constructor) ?_ | (with_reducible first | refine brT ‹_› ?_ | refine brF ‹_› ?_ | refine zt (by omega) ?_ | refine zf (by omega) ?_ | refine brNot ?_)); conv => whnf))
theorem l_normSplits' (C : List (UInt8 × List Int)) (n : Int) (h : (Lit.int .u8 n).wf = true) : ACalls seat 5 [cmdV C, .int .u8 n] [] (fun x _ => x = .ret (.bool true)) := by
  obtain ⟨m, rfl, hm⟩ := u8_wf h
  exact l_normSplits C m hm
end Go.Proofs.YteicdddheaajlaaDoor
namespace Go.Abs
open Go Go.RowKit Go.ChangeShapes
inductive DK where
  | flat (k : CK)
  | slice (ks : List CK)
def dkFs (g : TypeId → Option (List DK)) : List Field → Nat → Option (List DK)
  | [], _ => some []
  | f :: r, off => if Nat.beq f.offset off = true then (match g f.type with | some a => (match dkFs g r (off + a.length) with | some b => some (a ++ b) | none => none) | none => none) else none
def dkOf (P : Program) : Nat → TypeId → Option (List DK)
  | 0, _ => none
  | d + 1, t =>
    match (match P.underlying t with
      | some (.int k) => some [DK.flat (.int k)]
      | some .bool => some [DK.flat .bool]
      | some .string => some [DK.flat .str]
      | some (.slice e) => (match ckOf P d e with | some ks => if Nat.blt 0 (P.cellsOf e) = true then some [DK.slice ks] else none | none => none)
      | some (.struct fs) => dkFs (dkOf P d) fs.toList 0
      | _ => none) with
    | some a => if Nat.beq a.length (P.cellsOf t) = true then some a else none
    | none => none
def cellD (w : World) : DK → Value → Prop
  | .flat k, c => cellOK k c
  | .slice ks, v => (v = .slice none 0 0) ∨ ∃ (a : Addr) (len cap : Nat), v = .slice (some a) len cap ∧ len ≤ cap ∧ cap ≤ maxLen ∧ (0 < len → a.spot = none) ∧ ∀ i, i < len → ∃ cs, CellsOK ks cs ∧ ∀ j, j < ks.length → w.cell? ⟨a.block, a.off + (i * ks.length + j), none⟩ = cs[j]?
def CellsD (w : World) : List DK → List Value → Prop
  | [], [] => True
  | k :: ks, c :: cs => cellD w k c ∧ CellsD w ks cs
  | _, _ => False
theorem CellsD.cons {w : World} {k : DK} {ks : List DK} {cs : List Value} (h : CellsD w (k :: ks) cs) : ∃ c r, cs = c :: r ∧ cellD w k c ∧ CellsD w ks r := by
  cases cs with
  | nil => exact h.elim
  | cons c r => exact ⟨c, r, rfl, h.1, h.2⟩
theorem CellsD.nil {w : World} {cs : List Value} (h : CellsD w [] cs) : cs = [] := by
  cases cs with
  | nil => rfl
  | cons c r => exact h.elim
theorem CellsD.append {w : World} : ∀ {a b : List DK} {cs ds : List Value}, CellsD w a cs → CellsD w b ds → CellsD w (a ++ b) (cs ++ ds)
  | [], b, [], ds, _, k => k
  | _ :: a, b, _ :: cs, ds, h, k => ⟨h.1, CellsD.append h.2 k⟩
  | [], _, _ :: _, _, h, _ => h.elim
  | _ :: _, _, [], _, h, _ => h.elim
theorem dkOf_length {P : Program} {d : Nat} {t : TypeId} {ks : List DK} (h : dkOf P d t = some ks) : ks.length = P.cellsOf t := by
  cases d with
  | zero => simp [dkOf] at h
  | succ d =>
    unfold dkOf at h
    split at h
    · split at h
      · rename_i hb; cases h; exact Nat.eq_of_beq_eq_true hb
      · cases h
    · cases h
section
variable {H : Type} {enc : TypeId × Value → H} {P : Program} {w : World} {base : Nat} {sp : Nat → Bool} {held : Bool}
theorem dk_trod : ∀ (d : Nat) (t : TypeId) (ks : List DK), dkOf P d t = some ks → ∀ (n : Nat) (cs : List Value) (x : DataW H × List MemPlace), DataW.trod enc P w base sp held n t cs = some x → CellsD w ks cs
  | 0, t, ks, h, _, _, _, _ => by simp [dkOf] at h
  | d + 1, t, ks, h, n, cs, x, ht => by
    have hlen := dkOf_length h
    unfold dkOf at h
    split at h
    case h_2 => cases h
    rename_i a ha
    split at h
    case isFalse => cases h
    cases h
    split at ha
    · rename_i k hu
      cases ha
      obtain ⟨m, rfl, _, hw⟩ := DataW.trod_int hu ht
      exact ⟨⟨m, rfl, hw⟩, trivial⟩
    · rename_i hu
      cases ha
      obtain ⟨b, rfl, _⟩ := DataW.trod_bool hu ht
      exact ⟨⟨b, rfl⟩, trivial⟩
    · rename_i hu
      cases ha
      obtain ⟨s, rfl, _, hs⟩ := DataW.trod_string hu ht
      exact ⟨⟨s, rfl, hs⟩, trivial⟩
    · rename_i e hu
      split at ha
      case h_2 => cases ha
      rename_i ks1 hk1
      split at ha
      case isFalse => cases ha
      rename_i hpos
      cases ha
      have hpos : 0 < P.cellsOf e := by simpa using hpos
      obtain ⟨v, rfl⟩ : ∃ v, cs = [v] := by
        rcases DataW.trod_slice hu ht with ⟨hcs, _⟩ | ⟨a, len, cap, elems, rest, m, _, hcs, _⟩
        · exact ⟨_, hcs⟩
        · exact ⟨_, hcs⟩
      exact ⟨slice_cells hu hk1 hpos ht, trivial⟩
    · rename_i fs hu
      obtain ⟨xs, m, _, _, hcl, hxl, hf⟩ := DataW.trod_struct hu ht
      have key : ∀ (l : List Field) (off j : Nat) (b : List DK), fs.toList.drop j = l → dkFs (dkOf P d) l off = some b → off + b.length = cs.length → CellsD w b (cs.drop off) := by
        intro l
        induction l with
        | nil =>
          intro off j b hl hb hle
          simp only [dkFs, Option.some.injEq] at hb
          subst hb
          rw [List.drop_eq_nil_of_le (by simpa using Nat.le_of_eq hle.symm)]; trivial
        | cons f l ih =>
          intro off j b hl hb hle
          simp only [dkFs] at hb
          split at hb
          case isFalse => cases hb
          rename_i hoff
          have hoff := Nat.eq_of_beq_eq_true hoff
          split at hb
          case h_2 => cases hb
          rename_i a1 ha1
          split at hb
          case h_2 => cases hb
          rename_i b1 hb1
          cases hb
          have hgj : fs[j]? = some f := by
            have : fs.toList[j]? = some f := by rw [← List.head?_drop, hl]; rfl
            simpa using this
          have hjl : j < fs.size := (Array.getElem?_eq_some_iff.1 hgj).1
          have hd := hf j f hgj
          obtain ⟨y, hy⟩ : ∃ y, xs[j]? = some y := ⟨xs[j]'(by omega), List.getElem?_eq_getElem (by omega)⟩
          rw [hy, hoff] at hd
          have h1 := dk_trod d f.type a1 ha1 m _ y hd
          have hl1 := dkOf_length ha1
          have h2 := ih (off + a1.length) (j + 1) b1 (by rw [← List.tail_drop, hl]; rfl) hb1 (by simp at hle; omega)
          have e : cs.drop off = (cs.drop off).take (P.cellsOf f.type) ++ cs.drop (off + a1.length) := by
            rw [hl1, ← List.drop_drop, List.take_append_drop]
          rw [e]
          exact h1.append h2
      have := key fs.toList 0 0 _ rfl ha (by rw [hcl]; omega)
      simpa using this
    · cases ha
theorem slice_vr {α : Type} {f : α → List AV} {I : α → Prop} {ks : List CK} (he : Elem f I ks) {v : Value} (h : cellD w (.slice ks) v) :
    ∃ l : List α, (∀ a ∈ l, I a) ∧ l.length ≤ maxLen ∧ VR (Env.bare (immAll w) w) (.vec (cs f l) l.length none) v := by
  rcases h with rfl | ⟨a, len, cap, rfl, hle, hcm, hsp, hc⟩
  · refine ⟨[], fun a h => absurd h (by simp), Nat.zero_le _, ?_⟩
    simp only [VR]
    exact ⟨none, 0, rfl, Nat.le_refl _, by simp [cs], fun i hi => nomatch hi⟩
  · have key : ∀ m, m ≤ len → ∃ l : List α, l.length = m ∧ ∀ (i : Nat) x, l[i]? = some x → I x ∧ VRI (Env.bare (immAll w) w) (f x) a.block (a.off + i * ks.length) := by
      intro m
      induction m with
      | zero => intro _; exact ⟨[], rfl, fun i x hx => by simp at hx⟩
      | succ m ih =>
        intro hm
        obtain ⟨l, h2, h3⟩ := ih (by omega)
        obtain ⟨cs, hcs, hcell⟩ := hc m (by omega)
        obtain ⟨x, hx, hxv⟩ := he.of cs hcs
        refine ⟨l ++ [x], by simp [h2], fun i y hy => ?_⟩
        rw [List.getElem?_append] at hy
        split at hy
        · exact h3 i y hy
        · rename_i hge
          have : i = m := by
            have := (List.getElem?_eq_some_iff.1 hy).1
            simp at this; omega
          subst this
          rw [h2, Nat.sub_self] at hy
          simp at hy; subst hy
          refine ⟨hx, VRI.of_get fun j c hj => ?_⟩
          obtain ⟨u, hu1, hu2⟩ := (hxv (Env.bare (immAll w) w)).get j c hj
          refine ⟨u, ?_, hu2⟩
          show w.cell? ⟨a.block, a.off + i * ks.length + j, none⟩ = some u
          have hjl : j < ks.length := by rw [← he.len x]; exact (List.getElem?_eq_some_iff.1 hj).1
          rw [Nat.add_assoc, hcell j hjl, hu1]
    obtain ⟨l, h2, h3⟩ := key len (Nat.le_refl _)
    refine ⟨l, fun x hx => ?_, by rw [h2]; exact Nat.le_trans hle hcm, ?_⟩
    · obtain ⟨i, hi⟩ := List.getElem?_of_mem hx
      exact (h3 i x hi).1
    · simp only [VR]
      refine ⟨_, _, by rw [h2], by rw [h2]; exact hle, ?_, fun i hi => nomatch hi⟩
      by_cases h0 : 0 < len
      · right
        refine ⟨a.block, a.off, ?_, vri_list he.len l a.off fun i x hx => (h3 i x hx).2⟩
        have := hsp h0
        cases a; simp_all
      · left
        have : l = [] := List.eq_nil_of_length_eq_zero (by omega)
        subst this; rfl
structure Elem2 {α : Type} (f : α → List AV) (I : α → Prop) (ks : List DK) : Prop where
  len : ∀ a, (f a).length = ks.length
  of : ∀ (w : World) cs, CellsD w ks cs → ∃ a, I a ∧ VRL (Env.bare (immAll w) w) (f a) cs
theorem slice_cellsD {t e : TypeId} {d : Nat} {ks : List DK} {n : Nat} {v : Value} {x : DataW H × List MemPlace} (hu : P.underlying t = some (.slice e)) (hk : dkOf P d e = some ks) (hpos : 0 < P.cellsOf e) (h : DataW.trod enc P w base sp held n t [v] = some x) :
    (v = .slice none 0 0) ∨ ∃ (a : Addr) (len cap : Nat), v = .slice (some a) len cap ∧ len ≤ cap ∧ cap ≤ maxLen ∧ (0 < len → a.spot = none) ∧ ∀ i, i < len → ∃ cs, CellsD w ks cs ∧ ∀ j, j < ks.length → w.cell? ⟨a.block, a.off + (i * ks.length + j), none⟩ = cs[j]? := by
  rcases DataW.trod_slice hu h with ⟨hcs, _⟩ | ⟨a, len, cap, elems, rest, m, _, hcs, _, _, hle, hcm, hel, hg, _⟩
  · exact .inl (by simpa using hcs)
  · have hl := dkOf_length hk
    refine .inr ⟨a, len, cap, by simpa using hcs, hle, hcm, fun h0 => ?_, fun i hi => ?_⟩
    · have := hg 0 h0
      obtain ⟨y, hy⟩ : ∃ y, elems[0]? = some y := ⟨elems[0]'(by omega), List.getElem?_eq_getElem (by omega)⟩
      rw [hy] at this
      simp only [Nat.zero_mul, Option.bind_eq_some_iff] at this
      obtain ⟨cs, hc, _⟩ := this
      obtain ⟨h1, h2⟩ := cells?_get hc
      have h3 := h2 0 hpos
      rw [List.getElem?_eq_getElem (by omega)] at h3
      simp only [Addr.add, if_true, World.cell?] at h3
      split at h3
      · split at h3
        · cases h3
        · rename_i hs; simpa using hs
      · cases h3
    · have := hg i hi
      obtain ⟨y, hy⟩ : ∃ y, elems[i]? = some y := ⟨elems[i]'(by omega), List.getElem?_eq_getElem (by omega)⟩
      rw [hy] at this
      simp only [Option.bind_eq_some_iff] at this
      obtain ⟨cs, hc, ht⟩ := this
      obtain ⟨h1, h2⟩ := cells?_get hc
      refine ⟨cs, dk_trod d e ks hk m cs y ht, fun j hj => ?_⟩
      have e1 : ∀ (u : Value), w.cell? ((a.add (i * P.cellsOf e)).add j) = some u → w.cell? ⟨a.block, a.off + (i * P.cellsOf e + j), none⟩ = some u := by
        intro u hu
        simp only [World.cell?, Addr.add] at hu ⊢
        by_cases hi0 : i * P.cellsOf e = 0
        · by_cases hj0 : j = 0
          · simp only [hi0, hj0, if_true, Nat.add_zero] at hu ⊢
            split at hu
            · split at hu
              · cases hu
              · simpa using hu
            · cases hu
          · simpa only [hi0, hj0, if_true, if_false, Nat.zero_add] using hu
        · by_cases hj0 : j = 0
          · simpa only [hi0, hj0, if_true, if_false, Nat.add_zero] using hu
          · simpa only [hi0, hj0, if_false, Nat.add_assoc] using hu
      have h4 := h2 j (by omega)
      rw [List.getElem?_eq_getElem (by omega)] at h4 ⊢
      rw [hl]; exact e1 _ h4
theorem open_list2 {α : Type} {f : α → List AV} {I : α → Prop} {ks : List DK} (he : Elem2 f I ks) (hks : 0 < ks.length) {r : Reach} {b0 : Nat} {t e : TypeId} {v : Value} {d : DataW H} {ps : List MemPlace} (hu : P.underlying t = some (.slice e)) (hk : dkOf P 9 e = some ks) (hval : Value.okWide P w r b0 t v) (hd : DataW.Trod enc P w base sp held t v d ps) :
    ∃ l : List α, (∀ a ∈ l, I a) ∧ l.length ≤ maxLen ∧ VR (Env.bare (immAll w) w) (.vec (cs f l) l.length none) v := by
  have hl := dkOf_length hk
  have h1 : v.cells.toList = [v] := by
    unfold Value.okWide at hval
    rw [hu] at hval
    simp only [] at hval
    cases v <;> first | rfl | (simp [Cell.okWide, Cell.ok, hu] at hval)
  obtain ⟨n, hn⟩ := hd
  rw [h1] at hn
  rcases slice_cellsD hu hk (by omega) hn with rfl | ⟨a, len, cap, rfl, hle, hcm, hsp, hc⟩
  · refine ⟨[], fun a h => absurd h (by simp), Nat.zero_le _, ?_⟩
    simp only [VR]
    exact ⟨none, 0, rfl, Nat.le_refl _, by simp [cs], fun i hi => nomatch hi⟩
  · have key : ∀ m, m ≤ len → ∃ l : List α, l.length = m ∧ ∀ (i : Nat) x, l[i]? = some x → I x ∧ VRI (Env.bare (immAll w) w) (f x) a.block (a.off + i * ks.length) := by
      intro m
      induction m with
      | zero => intro _; exact ⟨[], rfl, fun i x hx => by simp at hx⟩
      | succ m ih =>
        intro hm
        obtain ⟨l, h2, h3⟩ := ih (by omega)
        obtain ⟨cs, hcs, hcell⟩ := hc m (by omega)
        obtain ⟨x, hx, hxv⟩ := he.of w cs hcs
        refine ⟨l ++ [x], by simp [h2], fun i y hy => ?_⟩
        rw [List.getElem?_append] at hy
        split at hy
        · exact h3 i y hy
        · rename_i hge
          have : i = m := by
            have := (List.getElem?_eq_some_iff.1 hy).1
            simp at this; omega
          subst this
          rw [h2, Nat.sub_self] at hy
          simp at hy; subst hy
          refine ⟨hx, VRI.of_get fun j c hj => ?_⟩
          obtain ⟨u, hu1, hu2⟩ := hxv.get j c hj
          refine ⟨u, ?_, hu2⟩
          show w.cell? ⟨a.block, a.off + i * ks.length + j, none⟩ = some u
          have hjl : j < ks.length := by rw [← he.len x]; exact (List.getElem?_eq_some_iff.1 hj).1
          rw [Nat.add_assoc, hcell j hjl, hu1]
    obtain ⟨l, h2, h3⟩ := key len (Nat.le_refl _)
    refine ⟨l, fun x hx => ?_, by rw [h2]; exact Nat.le_trans hle hcm, ?_⟩
    · obtain ⟨i, hi⟩ := List.getElem?_of_mem hx
      exact (h3 i x hi).1
    · simp only [VR]
      refine ⟨_, _, by rw [h2], by rw [h2]; exact hle, ?_, fun i hi => nomatch hi⟩
      by_cases h0 : 0 < len
      · right
        refine ⟨a.block, a.off, ?_, vri_list he.len l a.off fun i x hx => (h3 i x hx).2⟩
        have := hsp h0
        cases a; simp_all
      · left
        have : l = [] := List.eq_nil_of_length_eq_zero (by omega)
        subst this; rfl
end
end Go.Abs
namespace Go.Proofs.YteicdddheaajlaaDoor
open Go.Abs Go.RowKit
def cmdOK (x : UInt8 × List Int) : Prop := ∀ v ∈ x.2, I64 v
def i64c (n : Int) : List AV := [.int .i64 n]
theorem i64_elem : Elem i64c I64 [.int .i64] where
  len _ := rfl
  of cs h := by
    obtain ⟨a, _, rfl, w1, h⟩ := h.consI
    obtain rfl := h.nil
    exact ⟨a, wf_I64 w1, fun E => by simp [i64c, VRL, VR]⟩
theorem cs_i64 : ∀ l : List Int, cs i64c l = ci .i64 l
  | [] => rfl
  | a :: l => by have := cs_i64 l; simp only [cs, ci, List.flatMap_cons, List.map_cons] at *; rw [this]; rfl
theorem cmd_elem : Elem2 cmdC cmdOK [.flat (.int .u8), .slice [.int .i64]] where
  len _ := rfl
  of w cs h := by
    obtain ⟨c, r, rfl, ⟨n, rfl, w1⟩, g⟩ := h.cons
    obtain ⟨v, r, rfl, h2, g2⟩ := g.cons
    obtain rfl := g2.nil
    obtain ⟨l, k1, -, k3⟩ := slice_vr i64_elem h2
    have hn : 0 ≤ n ∧ n < 256 := by
      simp [Lit.wf, IntKind.min, IntKind.max, IntKind.signed, IntKind.bits] at w1; omega
    refine ⟨(UInt8.ofNat n.toNat, l), k1, ?_⟩
    have hu : ((UInt8.ofNat n.toNat).toNat : Int) = n := by
      have h8 : (UInt8.ofNat n.toNat).toNat = n.toNat % 256 := rfl
      rw [h8]; omega
    rw [cs_i64] at k3
    show VRL _ [.int .u8 ((UInt8.ofNat n.toNat).toNat : Int), .vec (ci .i64 l) l.length none] _
    rw [hu]
    exact .cons (vr_int _ _ _) (.cons k3 .nil)
end Go.Proofs.YteicdddheaajlaaDoor
set_option linter.deprecated false
