/- Definitions and lemmas for the law, part 9. No condition beyond those in each statement. -/
import Derived.Test.YteicdddheaajlaaDoorT8
set_option linter.unusedSimpArgs false
set_option linter.unusedVariables false
set_option linter.deprecated false
namespace Go.Proofs.YteicdddheaajlaaDoor
open Go.Abs
set_option maxRecDepth 20000 in
set_option maxHeartbeats 4000000 in
theorem c_walkP (s : List UInt8) (hl : s.length ≤ 400) (G : List (UInt8 × List Int)) (e : Int) (q : Nat) (hG : pathR s = (G, e, q)) :
    ACalls seat 28 [.str s, .fn 29 [] [.ptr 0 0]] [.var [.vec [] 0 (some 1)] 32, .tok 0 37 2] (fun x h => x = .ret (.tup [.int .i64 (if e = 0 then -1 else (q : Nat)), .int .i64 e]) ∧ ∃ r, h = .var [.vec (cs cmdC G) G.length (some 1)] 32 :: .tok G.length 37 2 :: r) := by
  unfold pathR at hG
  refine ACalls.body seat_ok Tryd.func28 rfl rfl ?_
  have cb0 := c_blanks s 0 (by omega) (by omega)
  have hin0 := blk_in s 0 (by omega)
  rw [Nat.zero_add, List.drop_zero] at cb0 hin0
  unfold rdr at cb0
  conv => whnf
  refine Sat.scope seat_ok ?_
  conv => whnf
  refine CallH.body seat_ok Tryd.func39 rfl rfl ?_
  conv => whnf
  refine CallH.mem1 seat_g 2 cb0 rfl (by simp [Closed, ClosedL]) (by simp [Closed, ClosedL]) (by simp [Closed, ClosedL]) rfl ?_
  conv => whnf
  refine Sat.cut (fun x t h => (∃ r, h = .var [.vec (cs cmdC G) G.length (some 1)] 32 :: .tok G.length 37 2 :: r) ∧ ((x = .ret ∧ e ≠ 0 ∧ t = (uu::uu::uu::uu::.int .i64 (q : Nat)::.int .i64 e::uu::uu::uu::uu::uu::uu::uu::uu::uu::uu::uu::uu::uu::uu::uu::uu::uu::uu::uu::uu::uu::uu::uu::uu::uu::uu::uu::uu::uu::uu::uu::uu::uu::uu::uu::uu::uu::uu::uu::uu::uu::uu::uu::uu::uu::uu::uu::uu::uu::uu::uu::uu::uu::uu::uu::uu::uu::uu::uu::uu::uu::uu::uu::uu::uu::uu::uu::uu::uu::uu::uu::uu::uu::uu::uu::uu::uu::uu::uu::uu::uu::[])) ∨ (x = .exit 0 ∧ e = 0 ∧ t = (uu::uu::uu::uu::uu::uu::uu::uu::uu::uu::uu::uu::uu::uu::uu::uu::uu::uu::uu::uu::uu::uu::uu::uu::uu::uu::uu::uu::uu::uu::uu::uu::uu::uu::uu::uu::uu::uu::uu::uu::uu::uu::uu::uu::uu::uu::uu::uu::uu::uu::uu::uu::uu::uu::uu::uu::uu::uu::uu::uu::uu::uu::uu::uu::uu::uu::uu::uu::uu::uu::uu::uu::uu::uu::uu::uu::uu::uu::uu::uu::uu::uu::uu::uu::uu::uu::uu::[])))) ?_ ?_
  · refine Sat.invP seat_ok seat_g (maskOf 87 [1, 6, 7]) 3 (fun μ t h => ∃ (fuel : Nat) (first : Bool) (p : Nat) (L : List (UInt8 × List Int)), p ≤ s.length ∧ s.length < p + fuel ∧ L.length ≤ p ∧ Fin6 G e q L (walkR s fuel first p) ∧ μ = s.length - p ∧
        t = (uu::.fn 29 [] [.ptr 0 0]::uu::uu::uu::uu::.ptr 2 0::.bool first::uu::uu::uu::uu::uu::uu::uu::uu::uu::uu::uu::uu::uu::uu::uu::uu::uu::uu::uu::uu::uu::uu::uu::uu::uu::uu::uu::uu::uu::uu::uu::uu::uu::uu::uu::uu::uu::uu::uu::uu::uu::uu::uu::uu::uu::uu::uu::uu::uu::uu::uu::uu::uu::uu::uu::uu::uu::uu::uu::uu::uu::uu::uu::uu::uu::uu::uu::uu::uu::uu::uu::uu::uu::uu::uu::uu::uu::uu::uu::[]) ∧ h = [.var [.vec (cs cmdC L) L.length (some 1)] 32, .tok L.length 37 2, .var (rdr s p) 107])
      ?_ ⟨_, _, WeakL.of_eq rfl, s.length + 1, true, blk s, [], hin0, by omega, by simp, ⟨by have := congrArg (·.1) hG; simpa using this, congrArg (·.2.1) hG, fun _ => congrArg (·.2.2) hG⟩, rfl, rfl, rfl⟩ ?_
    · rintro _ _ _ ⟨fuel, first, p, L, -, -, -, -, -, rfl, rfl⟩
      exact ⟨rfl, (by simp [IdsL, Ids, IdsH, IdsC, lv_ids, ci_ids]), by simp [rdr, IdsH, IdsC, IdsL, Ids, cmd_ids]⟩
    rintro _ _ _ ⟨fuel, first, p, L, hp, hfu, hLp, hF, rfl, rfl, rfl⟩
    have cl := c_left s p (by omega) hp
    obtain ⟨n, rfl⟩ : ∃ n, fuel = n + 1 := ⟨fuel - 1, by omega⟩
    by_cases g : p < s.length
    · obtain ⟨c, hc⟩ : ∃ c, s[p]? = some c := ⟨_, List.getElem?_eq_getElem g⟩
      have cp := c_peekS s p c hc (by omega)
      have cf := c_pof c.toNat ⟨by omega, by have := c.toNat_lt; omega⟩
      have hg0 : (s.length : Int) - p > 0 := by omega
      have ca := c_at s p
      unfold pofV at cf
      cases hx : ofN c.toNat with
      | none =>
        obtain ⟨rfl, rfl, rfl⟩ := hF.bad hc (.inl hx)
        rw [hx] at cf
        simp only at cf
        clear hF hG
        unfold rdr at *
        conv => whnf
        repeat' (first | exact ⟨_, keepT_weak (maskOf 87 [4, 5]) _, ⟨_, rfl⟩, .inl ⟨rfl, by decide, rfl⟩⟩ | (refine CallH.mem1 seat_g 2 cl rfl (by simp [Closed, ClosedL]) (by simp [Closed, ClosedL]) (by simp [Closed, ClosedL, lv_closed]) rfl ?_; conv => whnf) | (refine CallH.mem1 seat_g 2 cp rfl (by simp [Closed, ClosedL]) (by simp [Closed, ClosedL]) (by simp [Closed, ClosedL, lv_closed]) rfl ?_; conv => whnf) | (refine lf seat_g cf ?_; conv => whnf) | (refine CallH.mem1 seat_g 2 ca rfl (by simp [Closed, ClosedL]) (by simp [Closed, ClosedL]) (by simp [Closed, ClosedL, lv_closed]) rfl ?_; conv => whnf) | ((first | refine zs (by omega) ?_ | refine zq6 ?_ | refine zs (by dsimp only; omega) ?_ | refine zs (show pendP _ _ by repeat' constructor) ?_ | (with_reducible first | refine brT ‹_› ?_ | refine brF ‹_› ?_ | refine zt (by omega) ?_ | refine zf (by omega) ?_ | refine brNot ?_)); conv => whnf))
      | some x =>
        rw [hx] at cf
        simp only at cf
        by_cases hf : first = true ∧ x.1 ≠ 77
        · obtain ⟨rfl, rfl, rfl⟩ := hF.bad hc (.inr ⟨x, hx, hf⟩)
          obtain ⟨rfl, hf2⟩ := hf
          clear hF hG
          unfold rdr at *
          conv => whnf
          repeat' (first | exact ⟨_, keepT_weak (maskOf 87 [4, 5]) _, ⟨_, rfl⟩, .inl ⟨rfl, by decide, rfl⟩⟩ | (refine CallH.mem1 seat_g 2 cl rfl (by simp [Closed, ClosedL]) (by simp [Closed, ClosedL]) (by simp [Closed, ClosedL, lv_closed]) rfl ?_; conv => whnf) | (refine CallH.mem1 seat_g 2 cp rfl (by simp [Closed, ClosedL]) (by simp [Closed, ClosedL]) (by simp [Closed, ClosedL, lv_closed]) rfl ?_; conv => whnf) | (refine lf seat_g cf ?_; conv => whnf) | (refine CallH.mem1 seat_g 2 ca rfl (by simp [Closed, ClosedL]) (by simp [Closed, ClosedL]) (by simp [Closed, ClosedL, lv_closed]) rfl ?_; conv => whnf) | ((first | refine zs (by omega) ?_ | refine zq6 ?_ | refine zs (by dsimp only; omega) ?_ | refine zs (show pendP _ _ by repeat' constructor) ?_ | (with_reducible first | refine brT ‹_› ?_ | refine brF ‹_› ?_ | refine zt (by omega) ?_ | refine zf (by omega) ?_ | refine brNot ?_)); conv => whnf))
        · obtain ⟨hk, hal, hh, hx8⟩ := sign_ok hx
          have ck := c_skip s p hp (by omega)
          rw [Nat.min_eq_left (by omega)] at ck
          have c2 := c_blanks s (p + 1) (by omega) (by omega)
          have hin := blk_in s (p + 1) (by omega)
          obtain ⟨p1, hp1⟩ : ∃ p1, p1 = p + 1 + blk (s.drop (p + 1)) := ⟨_, rfl⟩
          have hpp : p < p1 := by omega
          have hcl := cmd_length L
          have hll : ∀ v, (L ++ [(c, v)]).length = L.length + 1 := fun v => by simp
          obtain ⟨a1, args⟩ := x
          simp only at hf hk hal hh hx8 cf hin
          by_cases ha : args = []
          · have hF2 := hF.alone hc hx hf ha
            rw [← hp1] at hF2 c2 hin
            subst ha
            clear hF hG
            unfold rdr at *
            cases first with
            | true =>
              have h77 : a1 = 77 := Classical.byContradiction fun h => hf ⟨rfl, h⟩
              conv => whnf
              repeat' (first | exact ⟨_, _, show s.length - p1 < s.length - p by omega, WeakL.of_eq rfl, n, false, p1, L ++ [(c, [])], hin, by omega, by rw [hll]; omega, hF2, rfl, rfl, by rw [cmd_snoc, hll]; rfl⟩ | (refine CallH.mem1 seat_g 2 cl rfl (by simp [Closed, ClosedL]) (by simp [Closed, ClosedL]) (by simp [Closed, ClosedL, lv_closed]) rfl ?_; conv => whnf) | (refine CallH.mem1 seat_g 2 cp rfl (by simp [Closed, ClosedL]) (by simp [Closed, ClosedL]) (by simp [Closed, ClosedL, lv_closed]) rfl ?_; conv => whnf) | (refine lf seat_g cf ?_; conv => whnf) | (refine CallH.mem1 seat_g 2 ck rfl (by simp [Closed, ClosedL]) (by simp [Closed, ClosedL]) (by simp [Closed, ClosedL, lv_closed]) rfl ?_; conv => whnf) | (refine CallH.mem1 seat_g 2 c2 rfl (by simp [Closed, ClosedL]) (by simp [Closed, ClosedL]) (by simp [Closed, ClosedL, lv_closed]) rfl ?_; conv => whnf) | (refine CallH.weakA (WeakL.cons (Weak.agg (WeakL.cons (Weak.refl _) (WeakL.cons Weak.nils (WeakL.refl _)))) (WeakL.refl _)) ?_; refine CallH.body seat_ok Tryd.func29 rfl rfl ?_; conv => whnf) | (refine Req.mk ⟨rfl, rfl, rfl, hcl, rfl, by simp [okCell], by dsimp only; omega, by omega, by decide⟩ ?_; conv => whnf) | ((first | refine zs (by omega) ?_ | refine zq6 ?_ | refine zs (by dsimp only; omega) ?_ | refine zs (show pendP _ _ by repeat' constructor) ?_ | (with_reducible first | refine brT ‹_› ?_ | refine brF ‹_› ?_ | refine zt (by omega) ?_ | refine zf (by omega) ?_ | refine brNot ?_)); conv => whnf))
            | false =>
              conv => whnf
              repeat' (first | exact ⟨_, _, show s.length - p1 < s.length - p by omega, WeakL.of_eq rfl, n, false, p1, L ++ [(c, [])], hin, by omega, by rw [hll]; omega, hF2, rfl, rfl, by rw [cmd_snoc, hll]; rfl⟩ | (refine CallH.mem1 seat_g 2 cl rfl (by simp [Closed, ClosedL]) (by simp [Closed, ClosedL]) (by simp [Closed, ClosedL, lv_closed]) rfl ?_; conv => whnf) | (refine CallH.mem1 seat_g 2 cp rfl (by simp [Closed, ClosedL]) (by simp [Closed, ClosedL]) (by simp [Closed, ClosedL, lv_closed]) rfl ?_; conv => whnf) | (refine lf seat_g cf ?_; conv => whnf) | (refine CallH.mem1 seat_g 2 ck rfl (by simp [Closed, ClosedL]) (by simp [Closed, ClosedL]) (by simp [Closed, ClosedL, lv_closed]) rfl ?_; conv => whnf) | (refine CallH.mem1 seat_g 2 c2 rfl (by simp [Closed, ClosedL]) (by simp [Closed, ClosedL]) (by simp [Closed, ClosedL, lv_closed]) rfl ?_; conv => whnf) | (refine CallH.weakA (WeakL.cons (Weak.agg (WeakL.cons (Weak.refl _) (WeakL.cons Weak.nils (WeakL.refl _)))) (WeakL.refl _)) ?_; refine CallH.body seat_ok Tryd.func29 rfl rfl ?_; conv => whnf) | (refine Req.mk ⟨rfl, rfl, rfl, hcl, rfl, by simp [okCell], by dsimp only; omega, by omega, by decide⟩ ?_; conv => whnf) | ((first | refine zs (by omega) ?_ | refine zq6 ?_ | refine zs (by dsimp only; omega) ?_ | refine zs (show pendP _ _ by repeat' constructor) ?_ | (with_reducible first | refine brT ‹_› ?_ | refine brF ‹_› ?_ | refine zt (by omega) ?_ | refine zf (by omega) ?_ | refine brNot ?_)); conv => whnf))
          · have hF2 := hF.runs hc hx hf ha
            rw [← hp1] at hF2 c2 hin
            obtain ⟨k, r, rfl, hk2⟩ : ∃ k r, args = k :: r ∧ (k = 110 ∨ k = 117) := by
              rcases hh with h | h
              · exact absurd h ha
              · exact h
            clear hF hG
            have h77 : first = true → a1 = 77 := fun h => Classical.byContradiction fun h2 => hf ⟨h, h2⟩
            unfold rdr
            unfold rdr at cl cp ck c2
            have hhead : ∀ q2, moreR s ((k :: r).head? == some 110) q2 = moreR s (k == 110) q2 := fun _ => rfl
            have hrl : r.length ≤ 100 := by simp only [List.length_cons] at hal; omega
            clear hf hx hcl hll
            cases first
            all_goals try have h78 := h77 rfl
            all_goals
              conv => whnf
              repeat' (first | (refine CallH.mem1 seat_g 2 cl rfl (by simp [Closed, ClosedL]) (by simp [Closed, ClosedL]) (by simp [Closed, ClosedL, lv_closed]) rfl ?_; conv => whnf) | (refine CallH.mem1 seat_g 2 cp rfl (by simp [Closed, ClosedL]) (by simp [Closed, ClosedL]) (by simp [Closed, ClosedL, lv_closed]) rfl ?_; conv => whnf) | (refine lf seat_g cf ?_; conv => whnf) | (refine CallH.mem1 seat_g 2 ck rfl (by simp [Closed, ClosedL]) (by simp [Closed, ClosedL]) (by simp [Closed, ClosedL, lv_closed]) rfl ?_; conv => whnf) | (refine CallH.mem1 seat_g 2 c2 rfl (by simp [Closed, ClosedL]) (by simp [Closed, ClosedL]) (by simp [Closed, ClosedL, lv_closed]) rfl ?_; conv => whnf) | ((first | refine zs (by omega) ?_ | refine zq6 ?_ | refine zs (by dsimp only; omega) ?_ | refine zs (show pendP _ _ by repeat' constructor) ?_ | (with_reducible first | refine brT ‹_› ?_ | refine brF ‹_› ?_ | refine zt (by omega) ?_ | refine zf (by omega) ?_ | refine brNot ?_)); conv => whnf))
            all_goals
              refine Sat.cut (fun x t h => (x = .ret ∧ e ≠ 0 ∧ t = (uu::uu::uu::uu::.int .i64 (q : Nat)::.int .i64 e::uu::uu::uu::uu::uu::uu::uu::uu::uu::uu::uu::uu::uu::uu::uu::uu::uu::uu::uu::uu::uu::uu::uu::uu::uu::uu::uu::uu::uu::uu::uu::uu::uu::uu::uu::uu::uu::uu::uu::uu::uu::uu::uu::uu::uu::uu::uu::uu::uu::uu::uu::uu::uu::uu::uu::uu::uu::uu::uu::uu::uu::uu::uu::uu::uu::uu::uu::uu::uu::uu::uu::uu::uu::uu::uu::uu::uu::uu::uu::uu::uu::[]) ∧ ∃ r, h = .var [.vec (cs cmdC G) G.length (some 1)] 32 :: .tok G.length 37 2 :: r) ∨
                (x = .exit 1 ∧ ∃ (p3 : Nat) (L3 : List (UInt8 × List Int)), p < p3 ∧ p3 ≤ s.length ∧ L3.length ≤ p3 ∧ Fin6 G e q L3 (walkR s n false p3) ∧ t = (uu::.fn 29 [] [.ptr 0 0]::uu::uu::uu::uu::.ptr 2 0::.bool false::uu::uu::uu::uu::uu::uu::uu::uu::uu::uu::uu::uu::uu::uu::uu::uu::uu::uu::uu::uu::uu::uu::uu::uu::uu::uu::uu::uu::uu::uu::uu::uu::uu::uu::uu::uu::uu::uu::uu::uu::uu::uu::uu::uu::uu::uu::uu::uu::uu::uu::uu::uu::uu::uu::uu::uu::uu::uu::uu::uu::uu::uu::uu::uu::uu::uu::uu::uu::uu::uu::uu::uu::uu::uu::uu::uu::uu::uu::uu::[]) ∧ ∃ r, h = .var [.vec (cs cmdC L3) L3.length (some 1)] 32 :: .tok L3.length 37 2 :: .var [.str s, .int .i64 (p3 : Nat)] 107 :: r)) ?_ ?_
              · refine Sat.invP seat_ok seat_g (maskOf 87 [1, 6, 7, 8, 10]) 4 (fun μ t h => ∃ (m : Nat) (d : UInt8) (p2 : Nat) (L2 : List (UInt8 × List Int)), p < p2 ∧ p2 ≤ s.length ∧ s.length < p2 + m ∧ L2.length < p2 ∧ FinG G e q L2 s n (runR s (k :: r) m d p2) ∧ μ = s.length - p2 ∧
                    t = (uu::.fn 29 [] [.ptr 0 0]::uu::uu::uu::uu::.ptr 2 0::.bool false::.int .u8 d.toNat::uu::.ptr 3 0::uu::uu::uu::uu::uu::uu::uu::uu::uu::uu::uu::uu::uu::uu::uu::uu::uu::uu::uu::uu::uu::uu::uu::uu::uu::uu::uu::uu::uu::uu::uu::uu::uu::uu::uu::uu::uu::uu::uu::uu::uu::uu::uu::uu::uu::uu::uu::uu::uu::uu::uu::uu::uu::uu::uu::uu::uu::uu::uu::uu::uu::uu::uu::uu::uu::uu::uu::uu::uu::uu::uu::uu::uu::uu::uu::uu::[]) ∧ h = .var [.vec (cs cmdC L2) L2.length (some 1)] 32 :: .tok L2.length 37 2 :: .var [.str s, .int .i64 (p2 : Nat)] 107 :: .var [.int .u8 a1, .str (k :: r)] 78 :: [])
                  ?_ ⟨_, _, WeakL.of_eq rfl, s.length + 1, c, p1, L, hpp, hin, by omega, by omega, hF2, rfl, rfl, rfl⟩ ?_
                · rintro _ _ _ ⟨m, d, p2, L2, -, -, -, -, -, -, rfl, rfl⟩
                  exact ⟨rfl, (by simp [IdsL, Ids, IdsH, IdsC, lv_ids, ci_ids]), by simp [IdsH, IdsC, IdsL, Ids, cmd_ids]⟩
                rintro _ _ _ ⟨m, d, p2, L2, hpp2, hp2, hm2, hL2, hR, rfl, rfl, rfl⟩
                clear cl cp ck c2 hF2
                obtain ⟨m, rfl⟩ : ∃ i, m = i + 1 := ⟨m - 1, by omega⟩
                have cg := c_group s (k :: r) p2 hp2 hl hk hal
                have hb := grpR_bd s hl (k :: r) 0 p2 [] hp2
                have hd8 := d.toNat_lt
                have e0 := hR.err
                have e1 := hR.last
                have e2 := hR.more
                clear hR
                obtain ⟨⟨vals, e', q2⟩, hA⟩ : ∃ R, grpR s (k :: r) 0 p2 [] = R := ⟨_, rfl⟩
                rw [hA] at cg hb e0 e1 e2
                simp only [hhead] at cg hb e0 e1 e2
                have hcl2 := cmd_length L2
                have hll2 : ∀ v, (L2 ++ [(d, v)]).length = L2.length + 1 := fun v => by simp
                by_cases he : e' = 0
                · subst he
                  have hq2 := hb.2 (by simp) rfl
                  have e1 := e1 rfl
                  have e2 := e2 rfl
                  have hmb := more_bd s (k == 110) q2 hb.1.2
                  have cm := c_more s k r q2 hb.1.2 (by omega) hrl hk2
                  obtain ⟨⟨mo, p3⟩, hM0⟩ : ∃ R, moreR s (k == 110) q2 = R := ⟨_, rfl⟩
                  rw [hM0] at e1 e2 hmb cm
                  simp only at e1 e2 hmb cm
                  unfold rdr at cg cm
                  cases mo with
                  | false =>
                    have h4 := e1 rfl
                    conv => whnf
                    repeat' (first | exact ⟨_, keepT_weak (maskOf 87 [1, 6, 7]) _, .inr ⟨rfl, p3, L2 ++ [(d, vals)], by omega, by omega, by rw [hll2]; omega, h4, rfl, _, by rw [cmd_snoc, hll2]; rfl⟩⟩ | (refine CallH.mem1 seat_g 2 cg rfl (by simp [Closed, ClosedL]) (by simp [Closed, ClosedL]) (by simp [Closed, ClosedL, lv_closed]) rfl ?_; conv => whnf) | (refine CallH.body seat_ok Tryd.func29 rfl rfl ?_; conv => whnf) | (refine Req.mk ⟨rfl, rfl, rfl, hcl2, rfl, by simp [okCell, lv], by dsimp only; omega, by omega, by decide⟩ ?_; conv => whnf) | (refine CallH.mem1 seat_g 2 cm rfl (by simp [Closed, ClosedL]) (by simp [Closed, ClosedL]) (by simp [Closed, ClosedL, lv_closed]) rfl ?_; conv => whnf) | ((first | refine zs (by omega) ?_ | refine zq6 ?_ | refine zs (by dsimp only; omega) ?_ | refine zs (show pendP _ _ by repeat' constructor) ?_ | (with_reducible first | refine brT ‹_› ?_ | refine brF ‹_› ?_ | refine zt (by omega) ?_ | refine zf (by omega) ?_ | refine brNot ?_)); conv => whnf))
                  | true =>
                    have hM := e2 rfl
                    by_cases h1 : (d.toNat : Int) = 77
                    · have hd : d = 77 := UInt8.toNat_inj.1 (by show d.toNat = 77; omega)
                      have hnd : nextC d = 76 := by rw [hd]; rfl
                      rw [hnd] at hM
                      clear hd hnd
                      conv => whnf
                      repeat' (first | exact ⟨_, _, show s.length - p3 < s.length - p2 by omega, WeakL.of_eq rfl, m, 76, p3, L2 ++ [(d, vals)], by omega, by omega, by omega, by rw [hll2]; omega, hM, rfl, rfl, by rw [cmd_snoc, hll2]; rfl⟩ | (refine CallH.mem1 seat_g 2 cg rfl (by simp [Closed, ClosedL]) (by simp [Closed, ClosedL]) (by simp [Closed, ClosedL, lv_closed]) rfl ?_; conv => whnf) | (refine CallH.body seat_ok Tryd.func29 rfl rfl ?_; conv => whnf) | (refine Req.mk ⟨rfl, rfl, rfl, hcl2, rfl, by simp [okCell, lv], by dsimp only; omega, by omega, by decide⟩ ?_; conv => whnf) | (refine CallH.mem1 seat_g 2 cm rfl (by simp [Closed, ClosedL]) (by simp [Closed, ClosedL]) (by simp [Closed, ClosedL, lv_closed]) rfl ?_; conv => whnf) | (refine WrapH.is 0 (by rw [h1]; rfl) ?_; conv => whnf) | (refine WrapH.is 76 rfl ?_; conv => whnf) | ((first | refine zs (by omega) ?_ | refine zq6 ?_ | refine zs (by dsimp only; omega) ?_ | refine zs (show pendP _ _ by repeat' constructor) ?_ | (with_reducible first | refine brT ‹_› ?_ | refine brF ‹_› ?_ | refine zt (by omega) ?_ | refine zf (by omega) ?_ | refine brNot ?_)); conv => whnf))
                    · by_cases h2 : (d.toNat : Int) = 109
                      · have hd : d = 109 := UInt8.toNat_inj.1 (by show d.toNat = 109; omega)
                        have hnd : nextC d = 108 := by rw [hd]; rfl
                        rw [hnd] at hM
                        clear hd hnd
                        conv => whnf
                        repeat' (first | exact ⟨_, _, show s.length - p3 < s.length - p2 by omega, WeakL.of_eq rfl, m, 108, p3, L2 ++ [(d, vals)], by omega, by omega, by omega, by rw [hll2]; omega, hM, rfl, rfl, by rw [cmd_snoc, hll2]; rfl⟩ | (refine CallH.mem1 seat_g 2 cg rfl (by simp [Closed, ClosedL]) (by simp [Closed, ClosedL]) (by simp [Closed, ClosedL, lv_closed]) rfl ?_; conv => whnf) | (refine CallH.body seat_ok Tryd.func29 rfl rfl ?_; conv => whnf) | (refine Req.mk ⟨rfl, rfl, rfl, hcl2, rfl, by simp [okCell, lv], by dsimp only; omega, by omega, by decide⟩ ?_; conv => whnf) | (refine CallH.mem1 seat_g 2 cm rfl (by simp [Closed, ClosedL]) (by simp [Closed, ClosedL]) (by simp [Closed, ClosedL, lv_closed]) rfl ?_; conv => whnf) | (refine WrapH.is 32 (by rw [h2]; rfl) ?_; conv => whnf) | (refine WrapH.is 108 rfl ?_; conv => whnf) | ((first | refine zs (by omega) ?_ | refine zq6 ?_ | refine zs (by dsimp only; omega) ?_ | refine zs (show pendP _ _ by repeat' constructor) ?_ | (with_reducible first | refine brT ‹_› ?_ | refine brF ‹_› ?_ | refine zt (by omega) ?_ | refine zf (by omega) ?_ | refine brNot ?_)); conv => whnf))
                      · have hnd : nextC d = d := by
                          unfold nextC
                          rw [if_neg (fun h => h1 (by rw [h]; rfl)), if_neg (fun h => h2 (by rw [h]; rfl))]
                        rw [hnd] at hM
                        conv => whnf
                        repeat' (first | exact ⟨_, _, show s.length - p3 < s.length - p2 by omega, WeakL.of_eq rfl, m, d, p3, L2 ++ [(d, vals)], by omega, by omega, by omega, by rw [hll2]; omega, hM, rfl, rfl, by rw [cmd_snoc, hll2]; rfl⟩ | (refine CallH.mem1 seat_g 2 cg rfl (by simp [Closed, ClosedL]) (by simp [Closed, ClosedL]) (by simp [Closed, ClosedL, lv_closed]) rfl ?_; conv => whnf) | (refine CallH.body seat_ok Tryd.func29 rfl rfl ?_; conv => whnf) | (refine Req.mk ⟨rfl, rfl, rfl, hcl2, rfl, by simp [okCell, lv], by dsimp only; omega, by omega, by decide⟩ ?_; conv => whnf) | (refine CallH.mem1 seat_g 2 cm rfl (by simp [Closed, ClosedL]) (by simp [Closed, ClosedL]) (by simp [Closed, ClosedL, lv_closed]) rfl ?_; conv => whnf) | ((first | refine zs (by omega) ?_ | refine zq6 ?_ | refine zs (by dsimp only; omega) ?_ | refine zs (show pendP _ _ by repeat' constructor) ?_ | (with_reducible first | refine brT ‹_› ?_ | refine brF ‹_› ?_ | refine zt (by omega) ?_ | refine zf (by omega) ?_ | refine brNot ?_)); conv => whnf))
                · obtain ⟨rfl, rfl, rfl⟩ := e0 he
                  have ca2 := c_at s q
                  unfold rdr at cg ca2
                  conv => whnf
                  repeat' (first | exact ⟨_, keepT_weak (maskOf 87 [4, 5]) _, .inl ⟨rfl, he, rfl, _, rfl⟩⟩ | (refine CallH.mem1 seat_g 2 cg rfl (by simp [Closed, ClosedL]) (by simp [Closed, ClosedL]) (by simp [Closed, ClosedL, lv_closed]) rfl ?_; conv => whnf) | (refine CallH.mem1 seat_g 2 ca2 rfl (by simp [Closed, ClosedL]) (by simp [Closed, ClosedL]) (by simp [Closed, ClosedL, lv_closed]) rfl ?_; conv => whnf) | ((first | refine zs (by omega) ?_ | refine zq6 ?_ | refine zs (by dsimp only; omega) ?_ | refine zs (show pendP _ _ by repeat' constructor) ?_ | (with_reducible first | refine brT ‹_› ?_ | refine brF ‹_› ?_ | refine zt (by omega) ?_ | refine zf (by omega) ?_ | refine brNot ?_)); conv => whnf))
              · rintro _ _ _ (⟨rfl, h1, rfl, r2, rfl⟩ | ⟨rfl, p3, L3, h1, h2, h3, h4, rfl, r2, rfl⟩)
                · conv => whnf
                  exact ⟨_, keepT_weak (maskOf 87 [4, 5]) _, ⟨_, rfl⟩, .inl ⟨rfl, h1, rfl⟩⟩
                · conv => whnf
                  exact ⟨_, _, show s.length - p3 < s.length - p by omega, WeakL.of_eq rfl, n, false, p3, L3, by omega, by omega, h3, h4, rfl, rfl, rfl⟩
    · have hpe : p = s.length := by omega
      obtain ⟨rfl, rfl⟩ := hF.fin (List.getElem?_eq_none (by omega))
      have hg0 : ¬ ((s.length : Int) - p > 0) := by omega
      clear hF hG
      unfold rdr at *
      conv => whnf
      repeat' (first | exact ⟨_, keepT_weak (maskOf 87 []) _, ⟨_, rfl⟩, .inr ⟨rfl, rfl, rfl⟩⟩ | (refine CallH.mem1 seat_g 2 cl rfl (by simp [Closed, ClosedL]) (by simp [Closed, ClosedL]) (by simp [Closed, ClosedL, lv_closed]) rfl ?_; conv => whnf) | ((first | refine zs (by omega) ?_ | refine zq6 ?_ | refine zs (by dsimp only; omega) ?_ | refine zs (show pendP _ _ by repeat' constructor) ?_ | (with_reducible first | refine brT ‹_› ?_ | refine brF ‹_› ?_ | refine zt (by omega) ?_ | refine zf (by omega) ?_ | refine brNot ?_)); conv => whnf))
  · rintro _ _ _ ⟨⟨r, rfl⟩, ⟨rfl, h1, rfl⟩ | ⟨rfl, h1, rfl⟩⟩
    · rw [if_neg h1]
      conv => whnf
      exact ⟨rfl, _, rfl⟩
    · subst h1
      rw [if_pos rfl]
      conv => whnf
      exact ⟨rfl, _, rfl⟩
end Go.Proofs.YteicdddheaajlaaDoor
namespace Go.Proofs.YteicdddheaajlaaDoor
open Go.Abs
def cmdV (G : List (UInt8 × List Int)) : AV := .vec (cs cmdC G) G.length none
theorem c_parse (s : List UInt8) (hl : s.length ≤ 400) : ACalls seat 17 [.str s] [] (fun x _ => x = .ret (.tup [cmdV (pathR s).1, .int .i64 (if (pathR s).2.1 = 0 then -1 else ((pathR s).2.2 : Nat)), .int .i64 (pathR s).2.1])) := by
  have hw : ACalls seat 17 [.str s] [] (fun r h' => (∃ v v', r = .ret v ∧ Weak v v' ∧ (AEnd.ret v' = .ret (.tup [cmdV (pathR s).1, .int .i64 (if (pathR s).2.1 = 0 then -1 else ((pathR s).2.2 : Nat)), .int .i64 (pathR s).2.1]))) ∨ (∃ v, r = .pan v ∧ (r = .ret (.tup [cmdV (pathR s).1, .int .i64 (if (pathR s).2.1 = 0 then -1 else ((pathR s).2.2 : Nat)), .int .i64 (pathR s).2.1])))) := by
    refine ACalls.bodyS seat_ok Tryd.func17 rfl rfl ?_
    have g : ¬ ((s.length : Int) > 65536) := by omega
    refine Sat.splitAt seat_ok (fun t h => t = (.str s::uu::uu::uu::uu::.ptr 0 0::uu::uu::uu::uu::uu::uu::uu::uu::uu::uu::uu::uu::uu::uu::[]) ∧ h = [.var [.nils] 32]) 3 ?_ ?_
    · conv => whnf
      repeat' (first | exact ⟨_, keepT_weak (maskOf 20 [0, 5]) _, rfl, rfl⟩ | ((first | refine zs (by omega) ?_ | refine zq6 ?_ | refine zs (by dsimp only; omega) ?_ | refine zs (show pendP _ _ by repeat' constructor) ?_ | (with_reducible first | refine brT ‹_› ?_ | refine brF ‹_› ?_ | refine zt (by omega) ?_ | refine zf (by omega) ?_ | refine brNot ?_)); conv => whnf))
    rintro _ _ ⟨rfl, rfl⟩
    refine Sat.nilTokH 0 0 37 2 rfl rfl ?_
    refine codeR_sound seat_ok _ _ _ _ ?_
    obtain ⟨⟨G, e, q⟩, hG⟩ : ∃ R, pathR s = R := ⟨_, rfl⟩
    rw [hG]
    have cw := c_walkP s hl G e q hG
    conv => whnf
    refine ⟨cw.mono ?_⟩
    rintro _ _ ⟨rfl, r, rfl⟩
    conv => whnf
    exact .inl ⟨_, _, rfl, Weak.tup (.cons Weak.tok (WeakL.refl _)), rfl⟩
  exact ACalls.weakR hw
end Go.Proofs.YteicdddheaajlaaDoor
namespace Go.Proofs.YteicdddheaajlaaDoor
open Go.Abs
theorem cs_takeN {α : Type} {f : α → List AV} {sz : Nat} (hf : ∀ a, (f a).length = sz) : ∀ (l : List α) (i : Nat), (cs f l).take (i * sz) = cs f (l.take i)
  | l, 0 => by simp [cs]
  | [], i + 1 => by simp [cs]
  | a :: l, i + 1 => by
    have := cs_takeN hf l i
    simp only [cs, List.flatMap_cons, List.take_succ_cons] at this ⊢
    rw [← this, Nat.succ_mul, Nat.add_comm, ← hf a, List.take_length_add_append]
theorem sg_first (L : List Sg) (n : Nat) (hn : n ≤ L.length) : AV.vec (((cs sgC L).drop ((0 : Int).toNat * 12)).take ((((n : Nat) : Int).toNat - (0 : Int).toNat) * 12)) (((n : Nat) : Int).toNat - (0 : Int).toNat) none = sgV (L.take n) := by
  unfold sgV
  rw [Int.toNat_natCast, show (0 : Int).toNat = 0 from rfl, Nat.zero_mul, List.drop_zero, Nat.sub_zero, cs_takeN sgC_len, List.length_take, Nat.min_eq_left hn]
def atV (r : Option Nat) : Int := match r with
  | none => -1
  | some i => i
def erV (r : Option Nat) : Int := match r with
  | none => 0
  | some _ => 2
set_option maxRecDepth 20000 in
theorem c_nwalk (G : List (UInt8 × List Int)) (hG : ∀ x ∈ G, CmdOk x) (hl : G.length ≤ 100000) (L : List Sg) (r : Option Nat) (hW : walkN G 0 st0 = (L, r)) :
    ACalls seat 18 [cmdV G] [] (fun x _ => x = .ret (.tup [sgV L, .int .i64 (atV r), .int .i64 (erV r)])) := by
  refine ACalls.weakR ?_
  refine ACalls.bodyS seat_ok Tryd.func18 rfl rfl ?_
  refine Sat.splitAt seat_ok (fun t h => t = (cmdV G::uu::uu::uu::uu::.ptr 0 0::uu::uu::uu::uu::uu::uu::uu::uu::uu::uu::uu::uu::uu::uu::uu::uu::uu::uu::uu::uu::uu::uu::uu::uu::uu::uu::[]) ∧ h = [.var [.int .i64 0, .int .i64 0, .int .i64 0, .int .i64 0, .bool false, .int .u8 0, .int .i64 0, .int .i64 0, .nils, .bool false] 68]) 2 ?_ ?_
  · conv => whnf
    repeat' (first | exact ⟨_, keepT_weak (maskOf 32 [0, 5]) _, rfl, rfl⟩ | ((first | refine zs (by omega) ?_ | refine zq6 ?_ | refine zs (by dsimp only; omega) ?_ | refine zs (show pendP _ _ by repeat' constructor) ?_ | (with_reducible first | refine brT ‹_› ?_ | refine brF ‹_› ?_ | refine zt (by omega) ?_ | refine zf (by omega) ?_ | refine brNot ?_)); conv => whnf))
  rintro _ _ ⟨rfl, rfl⟩
  refine Sat.nilTokH 0 8 43 12 rfl rfl ?_
  refine codeR_sound seat_ok _ _ _ _ ?_
  unfold cmdV
  conv => whnf
  repeat' ((first | refine zs (by omega) ?_ | refine zq6 ?_ | refine zs (by dsimp only; omega) ?_ | refine zs (show pendP _ _ by repeat' constructor) ?_ | (with_reducible first | refine brT ‹_› ?_ | refine brF ‹_› ?_ | refine zt (by omega) ?_ | refine zf (by omega) ?_ | refine brNot ?_)); conv => whnf)
  refine Sat.cut (fun x t h => (x = .ret ∧ t = (uu::uu::sgV L::.int .i64 (atV r)::.int .i64 (erV r)::uu::uu::uu::uu::uu::uu::uu::uu::uu::uu::uu::uu::uu::uu::uu::uu::uu::uu::uu::uu::uu::uu::uu::uu::uu::uu::uu::[])) ∨ (x = .exit 0 ∧ ∃ s, s.out = L ∧ r = none ∧ t = (uu::uu::uu::uu::uu::.ptr 0 0::uu::uu::uu::uu::uu::uu::uu::uu::uu::uu::uu::uu::uu::uu::uu::uu::uu::uu::uu::uu::uu::uu::uu::uu::uu::uu::[]) ∧ h = stH s)) ?_ ?_
  · refine Sat.invP seat_ok seat_g (maskOf 32 [5, 9, 10, 11]) 2 (fun μ t h => ∃ (i : Nat) (s : St) (l : List Sg) (w : Int), i ≤ G.length ∧ StOk s ∧ Rel s l w ∧ l.length ≤ 2 * i ∧ walkN (G.drop i) i s = (L, r) ∧ μ = G.length - i ∧ t = (uu::uu::uu::uu::uu::.ptr 0 0::uu::uu::uu::.vec (cs cmdC G) G.length none::.int .i64 G.length::.int .i64 i::uu::uu::uu::uu::uu::uu::uu::uu::uu::uu::uu::uu::uu::uu::uu::uu::uu::uu::uu::uu::[]) ∧ h = stH s)
      ?_ ⟨_, _, WeakL.of_eq rfl, 0, st0, [], 0, Nat.zero_le _, st0_ok, rel0, Nat.le_refl _, hW, rfl, rfl, rfl⟩ ?_
    · rintro _ _ _ ⟨i, s, l, w, -, -, -, -, -, -, rfl, rfl⟩
      exact ⟨rfl, by simp [IdsL, Ids, cmd_ids], stH_ids s⟩
    rintro _ _ _ ⟨i, s, l, w, hi, hs, hr, hll, hw, rfl, rfl, rfl⟩
    by_cases g : i < G.length
    · obtain ⟨x, hx⟩ : ∃ x, G[i]? = some x := ⟨_, List.getElem?_eq_getElem g⟩
      have hk := hG x (List.mem_of_getElem? hx)
      rw [drop_cons' hx, walkN] at hw
      have hsl : s.out.length ≤ 2 * i := by rw [hr.out]; exact hll
      have cd := c_do s x.1 x.2 hk hs.pos hs.ct (by omega)
      obtain ⟨h1, h2⟩ := rel_step x.1.toNat x.2 hs hr
      have ho := do_out x.1.toNat x.2 hs hr
      obtain ⟨m, hm, hml⟩ := kR_pre x.1.toNat l
      have hpre : (doS s x.1.toNat x.2).out.take s.out.length = s.out := by rw [ho, hm, hr.out, List.append_assoc, List.take_left]
      have hlen : s.out.length ≤ (doS s x.1.toNat x.2).out.length := by rw [ho, hm, hr.out]; simp only [List.length_append]; omega
      have hfi := sg_first (doS s x.1.toNat x.2).out s.out.length hlen
      rw [hpre] at hfi
      have hld : sub (cs cmdC G) ((i : Int).toNat * 2) 2 = some (cmdC x) := cs_sub cmdC_len hx
      cases hb : (doS s x.1.toNat x.2).bad with
      | true =>
        rw [if_pos hb] at hw
        cases hw
        clear h1 h2 ho hm hpre hG
        generalize doS s x.1.toNat x.2 = u at *
        conv => whnf
        repeat' (first | exact ⟨_, keepT_weak (maskOf 32 [2, 3, 4]) _, .inl ⟨rfl, by rw [← hfi]; rfl⟩⟩ | (refine ldI _ hld ?_; conv => whnf) | (refine CallH.st cd (by simp [IdsL, Ids, lv_ids]) (by simp [Ids, IdsL]) rfl ?_; conv => whnf) | (refine Req.mk ⟨by omega, by omega, by omega, by omega⟩ ?_; conv => whnf) | ((first | refine zs (by omega) ?_ | refine zq6 ?_ | refine zs (by dsimp only; omega) ?_ | refine zs (show pendP _ _ by repeat' constructor) ?_ | (with_reducible first | refine brT ‹_› ?_ | refine brF ‹_› ?_ | refine zt (by omega) ?_ | refine zf (by omega) ?_ | refine brNot ?_)); conv => whnf))
      | false =>
        rw [if_neg (by rw [hb]; decide)] at hw
        obtain ⟨h3, h4⟩ := h2 (h1.1 hb)
        have hll2 : (kR x.1.toNat l ++ [sgR x.1.toNat x.2 (atR l) (kR x.1.toNat l) w]).length ≤ 2 * (i + 1) := by rw [hm]; simp; omega
        generalize kR x.1.toNat l ++ [sgR x.1.toNat x.2 (atR l) (kR x.1.toNat l) w] = l2 at *
        clear h1 h2 ho hm hpre hG hfi
        generalize doS s x.1.toNat x.2 = u at *
        conv => whnf
        repeat' (first | exact ⟨_, _, Nat.sub_lt_sub_left g (Nat.lt_succ_self i), WeakL.of_eq rfl, i + 1, u, l2, _, g, h3, h4, hll2, hw, rfl, rfl, rfl⟩ | (refine ldI _ hld ?_; conv => whnf) | (refine CallH.st cd (by simp [IdsL, Ids, lv_ids]) (by simp [Ids, IdsL]) rfl ?_; conv => whnf) | ((first | refine zs (by omega) ?_ | refine zq6 ?_ | refine zs (by dsimp only; omega) ?_ | refine zs (show pendP _ _ by repeat' constructor) ?_ | (with_reducible first | refine brT ‹_› ?_ | refine brF ‹_› ?_ | refine zt (by omega) ?_ | refine zf (by omega) ?_ | refine brNot ?_)); conv => whnf))
    · obtain rfl : i = G.length := by omega
      rw [List.drop_length] at hw
      cases hw
      conv => whnf
      repeat' (first | exact ⟨_, keepT_weak (maskOf 32 [5]) _, .inr ⟨rfl, s, rfl, rfl, rfl, rfl⟩⟩ | ((first | refine zs (by omega) ?_ | refine zq6 ?_ | refine zs (by dsimp only; omega) ?_ | refine zs (show pendP _ _ by repeat' constructor) ?_ | (with_reducible first | refine brT ‹_› ?_ | refine brF ‹_› ?_ | refine zt (by omega) ?_ | refine zf (by omega) ?_ | refine brNot ?_)); conv => whnf))
  · rintro _ _ _ (⟨rfl, rfl⟩ | ⟨rfl, s, rfl, rfl, rfl, rfl⟩)
    · unfold sgV
      conv => whnf
      exact .inl ⟨_, _, rfl, Weak.refl _, rfl⟩
    · conv => whnf
      repeat' (first | exact .inl ⟨_, _, rfl, Weak.tup (.cons Weak.tok (WeakL.refl _)), rfl⟩ | ((first | refine zs (by omega) ?_ | refine zq6 ?_ | refine zs (by dsimp only; omega) ?_ | refine zs (show pendP _ _ by repeat' constructor) ?_ | (with_reducible first | refine brT ‹_› ?_ | refine brF ‹_› ?_ | refine zt (by omega) ?_ | refine zf (by omega) ?_ | refine brNot ?_)); conv => whnf))
end Go.Proofs.YteicdddheaajlaaDoor
namespace Go.Proofs.YteicdddheaajlaaDoor
open Go.Abs
def ex1 : List UInt8 := [77, 49, 32, 50, 32, 51, 32, 52, 122]
def ex2 : List UInt8 := [77, 49, 32, 50, 44, 76, 51, 32, 52]
theorem n11 : numR ex1 1 true = (65536, 0, 2) := numR_dig (d := 49) rfl (by decide) (by rfl)
theorem n13 : numR ex1 3 true = (131072, 0, 4) := numR_dig (d := 50) rfl (by decide) (by rfl)
theorem n15 : numR ex1 5 true = (196608, 0, 6) := numR_dig (d := 51) rfl (by decide) (by rfl)
theorem n17 : numR ex1 7 true = (262144, 0, 8) := numR_dig (d := 52) rfl (by decide) (by rfl)
theorem n21 : numR ex2 1 true = (65536, 0, 2) := numR_dig (d := 49) rfl (by decide) (by rfl)
theorem n23 : numR ex2 3 true = (131072, 0, 4) := numR_dig (d := 50) rfl (by decide) (by rfl)
theorem n25 : numR ex2 5 true = (0, 3, 5) := numR_none (by rfl)
theorem argR_n (s : List UInt8) (p : Nat) : argR s 110 p = numR s p true := if_neg (by decide)
theorem grp_two (s : List UInt8) (p p1 q1 q2 : Nat) (v1 v2 : Int) (h1 : numR s p true = (v1, 0, q1)) (hg : q1 + gapN (s.drop q1) = p1) (h2 : numR s p1 true = (v2, 0, q2)) : grpR s [110, 110] 0 p [] = ([v1, v2], 0, q2) := by
  have nk : ∀ P : Prop, ¬ ((110 : UInt8) = 103 ∧ P) := fun P h => absurd h.1 (by decide)
  have n0 : ¬ ((0 : Int) ≠ 0) := by decide
  rw [grpR]
  simp only [Nat.lt_irrefl, if_false, argR_n, h1]
  rw [if_neg (nk _), if_neg n0, grpR]
  simp only [Nat.lt_add_one, if_true, argR_n, hg, h2]
  rw [if_neg (nk _), if_neg n0, grpR]
  rfl
theorem g11 : grpR ex1 [110, 110] 0 1 [] = ([65536, 131072], 0, 4) := grp_two ex1 1 3 2 4 _ _ n11 rfl n13
theorem g15 : grpR ex1 [110, 110] 0 5 [] = ([196608, 262144], 0, 8) := grp_two ex1 5 7 6 8 _ _ n15 rfl n17
theorem g21 : grpR ex2 [110, 110] 0 1 [] = ([65536, 131072], 0, 4) := grp_two ex2 1 3 2 4 _ _ n21 rfl n23
theorem g25 : grpR ex2 [110, 110] 0 5 [] = ([], 3, 5) := by
  rw [grpR]
  simp only [Nat.lt_irrefl, if_false, argR_n, n25]
  rw [if_neg (by decide), if_pos (by decide)]
theorem r1 (n : Nat) : runR ex1 [110, 110] (n + 2) 77 1 = ([(77, [65536, 131072]), (76, [196608, 262144])], 0, 8) := by
  have m1 : moreR ex1 (([110, 110] : List UInt8).head? == some 110) 4 = (true, 5) := by rfl
  have m2 : moreR ex1 (([110, 110] : List UInt8).head? == some 110) 8 = (false, 8) := by rfl
  rw [runR]
  simp only [g11, m1]
  rw [if_neg (by decide), if_pos trivial, show nextC 77 = 76 from rfl, runR]
  simp only [g15, m2]
  rw [if_neg (by decide), if_neg (by decide)]
theorem p1 : pathR ex1 = ([(77, [65536, 131072]), (76, [196608, 262144]), (122, [])], 0, 9) := by
  unfold pathR
  rw [show ex1.length + 1 = 7 + 1 + 1 + 1 from rfl, show blk ex1 = 0 from rfl, walkR]
  rw [show ex1[0]? = some 77 from rfl]
  simp only
  rw [show ofN (77 : UInt8).toNat = some (77, [110, 110]) from rfl]
  simp only
  rw [if_neg (by decide), if_neg (by decide), show 0 + 1 + blk (ex1.drop (0 + 1)) = 1 from rfl, show ex1.length + 1 = 8 + 2 from rfl, r1]
  simp only
  rw [if_neg (by decide), walkR, show ex1[8]? = some 122 from rfl]
  simp only
  rw [show ofN (122 : UInt8).toNat = some (90, []) from rfl]
  simp only
  rw [if_neg (by decide), if_pos trivial, walkR, show ex1[8 + 1 + blk (ex1.drop (8 + 1))]? = none from rfl]
  rfl
theorem r2 (n : Nat) : runR ex2 [110, 110] (n + 2) 77 1 = ([(77, [65536, 131072])], 3, 5) := by
  have m1 : moreR ex2 (([110, 110] : List UInt8).head? == some 110) 4 = (true, 5) := by rfl
  rw [runR]
  simp only [g21, m1]
  rw [if_neg (by decide), if_pos trivial, runR]
  simp only [g25]
  rw [if_pos (by decide)]
theorem p2 : pathR ex2 = ([(77, [65536, 131072])], 3, 5) := by
  unfold pathR
  rw [show ex2.length + 1 = 8 + 1 + 1 from rfl, show blk ex2 = 0 from rfl, walkR]
  rw [show ex2[0]? = some 77 from rfl]
  simp only
  rw [show ofN (77 : UInt8).toNat = some (77, [110, 110]) from rfl]
  simp only
  rw [if_neg (by decide), if_neg (by decide), show 0 + 1 + blk (ex2.drop (0 + 1)) = 1 from rfl, show ex2.length + 1 = 8 + 2 from rfl, r2]
  simp only
  rw [if_pos (by decide)]
end Go.Proofs.YteicdddheaajlaaDoor
namespace Go.Proofs.YteicdddheaajlaaDoor
open Go.Abs
def ex7 : List UInt8 := [77, 32, 49, 32, 49, 32, 104, 32, 50, 32, 122, 32, 108, 32, 49, 32, 48]
theorem n72 : numR ex7 2 true = (65536, 0, 3) := numR_dig (d := 49) rfl (by decide) (by rfl)
theorem n74 : numR ex7 4 true = (65536, 0, 5) := numR_dig (d := 49) rfl (by decide) (by rfl)
theorem n78 : numR ex7 8 true = (131072, 0, 9) := numR_dig (d := 50) rfl (by decide) (by rfl)
theorem n714 : numR ex7 14 true = (65536, 0, 15) := numR_dig (d := 49) rfl (by decide) (by rfl)
theorem n716 : numR ex7 16 true = (0, 0, 17) := numR_dig (d := 48) rfl (by decide) (by rfl)
theorem g72 : grpR ex7 [110, 110] 0 2 [] = ([65536, 65536], 0, 5) := grp_two ex7 2 4 3 5 _ _ n72 rfl n74
theorem g714 : grpR ex7 [110, 110] 0 14 [] = ([65536, 0], 0, 17) := grp_two ex7 14 16 15 17 _ _ n714 rfl n716
theorem g78 : grpR ex7 [110] 0 8 [] = ([131072], 0, 9) := by
  rw [grpR]
  simp only [Nat.lt_irrefl, if_false, argR_n, n78]
  rw [if_neg (by decide), if_neg (by decide), grpR]
  rfl
theorem r72 (n : Nat) : runR ex7 [110, 110] (n + 1) 77 2 = ([(77, [65536, 65536])], 0, 6) := by
  have m1 : moreR ex7 (([110, 110] : List UInt8).head? == some 110) 5 = (false, 6) := by rfl
  rw [runR]
  simp only [g72, m1]
  rw [if_neg (by decide), if_neg (by decide)]
theorem r78 (n : Nat) : runR ex7 [110] (n + 1) 104 8 = ([(104, [131072])], 0, 10) := by
  have m1 : moreR ex7 (([110] : List UInt8).head? == some 110) 9 = (false, 10) := by rfl
  rw [runR]
  simp only [g78, m1]
  rw [if_neg (by decide), if_neg (by decide)]
theorem r714 (n : Nat) : runR ex7 [110, 110] (n + 1) 108 14 = ([(108, [65536, 0])], 0, 17) := by
  have m1 : moreR ex7 (([110, 110] : List UInt8).head? == some 110) 17 = (false, 17) := by rfl
  rw [runR]
  simp only [g714, m1]
  rw [if_neg (by decide), if_neg (by decide)]
def G7 : List (UInt8 × List Int) := [(77, [65536, 65536]), (104, [131072]), (122, []), (108, [65536, 0])]
theorem w717 (n : Nat) : walkR ex7 n false 17 = ([], 0, 17) := by
  cases n with
  | zero => rfl
  | succ n => rw [walkR, show ex7[17]? = none from rfl]
theorem w712 (n : Nat) : walkR ex7 (n + 1) false 12 = ([(108, [65536, 0])], 0, 17) := by
  rw [walkR, show ex7[12]? = some 108 from rfl]
  simp only
  rw [show ofN (108 : UInt8).toNat = some (76, [110, 110]) from rfl]
  simp only
  rw [if_neg (by decide), if_neg (by decide), show 12 + 1 + blk (ex7.drop (12 + 1)) = 14 from rfl, show ex7.length + 1 = 17 + 1 from rfl, r714]
  simp only
  rw [if_neg (by decide), w717]
  rfl
theorem w710 (n : Nat) : walkR ex7 (n + 2) false 10 = ([(122, []), (108, [65536, 0])], 0, 17) := by
  rw [walkR, show ex7[10]? = some 122 from rfl]
  simp only
  rw [show ofN (122 : UInt8).toNat = some (90, []) from rfl]
  simp only
  rw [if_neg (by decide), if_pos trivial, show 10 + 1 + blk (ex7.drop (10 + 1)) = 12 from rfl, w712]
theorem w76 (n : Nat) : walkR ex7 (n + 3) false 6 = ([(104, [131072]), (122, []), (108, [65536, 0])], 0, 17) := by
  rw [walkR, show ex7[6]? = some 104 from rfl]
  simp only
  rw [show ofN (104 : UInt8).toNat = some (72, [110]) from rfl]
  simp only
  rw [if_neg (by decide), if_neg (by decide), show 6 + 1 + blk (ex7.drop (6 + 1)) = 8 from rfl, show ex7.length + 1 = 17 + 1 from rfl, r78]
  simp only
  rw [if_neg (by decide), w710]
  rfl
theorem p7 : pathR ex7 = (G7, 0, 17) := by
  unfold pathR
  rw [show ex7.length + 1 = 14 + 3 + 1 from rfl, show blk ex7 = 0 from rfl, walkR, show ex7[0]? = some 77 from rfl]
  simp only
  rw [show ofN (77 : UInt8).toNat = some (77, [110, 110]) from rfl]
  simp only
  rw [if_neg (by decide), if_neg (by decide), show 0 + 1 + blk (ex7.drop (0 + 1)) = 2 from rfl, show ex7.length + 1 = 17 + 1 from rfl, r72]
  simp only
  rw [if_neg (by decide), w76]
  rfl
def ptI (x y : Int) : Pt := ⟨x * 65536, y * 65536⟩
def S7 : List Sg := [lnS 1 (ptI 1 1), lnS 2 (ptI 3 1), lnS 6 (ptI 1 1), lnS 1 (ptI 1 1), lnS 2 (ptI 2 1)]
theorem k7 : walkN G7 0 st0 = (S7, none) := by rfl
end Go.Proofs.YteicdddheaajlaaDoor
namespace Go.Proofs.YteicdddheaajlaaDoor
open Go.Abs
theorem pathR_len' (s : List UInt8) (hl : s.length ≤ 400) : (pathR s).1.length ≤ s.length := by
  have h1 := blk_in s 0 (by omega)
  rw [Nat.zero_add, List.drop_zero] at h1
  have := walkR_pos s hl (s.length + 1) true (blk s) h1
  unfold pathR; omega
theorem doS_len (s : St) (c : Int) (n : List Int) : (doS s c n).out.length ≤ s.out.length + 2 := by
  have ho := opS_out (bigI c) s
  have hm : ∀ a b, (mirS (opS (bigI c) s) a b).out = (opS (bigI c) s).out := fun a b => by unfold mirS; split <;> rfl
  have h1 : ∀ x : Sg, ((opS (bigI c) s).out ++ [x]).length ≤ s.out.length + 2 := fun x => by rw [List.length_append, List.length_singleton]; omega
  show (actS (bigI c) (frS c s) n (opS (bigI c) s)).out.length ≤ _
  unfold actS
  repeat' split
  all_goals first | exact h1 _ | (show ((mirS (opS (bigI c) s) _ _).out ++ [_]).length ≤ _; rw [hm]; exact h1 _)
theorem walkN_len : ∀ (C : List (UInt8 × List Int)) (i : Nat) (s : St), (walkN C i s).1.length ≤ s.out.length + 2 * C.length
  | [], _, s => by simp [walkN]
  | x :: C, i, s => by
    have h1 := walkN_len C (i + 1) (doS s x.1.toNat x.2)
    have h2 := doS_len s x.1.toNat x.2
    rw [walkN]
    split
    · dsimp only; omega
    · rw [List.length_cons]; omega
def parV (p : List (UInt8 × List Int) × Int × Nat) (L : List Sg) (r : Option Nat) : AV := match r with
  | none => .tup [sgV L, .int .i64 (if p.2.1 = 0 then -1 else (p.2.2 : Nat)), .int .i64 p.2.1]
  | some i => .tup [sgV L, .int .i64 i, .int .i64 2]
set_option maxRecDepth 20000 in
theorem c_nparse (s : List UInt8) (hl : s.length ≤ 400) (L : List Sg) (r : Option Nat) (hW : walkN (pathR s).1 0 st0 = (L, r)) : ACalls seat 8 [.str s] [] (fun x _ => x = .ret (parV (pathR s) L r)) := by
  have c1 := c_parse s hl
  have hlen := pathR_len' s hl
  have c2 := c_nwalk (pathR s).1 (pathR_ok s hl) (by omega) L r hW
  have he := pathR_e s hl
  generalize pathR s = p at *
  obtain ⟨G, e, q⟩ := p
  unfold parV
  unfold cmdV sgV at *
  simp only at *
  clear hW
  refine ACalls.body seat_ok Tryd.func8 rfl rfl ?_
  cases r with
  | none =>
    conv => whnf
    repeat' (first | exact rfl | (refine lf seat_g c1 ?_; conv => whnf) | (refine lf seat_g c2 ?_; conv => whnf) | ((first | refine zs (by omega) ?_ | refine zq6 ?_ | refine zs (by dsimp only; omega) ?_ | refine zs (show pendP _ _ by repeat' constructor) ?_ | (with_reducible first | refine brT ‹_› ?_ | refine brF ‹_› ?_ | refine zt (by omega) ?_ | refine zf (by omega) ?_ | refine brNot ?_)); conv => whnf))
  | some i =>
    conv => whnf
    repeat' (first | exact rfl | (refine lf seat_g c1 ?_; conv => whnf) | (refine lf seat_g c2 ?_; conv => whnf) | ((first | refine zs (by omega) ?_ | refine zq6 ?_ | refine zs (by dsimp only; omega) ?_ | refine zs (show pendP _ _ by repeat' constructor) ?_ | (with_reducible first | refine brT ‹_› ?_ | refine brF ‹_› ?_ | refine zt (by omega) ?_ | refine zf (by omega) ?_ | refine brNot ?_)); conv => whnf))
theorem c_lpoint (x y : Int) (hx : -1000 ≤ x ∧ x ≤ 1000) (hy : -1000 ≤ y ∧ y ≤ 1000) : ACalls seat 16 [.int .i64 x, .int .i64 y] [] (fun r _ => r = .ret (ptI x y).a) := by
  refine ACalls.body seat_ok Tryd.func16 rfl rfl ?_
  have e : (2 : Int) ^ min (Int.toNat 16) (IntKind.bits .i64) = 65536 := rfl
  have w1 : IntKind.wrap .i64 (x * 2 ^ min (Int.toNat 16) (IntKind.bits .i64)) = x * 65536 := by rw [e]; exact wrap_i64 (by omega) (by omega)
  have w2 : IntKind.wrap .i64 (y * 2 ^ min (Int.toNat 16) (IntKind.bits .i64)) = y * 65536 := by rw [e]; exact wrap_i64 (by omega) (by omega)
  conv => whnf
  repeat' (first | exact rfl | (refine WrapH.is _ w1 ?_; conv => whnf) | (refine WrapH.is _ w2 ?_; conv => whnf) | ((first | refine zs (by omega) ?_ | refine zq6 ?_ | refine zs (by dsimp only; omega) ?_ | refine zs (show pendP _ _ by repeat' constructor) ?_ | (with_reducible first | refine brT ‹_› ?_ | refine brF ‹_› ?_ | refine zt (by omega) ?_ | refine zf (by omega) ?_ | refine brNot ?_)); conv => whnf))
set_option maxRecDepth 20000 in
theorem c_rsame (L : List Sg) (hl : L.length ≤ 100000) : ACalls seat 10 [sgV L, sgV L] [] (fun x _ => x = .ret (.bool true)) := by
  refine ACalls.body seat_ok Tryd.func10 rfl rfl ?_
  unfold sgV
  conv => whnf
  repeat' ((first | refine zs (by omega) ?_ | refine zq6 ?_ | refine zs (by dsimp only; omega) ?_ | refine zs (show pendP _ _ by repeat' constructor) ?_ | (with_reducible first | refine brT ‹_› ?_ | refine brF ‹_› ?_ | refine zt (by omega) ?_ | refine zf (by omega) ?_ | refine brNot ?_)); conv => whnf)
  refine Sat.cut (fun x t h => x = .exit 0 ∧ t = (uu::uu::uu::uu::uu::uu::uu::uu::uu::uu::uu::uu::uu::uu::uu::uu::uu::uu::uu::uu::uu::uu::uu::uu::uu::uu::[])) ?_ ?_
  · refine Sat.invP seat_ok seat_g (maskOf 26 [0, 1, 5]) 0 (fun μ t h => ∃ i : Nat, i ≤ L.length ∧ μ = L.length - i ∧ t = (.vec (cs sgC L) L.length none::.vec (cs sgC L) L.length none::uu::uu::uu::.int .i64 i::uu::uu::uu::uu::uu::uu::uu::uu::uu::uu::uu::uu::uu::uu::uu::uu::uu::uu::uu::uu::[]) ∧ h = [])
      ?_ ⟨_, _, WeakL.of_eq rfl, 0, Nat.zero_le _, rfl, rfl, rfl⟩ ?_
    · rintro _ _ _ ⟨i, -, -, rfl, rfl⟩
      exact ⟨rfl, by simp [IdsL, Ids, sg_ids], (by simp [IdsL, Ids, IdsH, IdsC, lv_ids, ci_ids])⟩
    rintro _ _ _ ⟨i, hi, rfl, rfl, rfl⟩
    by_cases g : i < L.length
    · obtain ⟨x, hx⟩ : ∃ x, L[i]? = some x := ⟨_, List.getElem?_eq_getElem g⟩
      have hld : sub (cs sgC L) ((i : Int).toNat * 12) 12 = some (sgC x) := cs_sub sgC_len hx
      have hb : (x.kind == x.kind && (x.to.x == x.to.x && (x.to.y == x.to.y && (x.c1.x == x.c1.x && (x.c1.y == x.c1.y && (x.c2.x == x.c2.x && (x.c2.y == x.c2.y && (x.rx == x.rx && (x.ry == x.ry && (x.turn == x.turn && (x.large == x.large && (x.sweep == x.sweep && true)))))))))))) = true := by simp
      conv => whnf
      repeat' ((first | refine zs (by omega) ?_ | refine zq6 ?_ | refine zs (by dsimp only; omega) ?_ | refine zs (show pendP _ _ by repeat' constructor) ?_ | (with_reducible first | refine brT ‹_› ?_ | refine brF ‹_› ?_ | refine zt (by omega) ?_ | refine zf (by omega) ?_ | refine brNot ?_)); conv => whnf)
      refine DrawH.plan seat_ok (.take 0 (.take 1 (.take 2 (.take 3 (.take 4 (.take 5 (.take 6 (.take 7 (.take 8 Plan.done))))))))) 0 (by kernel_rfl) ?_
      conv => whnf
      repeat' (first | exact ⟨_, _, Nat.sub_lt_sub_left g (Nat.lt_succ_self i), WeakL.of_eq rfl, i + 1, g, rfl, rfl, rfl⟩ | (refine ldI _ hld ?_; conv => whnf) | (refine brNot (brT hb ?_); conv => whnf) | ((first | refine zs (by omega) ?_ | refine zq6 ?_ | refine zs (by dsimp only; omega) ?_ | refine zs (show pendP _ _ by repeat' constructor) ?_ | (with_reducible first | refine brT ‹_› ?_ | refine brF ‹_› ?_ | refine zt (by omega) ?_ | refine zf (by omega) ?_ | refine brNot ?_)); conv => whnf))
    · conv => whnf
      repeat' (first | exact ⟨_, keepT_weak (maskOf 26 []) _, rfl, rfl⟩ | ((first | refine zs (by omega) ?_ | refine zq6 ?_ | refine zs (by dsimp only; omega) ?_ | refine zs (show pendP _ _ by repeat' constructor) ?_ | (with_reducible first | refine brT ‹_› ?_ | refine brF ‹_› ?_ | refine zt (by omega) ?_ | refine zf (by omega) ?_ | refine brNot ?_)); conv => whnf))
  · rintro _ _ _ ⟨rfl, rfl⟩
    conv => whnf
    rfl
set_option maxRecDepth 20000 in
theorem c_wakes : ACalls seat 7 [] [] (fun x _ => x = .ret (.bool true)) := by
  have c1 := c_nparse ex7 (by decide) S7 none (by rw [p7]; exact k7)
  rw [p7] at c1
  unfold parV at c1
  have c2 := c_rsame S7 (by decide)
  have q1 := c_lpoint 1 1 (by decide) (by decide)
  have q2 := c_lpoint 3 1 (by decide) (by decide)
  have q3 := c_lpoint 2 1 (by decide) (by decide)
  unfold sgV at *
  refine ACalls.body seat_ok Tryd.func7 rfl rfl ?_
  conv => whnf
  repeat' (first | exact rfl | (refine lf seat_g c1 ?_; conv => whnf) | (refine CallH.lift seat_g q1 (by simp [Closed, ClosedL]) (Pt.closed _) ?_; conv => whnf) | (refine CallH.lift seat_g q2 (by simp [Closed, ClosedL]) (Pt.closed _) ?_; conv => whnf) | (refine CallH.lift seat_g q3 (by simp [Closed, ClosedL]) (Pt.closed _) ?_; conv => whnf) | (refine CallH.weakA (WeakL.cons (Weak.refl _) (WeakL.cons Weak.tok WeakL.nil)) ?_; refine lf seat_g c2 ?_; conv => whnf) | ((first | refine zs (by omega) ?_ | refine zq6 ?_ | refine zs (by dsimp only; omega) ?_ | refine zs (show pendP _ _ by repeat' constructor) ?_ | (with_reducible first | refine brT ‹_› ?_ | refine brF ‹_› ?_ | refine zt (by omega) ?_ | refine zf (by omega) ?_ | refine brNot ?_)); conv => whnf))
end Go.Proofs.YteicdddheaajlaaDoor
namespace Go.Proofs.YteicdddheaajlaaDoor
open Go.Abs
def all9 (x : Sg) : Prop := (IB x.to.x ∧ IB x.to.y ∧ IB x.c1.x) ∧ (IB x.c1.y ∧ IB x.c2.x ∧ IB x.c2.y) ∧ (IB x.rx ∧ IB x.ry ∧ IB x.turn)
instance (x : Sg) : Decidable (all9 x) := by unfold all9; infer_instance
set_option maxRecDepth 20000 in
set_option maxHeartbeats 1000000 in
theorem c_within9 (x : Sg) : ACalls seat 38 [.int .i64 4294967296, .vec [.int .i64 x.to.x, .int .i64 x.to.y, .int .i64 x.c1.x, .int .i64 x.c1.y, .int .i64 x.c2.x, .int .i64 x.c2.y, .int .i64 x.rx, .int .i64 x.ry, .int .i64 x.turn] 9 none] [] (fun r _ => r = .ret (.bool (decide (all9 x)))) := by
  refine ACalls.body seat_ok Tryd.func38 rfl rfl ?_
  by_cases h : all9 x
  · rw [decide_eq_true h]
    unfold all9 IB at h
    conv => whnf
    repeat' ((first | refine zs (by omega) ?_ | refine zq6 ?_ | refine zs (by dsimp only; omega) ?_ | refine zs (show pendP _ _ by repeat' constructor) ?_ | (with_reducible first | refine brT ‹_› ?_ | refine brF ‹_› ?_ | refine zt (by omega) ?_ | refine zf (by omega) ?_ | refine brNot ?_)); conv => whnf)
    refine Sat.unroll seat_ok 11 ?_
    conv => whnf
    repeat' ((first | refine zs (by omega) ?_ | refine zq6 ?_ | refine zs (by dsimp only; omega) ?_ | refine zs (show pendP _ _ by repeat' constructor) ?_ | (with_reducible first | refine brT ‹_› ?_ | refine brF ‹_› ?_ | refine zt (by omega) ?_ | refine zf (by omega) ?_ | refine brNot ?_)); conv => whnf)
    rfl
  · rw [decide_eq_false h]
    unfold all9 IB at h
    conv => whnf
    repeat' ((first | refine zs (by omega) ?_ | refine zq6 ?_ | refine zs (by dsimp only; omega) ?_ | refine zs (show pendP _ _ by repeat' constructor) ?_ | (with_reducible first | refine brT ‹_› ?_ | refine brF ‹_› ?_ | refine zt (by omega) ?_ | refine zf (by omega) ?_ | refine brNot ?_)); conv => whnf)
    refine Sat.unroll seat_ok 11 ?_
    conv => whnf
    repeat' (first | ((first | refine zs (by omega) ?_ | refine zq6 ?_ | refine zs (by dsimp only; omega) ?_ | refine zs (show pendP _ _ by repeat' constructor) ?_ | (with_reducible first | refine brT ‹_› ?_ | refine brF ‹_› ?_ | refine zt (by omega) ?_ | refine zf (by omega) ?_ | refine brNot ?_)); conv => whnf) | (first | ((with_reducible refine brD (fun _ => ?_) (fun _ => ?_)) <;> (conv => whnf)) | ((with_reducible refine brE (fun _ => ?_) (fun _ => ?_)) <;> (conv => whnf)) | ((with_reducible refine brNE (fun _ => ?_) (fun _ => ?_)) <;> (conv => whnf)) | ((with_reducible refine brI (fun _ => ?_) (fun _ => ?_)) <;> (conv => whnf))))
    all_goals first | rfl | (exfalso; omega)
def shape (x : Sg) : Prop :=
  ((x.kind = 1 ∨ x.kind = 2 ∨ x.kind = 6) ∧ (x.c1.x = 0 ∧ x.c1.y = 0) ∧ (x.c2.x = 0 ∧ x.c2.y = 0) ∧ (x.rx = 0 ∧ x.ry = 0 ∧ x.turn = 0) ∧ x.large = false ∧ x.sweep = false) ∨
  (x.kind = 3 ∧ (x.rx = 0 ∧ x.ry = 0 ∧ x.turn = 0) ∧ x.large = false ∧ x.sweep = false) ∨
  (x.kind = 4 ∧ (x.c2.x = 0 ∧ x.c2.y = 0) ∧ (x.rx = 0 ∧ x.ry = 0 ∧ x.turn = 0) ∧ x.large = false ∧ x.sweep = false) ∨
  (x.kind = 5 ∧ (x.c1.x = 0 ∧ x.c1.y = 0) ∧ (x.c2.x = 0 ∧ x.c2.y = 0))
instance (x : Sg) : Decidable (shape x) := by unfold shape; infer_instance
def plainP (x : Sg) : Prop := shape x ∧ 0 ≤ x.rx ∧ 0 ≤ x.ry ∧ all9 x
instance (x : Sg) : Decidable (plainP x) := by unfold plainP; infer_instance
set_option maxRecDepth 20000 in
set_option maxHeartbeats 4000000 in
theorem c_plain (x : Sg) : ACalls seat 24 [.agg (sgC x)] [] (fun r _ => r = .ret (.bool (decide (plainP x)))) := by
  refine ACalls.body seat_ok Tryd.func24 rfl rfl ?_
  have cw := c_within9 x
  have hk : x.kind = 1 ∨ x.kind = 2 ∨ x.kind = 6 ∨ x.kind = 3 ∨ x.kind = 4 ∨ x.kind = 5 ∨ (x.kind ≠ 1 ∧ x.kind ≠ 2 ∧ x.kind ≠ 6 ∧ x.kind ≠ 3 ∧ x.kind ≠ 4 ∧ x.kind ≠ 5) := by omega
  have hd : ∀ b : Bool, (b = true ↔ plainP x) → decide (plainP x) = b := fun b h => by
    cases b with
    | true => exact decide_eq_true (h.1 rfl)
    | false => exact decide_eq_false (fun g => by cases h.2 g)
  rcases hk with hk | hk | hk | hk | hk | hk | hk
  · by_cases hs : shape x
    · have he : (x.kind == x.kind && (x.to.x == x.to.x && (x.to.y == x.to.y && (x.c1.x == 0 && (x.c1.y == 0 && (x.c2.x == 0 && (x.c2.y == 0 && (x.rx == 0 && (x.ry == 0 && (x.turn == 0 && (x.large == false && (x.sweep == false && true)))))))))))) = true := by
        unfold shape at hs
        simp only [hk] at hs
        simp at hs
        simp [hs]
      by_cases h1 : 0 ≤ x.rx
      · by_cases h2 : 0 ≤ x.ry
        · rw [hd (decide (all9 x)) (by rw [decide_eq_true_eq]; exact ⟨fun h => ⟨hs, h1, h2, h⟩, fun h => h.2.2.2⟩)]
          clear hd hs
          conv => whnf
          repeat' (first | exact rfl | (refine brT he ?_; conv => whnf) | (refine brF he ?_; conv => whnf) | (refine CallH.weakA (WeakL.cons (Weak.refl _) (WeakL.cons Weak.tok WeakL.nil)) ?_; refine lf seat_g cw ?_; conv => whnf) | ((first | refine zs (by omega) ?_ | refine zq6 ?_ | refine zs (by dsimp only; omega) ?_ | refine zs (show pendP _ _ by repeat' constructor) ?_ | (with_reducible first | refine brT ‹_› ?_ | refine brF ‹_› ?_ | refine zt (by omega) ?_ | refine zf (by omega) ?_ | refine brNot ?_)); conv => whnf))
        · rw [hd false (by constructor; (intro h; cases h); (intro h; exact absurd h.2.2.1 h2))]
          clear hd hs
          conv => whnf
          repeat' (first | exact rfl | (refine brT he ?_; conv => whnf) | (refine brF he ?_; conv => whnf) | (refine CallH.weakA (WeakL.cons (Weak.refl _) (WeakL.cons Weak.tok WeakL.nil)) ?_; refine lf seat_g cw ?_; conv => whnf) | ((first | refine zs (by omega) ?_ | refine zq6 ?_ | refine zs (by dsimp only; omega) ?_ | refine zs (show pendP _ _ by repeat' constructor) ?_ | (with_reducible first | refine brT ‹_› ?_ | refine brF ‹_› ?_ | refine zt (by omega) ?_ | refine zf (by omega) ?_ | refine brNot ?_)); conv => whnf))
      · rw [hd false (by constructor; (intro h; cases h); (intro h; exact absurd h.2.1 h1))]
        clear hd hs
        conv => whnf
        repeat' (first | exact rfl | (refine brT he ?_; conv => whnf) | (refine brF he ?_; conv => whnf) | (refine CallH.weakA (WeakL.cons (Weak.refl _) (WeakL.cons Weak.tok WeakL.nil)) ?_; refine lf seat_g cw ?_; conv => whnf) | ((first | refine zs (by omega) ?_ | refine zq6 ?_ | refine zs (by dsimp only; omega) ?_ | refine zs (show pendP _ _ by repeat' constructor) ?_ | (with_reducible first | refine brT ‹_› ?_ | refine brF ‹_› ?_ | refine zt (by omega) ?_ | refine zf (by omega) ?_ | refine brNot ?_)); conv => whnf))
    · have he : (x.kind == x.kind && (x.to.x == x.to.x && (x.to.y == x.to.y && (x.c1.x == 0 && (x.c1.y == 0 && (x.c2.x == 0 && (x.c2.y == 0 && (x.rx == 0 && (x.ry == 0 && (x.turn == 0 && (x.large == false && (x.sweep == false && true)))))))))))) = false := by
        apply Bool.eq_false_iff.2
        intro h
        apply hs
        unfold shape
        simp only [hk]
        simp at h
        simp [h]
      rw [hd false (by constructor; (intro h; cases h); (intro h; exact absurd h.1 hs))]
      clear hd hs
      conv => whnf
      repeat' (first | exact rfl | (refine brT he ?_; conv => whnf) | (refine brF he ?_; conv => whnf) | (refine CallH.weakA (WeakL.cons (Weak.refl _) (WeakL.cons Weak.tok WeakL.nil)) ?_; refine lf seat_g cw ?_; conv => whnf) | ((first | refine zs (by omega) ?_ | refine zq6 ?_ | refine zs (by dsimp only; omega) ?_ | refine zs (show pendP _ _ by repeat' constructor) ?_ | (with_reducible first | refine brT ‹_› ?_ | refine brF ‹_› ?_ | refine zt (by omega) ?_ | refine zf (by omega) ?_ | refine brNot ?_)); conv => whnf))
  · by_cases hs : shape x
    · have he : (x.kind == x.kind && (x.to.x == x.to.x && (x.to.y == x.to.y && (x.c1.x == 0 && (x.c1.y == 0 && (x.c2.x == 0 && (x.c2.y == 0 && (x.rx == 0 && (x.ry == 0 && (x.turn == 0 && (x.large == false && (x.sweep == false && true)))))))))))) = true := by
        unfold shape at hs
        simp only [hk] at hs
        simp at hs
        simp [hs]
      by_cases h1 : 0 ≤ x.rx
      · by_cases h2 : 0 ≤ x.ry
        · rw [hd (decide (all9 x)) (by rw [decide_eq_true_eq]; exact ⟨fun h => ⟨hs, h1, h2, h⟩, fun h => h.2.2.2⟩)]
          clear hd hs
          conv => whnf
          repeat' (first | exact rfl | (refine brT he ?_; conv => whnf) | (refine brF he ?_; conv => whnf) | (refine CallH.weakA (WeakL.cons (Weak.refl _) (WeakL.cons Weak.tok WeakL.nil)) ?_; refine lf seat_g cw ?_; conv => whnf) | ((first | refine zs (by omega) ?_ | refine zq6 ?_ | refine zs (by dsimp only; omega) ?_ | refine zs (show pendP _ _ by repeat' constructor) ?_ | (with_reducible first | refine brT ‹_› ?_ | refine brF ‹_› ?_ | refine zt (by omega) ?_ | refine zf (by omega) ?_ | refine brNot ?_)); conv => whnf))
        · rw [hd false (by constructor; (intro h; cases h); (intro h; exact absurd h.2.2.1 h2))]
          clear hd hs
          conv => whnf
          repeat' (first | exact rfl | (refine brT he ?_; conv => whnf) | (refine brF he ?_; conv => whnf) | (refine CallH.weakA (WeakL.cons (Weak.refl _) (WeakL.cons Weak.tok WeakL.nil)) ?_; refine lf seat_g cw ?_; conv => whnf) | ((first | refine zs (by omega) ?_ | refine zq6 ?_ | refine zs (by dsimp only; omega) ?_ | refine zs (show pendP _ _ by repeat' constructor) ?_ | (with_reducible first | refine brT ‹_› ?_ | refine brF ‹_› ?_ | refine zt (by omega) ?_ | refine zf (by omega) ?_ | refine brNot ?_)); conv => whnf))
      · rw [hd false (by constructor; (intro h; cases h); (intro h; exact absurd h.2.1 h1))]
        clear hd hs
        conv => whnf
        repeat' (first | exact rfl | (refine brT he ?_; conv => whnf) | (refine brF he ?_; conv => whnf) | (refine CallH.weakA (WeakL.cons (Weak.refl _) (WeakL.cons Weak.tok WeakL.nil)) ?_; refine lf seat_g cw ?_; conv => whnf) | ((first | refine zs (by omega) ?_ | refine zq6 ?_ | refine zs (by dsimp only; omega) ?_ | refine zs (show pendP _ _ by repeat' constructor) ?_ | (with_reducible first | refine brT ‹_› ?_ | refine brF ‹_› ?_ | refine zt (by omega) ?_ | refine zf (by omega) ?_ | refine brNot ?_)); conv => whnf))
    · have he : (x.kind == x.kind && (x.to.x == x.to.x && (x.to.y == x.to.y && (x.c1.x == 0 && (x.c1.y == 0 && (x.c2.x == 0 && (x.c2.y == 0 && (x.rx == 0 && (x.ry == 0 && (x.turn == 0 && (x.large == false && (x.sweep == false && true)))))))))))) = false := by
        apply Bool.eq_false_iff.2
        intro h
        apply hs
        unfold shape
        simp only [hk]
        simp at h
        simp [h]
      rw [hd false (by constructor; (intro h; cases h); (intro h; exact absurd h.1 hs))]
      clear hd hs
      conv => whnf
      repeat' (first | exact rfl | (refine brT he ?_; conv => whnf) | (refine brF he ?_; conv => whnf) | (refine CallH.weakA (WeakL.cons (Weak.refl _) (WeakL.cons Weak.tok WeakL.nil)) ?_; refine lf seat_g cw ?_; conv => whnf) | ((first | refine zs (by omega) ?_ | refine zq6 ?_ | refine zs (by dsimp only; omega) ?_ | refine zs (show pendP _ _ by repeat' constructor) ?_ | (with_reducible first | refine brT ‹_› ?_ | refine brF ‹_› ?_ | refine zt (by omega) ?_ | refine zf (by omega) ?_ | refine brNot ?_)); conv => whnf))
  · by_cases hs : shape x
    · have he : (x.kind == x.kind && (x.to.x == x.to.x && (x.to.y == x.to.y && (x.c1.x == 0 && (x.c1.y == 0 && (x.c2.x == 0 && (x.c2.y == 0 && (x.rx == 0 && (x.ry == 0 && (x.turn == 0 && (x.large == false && (x.sweep == false && true)))))))))))) = true := by
        unfold shape at hs
        simp only [hk] at hs
        simp at hs
        simp [hs]
      by_cases h1 : 0 ≤ x.rx
      · by_cases h2 : 0 ≤ x.ry
        · rw [hd (decide (all9 x)) (by rw [decide_eq_true_eq]; exact ⟨fun h => ⟨hs, h1, h2, h⟩, fun h => h.2.2.2⟩)]
          clear hd hs
          conv => whnf
          repeat' (first | exact rfl | (refine brT he ?_; conv => whnf) | (refine brF he ?_; conv => whnf) | (refine CallH.weakA (WeakL.cons (Weak.refl _) (WeakL.cons Weak.tok WeakL.nil)) ?_; refine lf seat_g cw ?_; conv => whnf) | ((first | refine zs (by omega) ?_ | refine zq6 ?_ | refine zs (by dsimp only; omega) ?_ | refine zs (show pendP _ _ by repeat' constructor) ?_ | (with_reducible first | refine brT ‹_› ?_ | refine brF ‹_› ?_ | refine zt (by omega) ?_ | refine zf (by omega) ?_ | refine brNot ?_)); conv => whnf))
        · rw [hd false (by constructor; (intro h; cases h); (intro h; exact absurd h.2.2.1 h2))]
          clear hd hs
          conv => whnf
          repeat' (first | exact rfl | (refine brT he ?_; conv => whnf) | (refine brF he ?_; conv => whnf) | (refine CallH.weakA (WeakL.cons (Weak.refl _) (WeakL.cons Weak.tok WeakL.nil)) ?_; refine lf seat_g cw ?_; conv => whnf) | ((first | refine zs (by omega) ?_ | refine zq6 ?_ | refine zs (by dsimp only; omega) ?_ | refine zs (show pendP _ _ by repeat' constructor) ?_ | (with_reducible first | refine brT ‹_› ?_ | refine brF ‹_› ?_ | refine zt (by omega) ?_ | refine zf (by omega) ?_ | refine brNot ?_)); conv => whnf))
      · rw [hd false (by constructor; (intro h; cases h); (intro h; exact absurd h.2.1 h1))]
        clear hd hs
        conv => whnf
        repeat' (first | exact rfl | (refine brT he ?_; conv => whnf) | (refine brF he ?_; conv => whnf) | (refine CallH.weakA (WeakL.cons (Weak.refl _) (WeakL.cons Weak.tok WeakL.nil)) ?_; refine lf seat_g cw ?_; conv => whnf) | ((first | refine zs (by omega) ?_ | refine zq6 ?_ | refine zs (by dsimp only; omega) ?_ | refine zs (show pendP _ _ by repeat' constructor) ?_ | (with_reducible first | refine brT ‹_› ?_ | refine brF ‹_› ?_ | refine zt (by omega) ?_ | refine zf (by omega) ?_ | refine brNot ?_)); conv => whnf))
    · have he : (x.kind == x.kind && (x.to.x == x.to.x && (x.to.y == x.to.y && (x.c1.x == 0 && (x.c1.y == 0 && (x.c2.x == 0 && (x.c2.y == 0 && (x.rx == 0 && (x.ry == 0 && (x.turn == 0 && (x.large == false && (x.sweep == false && true)))))))))))) = false := by
        apply Bool.eq_false_iff.2
        intro h
        apply hs
        unfold shape
        simp only [hk]
        simp at h
        simp [h]
      rw [hd false (by constructor; (intro h; cases h); (intro h; exact absurd h.1 hs))]
      clear hd hs
      conv => whnf
      repeat' (first | exact rfl | (refine brT he ?_; conv => whnf) | (refine brF he ?_; conv => whnf) | (refine CallH.weakA (WeakL.cons (Weak.refl _) (WeakL.cons Weak.tok WeakL.nil)) ?_; refine lf seat_g cw ?_; conv => whnf) | ((first | refine zs (by omega) ?_ | refine zq6 ?_ | refine zs (by dsimp only; omega) ?_ | refine zs (show pendP _ _ by repeat' constructor) ?_ | (with_reducible first | refine brT ‹_› ?_ | refine brF ‹_› ?_ | refine zt (by omega) ?_ | refine zf (by omega) ?_ | refine brNot ?_)); conv => whnf))
  · by_cases hs : shape x
    · have he : (x.kind == x.kind && (x.to.x == x.to.x && (x.to.y == x.to.y && (x.c1.x == x.c1.x && (x.c1.y == x.c1.y && (x.c2.x == x.c2.x && (x.c2.y == x.c2.y && (x.rx == 0 && (x.ry == 0 && (x.turn == 0 && (x.large == false && (x.sweep == false && true)))))))))))) = true := by
        unfold shape at hs
        simp only [hk] at hs
        simp at hs
        simp [hs]
      by_cases h1 : 0 ≤ x.rx
      · by_cases h2 : 0 ≤ x.ry
        · rw [hd (decide (all9 x)) (by rw [decide_eq_true_eq]; exact ⟨fun h => ⟨hs, h1, h2, h⟩, fun h => h.2.2.2⟩)]
          clear hd hs
          conv => whnf
          repeat' (first | exact rfl | (refine brT he ?_; conv => whnf) | (refine brF he ?_; conv => whnf) | (refine CallH.weakA (WeakL.cons (Weak.refl _) (WeakL.cons Weak.tok WeakL.nil)) ?_; refine lf seat_g cw ?_; conv => whnf) | ((first | refine zs (by omega) ?_ | refine zq6 ?_ | refine zs (by dsimp only; omega) ?_ | refine zs (show pendP _ _ by repeat' constructor) ?_ | (with_reducible first | refine brT ‹_› ?_ | refine brF ‹_› ?_ | refine zt (by omega) ?_ | refine zf (by omega) ?_ | refine brNot ?_)); conv => whnf))
        · rw [hd false (by constructor; (intro h; cases h); (intro h; exact absurd h.2.2.1 h2))]
          clear hd hs
          conv => whnf
          repeat' (first | exact rfl | (refine brT he ?_; conv => whnf) | (refine brF he ?_; conv => whnf) | (refine CallH.weakA (WeakL.cons (Weak.refl _) (WeakL.cons Weak.tok WeakL.nil)) ?_; refine lf seat_g cw ?_; conv => whnf) | ((first | refine zs (by omega) ?_ | refine zq6 ?_ | refine zs (by dsimp only; omega) ?_ | refine zs (show pendP _ _ by repeat' constructor) ?_ | (with_reducible first | refine brT ‹_› ?_ | refine brF ‹_› ?_ | refine zt (by omega) ?_ | refine zf (by omega) ?_ | refine brNot ?_)); conv => whnf))
      · rw [hd false (by constructor; (intro h; cases h); (intro h; exact absurd h.2.1 h1))]
        clear hd hs
        conv => whnf
        repeat' (first | exact rfl | (refine brT he ?_; conv => whnf) | (refine brF he ?_; conv => whnf) | (refine CallH.weakA (WeakL.cons (Weak.refl _) (WeakL.cons Weak.tok WeakL.nil)) ?_; refine lf seat_g cw ?_; conv => whnf) | ((first | refine zs (by omega) ?_ | refine zq6 ?_ | refine zs (by dsimp only; omega) ?_ | refine zs (show pendP _ _ by repeat' constructor) ?_ | (with_reducible first | refine brT ‹_› ?_ | refine brF ‹_› ?_ | refine zt (by omega) ?_ | refine zf (by omega) ?_ | refine brNot ?_)); conv => whnf))
    · have he : (x.kind == x.kind && (x.to.x == x.to.x && (x.to.y == x.to.y && (x.c1.x == x.c1.x && (x.c1.y == x.c1.y && (x.c2.x == x.c2.x && (x.c2.y == x.c2.y && (x.rx == 0 && (x.ry == 0 && (x.turn == 0 && (x.large == false && (x.sweep == false && true)))))))))))) = false := by
        apply Bool.eq_false_iff.2
        intro h
        apply hs
        unfold shape
        simp only [hk]
        simp at h
        simp [h]
      rw [hd false (by constructor; (intro h; cases h); (intro h; exact absurd h.1 hs))]
      clear hd hs
      conv => whnf
      repeat' (first | exact rfl | (refine brT he ?_; conv => whnf) | (refine brF he ?_; conv => whnf) | (refine CallH.weakA (WeakL.cons (Weak.refl _) (WeakL.cons Weak.tok WeakL.nil)) ?_; refine lf seat_g cw ?_; conv => whnf) | ((first | refine zs (by omega) ?_ | refine zq6 ?_ | refine zs (by dsimp only; omega) ?_ | refine zs (show pendP _ _ by repeat' constructor) ?_ | (with_reducible first | refine brT ‹_› ?_ | refine brF ‹_› ?_ | refine zt (by omega) ?_ | refine zf (by omega) ?_ | refine brNot ?_)); conv => whnf))
  · by_cases hs : shape x
    · have he : (x.kind == x.kind && (x.to.x == x.to.x && (x.to.y == x.to.y && (x.c1.x == x.c1.x && (x.c1.y == x.c1.y && (x.c2.x == 0 && (x.c2.y == 0 && (x.rx == 0 && (x.ry == 0 && (x.turn == 0 && (x.large == false && (x.sweep == false && true)))))))))))) = true := by
        unfold shape at hs
        simp only [hk] at hs
        simp at hs
        simp [hs]
      by_cases h1 : 0 ≤ x.rx
      · by_cases h2 : 0 ≤ x.ry
        · rw [hd (decide (all9 x)) (by rw [decide_eq_true_eq]; exact ⟨fun h => ⟨hs, h1, h2, h⟩, fun h => h.2.2.2⟩)]
          clear hd hs
          conv => whnf
          repeat' (first | exact rfl | (refine brT he ?_; conv => whnf) | (refine brF he ?_; conv => whnf) | (refine CallH.weakA (WeakL.cons (Weak.refl _) (WeakL.cons Weak.tok WeakL.nil)) ?_; refine lf seat_g cw ?_; conv => whnf) | ((first | refine zs (by omega) ?_ | refine zq6 ?_ | refine zs (by dsimp only; omega) ?_ | refine zs (show pendP _ _ by repeat' constructor) ?_ | (with_reducible first | refine brT ‹_› ?_ | refine brF ‹_› ?_ | refine zt (by omega) ?_ | refine zf (by omega) ?_ | refine brNot ?_)); conv => whnf))
        · rw [hd false (by constructor; (intro h; cases h); (intro h; exact absurd h.2.2.1 h2))]
          clear hd hs
          conv => whnf
          repeat' (first | exact rfl | (refine brT he ?_; conv => whnf) | (refine brF he ?_; conv => whnf) | (refine CallH.weakA (WeakL.cons (Weak.refl _) (WeakL.cons Weak.tok WeakL.nil)) ?_; refine lf seat_g cw ?_; conv => whnf) | ((first | refine zs (by omega) ?_ | refine zq6 ?_ | refine zs (by dsimp only; omega) ?_ | refine zs (show pendP _ _ by repeat' constructor) ?_ | (with_reducible first | refine brT ‹_› ?_ | refine brF ‹_› ?_ | refine zt (by omega) ?_ | refine zf (by omega) ?_ | refine brNot ?_)); conv => whnf))
      · rw [hd false (by constructor; (intro h; cases h); (intro h; exact absurd h.2.1 h1))]
        clear hd hs
        conv => whnf
        repeat' (first | exact rfl | (refine brT he ?_; conv => whnf) | (refine brF he ?_; conv => whnf) | (refine CallH.weakA (WeakL.cons (Weak.refl _) (WeakL.cons Weak.tok WeakL.nil)) ?_; refine lf seat_g cw ?_; conv => whnf) | ((first | refine zs (by omega) ?_ | refine zq6 ?_ | refine zs (by dsimp only; omega) ?_ | refine zs (show pendP _ _ by repeat' constructor) ?_ | (with_reducible first | refine brT ‹_› ?_ | refine brF ‹_› ?_ | refine zt (by omega) ?_ | refine zf (by omega) ?_ | refine brNot ?_)); conv => whnf))
    · have he : (x.kind == x.kind && (x.to.x == x.to.x && (x.to.y == x.to.y && (x.c1.x == x.c1.x && (x.c1.y == x.c1.y && (x.c2.x == 0 && (x.c2.y == 0 && (x.rx == 0 && (x.ry == 0 && (x.turn == 0 && (x.large == false && (x.sweep == false && true)))))))))))) = false := by
        apply Bool.eq_false_iff.2
        intro h
        apply hs
        unfold shape
        simp only [hk]
        simp at h
        simp [h]
      rw [hd false (by constructor; (intro h; cases h); (intro h; exact absurd h.1 hs))]
      clear hd hs
      conv => whnf
      repeat' (first | exact rfl | (refine brT he ?_; conv => whnf) | (refine brF he ?_; conv => whnf) | (refine CallH.weakA (WeakL.cons (Weak.refl _) (WeakL.cons Weak.tok WeakL.nil)) ?_; refine lf seat_g cw ?_; conv => whnf) | ((first | refine zs (by omega) ?_ | refine zq6 ?_ | refine zs (by dsimp only; omega) ?_ | refine zs (show pendP _ _ by repeat' constructor) ?_ | (with_reducible first | refine brT ‹_› ?_ | refine brF ‹_› ?_ | refine zt (by omega) ?_ | refine zf (by omega) ?_ | refine brNot ?_)); conv => whnf))
  · by_cases hs : shape x
    · have he : (x.kind == x.kind && (x.to.x == x.to.x && (x.to.y == x.to.y && (x.c1.x == 0 && (x.c1.y == 0 && (x.c2.x == 0 && (x.c2.y == 0 && (x.rx == x.rx && (x.ry == x.ry && (x.turn == x.turn && (x.large == x.large && (x.sweep == x.sweep && true)))))))))))) = true := by
        unfold shape at hs
        simp only [hk] at hs
        simp at hs
        simp [hs]
      by_cases h1 : 0 ≤ x.rx
      · by_cases h2 : 0 ≤ x.ry
        · rw [hd (decide (all9 x)) (by rw [decide_eq_true_eq]; exact ⟨fun h => ⟨hs, h1, h2, h⟩, fun h => h.2.2.2⟩)]
          clear hd hs
          conv => whnf
          repeat' (first | exact rfl | ((first | refine zs (by omega) ?_ | refine zq6 ?_ | refine zs (by dsimp only; omega) ?_ | refine zs (show pendP _ _ by repeat' constructor) ?_ | (with_reducible first | refine brT ‹_› ?_ | refine brF ‹_› ?_ | refine zt (by omega) ?_ | refine zf (by omega) ?_ | refine brNot ?_)); conv => whnf))
          refine DrawH.plan seat_ok (.take 0 (.take 1 (.take 2 (.take 3 (.take 4 (.take 5 (.take 6 (.take 7 (.take 8 (.take 9 (.take 10 (.perform 11 none (.take 12 (.perform 13 none (.take 14 (.perform 15 none (.take 16 (.perform 17 none (.take 18 (.perform 19 none Plan.done)))))))))))))))))))) 0 (by kernel_rfl) ?_
          conv => whnf
          repeat' (first | exact rfl | (refine brT he ?_; conv => whnf) | (refine brF he ?_; conv => whnf) | (refine CallH.weakA (WeakL.cons (Weak.refl _) (WeakL.cons Weak.tok WeakL.nil)) ?_; refine lf seat_g cw ?_; conv => whnf) | ((first | refine zs (by omega) ?_ | refine zq6 ?_ | refine zs (by dsimp only; omega) ?_ | refine zs (show pendP _ _ by repeat' constructor) ?_ | (with_reducible first | refine brT ‹_› ?_ | refine brF ‹_› ?_ | refine zt (by omega) ?_ | refine zf (by omega) ?_ | refine brNot ?_)); conv => whnf))
        · rw [hd false (by constructor; (intro h; cases h); (intro h; exact absurd h.2.2.1 h2))]
          clear hd hs
          conv => whnf
          repeat' (first | exact rfl | ((first | refine zs (by omega) ?_ | refine zq6 ?_ | refine zs (by dsimp only; omega) ?_ | refine zs (show pendP _ _ by repeat' constructor) ?_ | (with_reducible first | refine brT ‹_› ?_ | refine brF ‹_› ?_ | refine zt (by omega) ?_ | refine zf (by omega) ?_ | refine brNot ?_)); conv => whnf))
          refine DrawH.plan seat_ok (.take 0 (.take 1 (.take 2 (.take 3 (.take 4 (.take 5 (.take 6 (.take 7 (.take 8 (.take 9 (.take 10 (.perform 11 none (.take 12 (.perform 13 none (.take 14 (.perform 15 none (.take 16 (.perform 17 none (.take 18 (.perform 19 none Plan.done)))))))))))))))))))) 0 (by kernel_rfl) ?_
          conv => whnf
          repeat' (first | exact rfl | (refine brT he ?_; conv => whnf) | (refine brF he ?_; conv => whnf) | (refine CallH.weakA (WeakL.cons (Weak.refl _) (WeakL.cons Weak.tok WeakL.nil)) ?_; refine lf seat_g cw ?_; conv => whnf) | ((first | refine zs (by omega) ?_ | refine zq6 ?_ | refine zs (by dsimp only; omega) ?_ | refine zs (show pendP _ _ by repeat' constructor) ?_ | (with_reducible first | refine brT ‹_› ?_ | refine brF ‹_› ?_ | refine zt (by omega) ?_ | refine zf (by omega) ?_ | refine brNot ?_)); conv => whnf))
      · rw [hd false (by constructor; (intro h; cases h); (intro h; exact absurd h.2.1 h1))]
        clear hd hs
        conv => whnf
        repeat' (first | exact rfl | ((first | refine zs (by omega) ?_ | refine zq6 ?_ | refine zs (by dsimp only; omega) ?_ | refine zs (show pendP _ _ by repeat' constructor) ?_ | (with_reducible first | refine brT ‹_› ?_ | refine brF ‹_› ?_ | refine zt (by omega) ?_ | refine zf (by omega) ?_ | refine brNot ?_)); conv => whnf))
        refine DrawH.plan seat_ok (.take 0 (.take 1 (.take 2 (.take 3 (.take 4 (.take 5 (.take 6 (.take 7 (.take 8 (.take 9 (.take 10 (.perform 11 none (.take 12 (.perform 13 none (.take 14 (.perform 15 none (.take 16 (.perform 17 none (.take 18 (.perform 19 none Plan.done)))))))))))))))))))) 0 (by kernel_rfl) ?_
        conv => whnf
        repeat' (first | exact rfl | (refine brT he ?_; conv => whnf) | (refine brF he ?_; conv => whnf) | (refine CallH.weakA (WeakL.cons (Weak.refl _) (WeakL.cons Weak.tok WeakL.nil)) ?_; refine lf seat_g cw ?_; conv => whnf) | ((first | refine zs (by omega) ?_ | refine zq6 ?_ | refine zs (by dsimp only; omega) ?_ | refine zs (show pendP _ _ by repeat' constructor) ?_ | (with_reducible first | refine brT ‹_› ?_ | refine brF ‹_› ?_ | refine zt (by omega) ?_ | refine zf (by omega) ?_ | refine brNot ?_)); conv => whnf))
    · have he : (x.kind == x.kind && (x.to.x == x.to.x && (x.to.y == x.to.y && (x.c1.x == 0 && (x.c1.y == 0 && (x.c2.x == 0 && (x.c2.y == 0 && (x.rx == x.rx && (x.ry == x.ry && (x.turn == x.turn && (x.large == x.large && (x.sweep == x.sweep && true)))))))))))) = false := by
        apply Bool.eq_false_iff.2
        intro h
        apply hs
        unfold shape
        simp only [hk]
        simp at h
        simp [h]
      rw [hd false (by constructor; (intro h; cases h); (intro h; exact absurd h.1 hs))]
      clear hd hs
      conv => whnf
      repeat' (first | exact rfl | ((first | refine zs (by omega) ?_ | refine zq6 ?_ | refine zs (by dsimp only; omega) ?_ | refine zs (show pendP _ _ by repeat' constructor) ?_ | (with_reducible first | refine brT ‹_› ?_ | refine brF ‹_› ?_ | refine zt (by omega) ?_ | refine zf (by omega) ?_ | refine brNot ?_)); conv => whnf))
      refine DrawH.plan seat_ok (.take 0 (.take 1 (.take 2 (.take 3 (.take 4 (.take 5 (.take 6 (.take 7 (.take 8 (.take 9 (.take 10 (.perform 11 none (.take 12 (.perform 13 none (.take 14 (.perform 15 none (.take 16 (.perform 17 none (.take 18 (.perform 19 none Plan.done)))))))))))))))))))) 0 (by kernel_rfl) ?_
      conv => whnf
      repeat' (first | exact rfl | (refine brT he ?_; conv => whnf) | (refine brF he ?_; conv => whnf) | (refine CallH.weakA (WeakL.cons (Weak.refl _) (WeakL.cons Weak.tok WeakL.nil)) ?_; refine lf seat_g cw ?_; conv => whnf) | ((first | refine zs (by omega) ?_ | refine zq6 ?_ | refine zs (by dsimp only; omega) ?_ | refine zs (show pendP _ _ by repeat' constructor) ?_ | (with_reducible first | refine brT ‹_› ?_ | refine brF ‹_› ?_ | refine zt (by omega) ?_ | refine zf (by omega) ?_ | refine brNot ?_)); conv => whnf))
  · rw [hd false (by constructor; (intro h; cases h); (intro h; obtain ⟨h, -⟩ := h; unfold shape at h; omega))]
    clear hd
    conv => whnf
    repeat' (first | exact rfl | ((first | refine zs (by omega) ?_ | refine zq6 ?_ | refine zs (by dsimp only; omega) ?_ | refine zs (show pendP _ _ by repeat' constructor) ?_ | (with_reducible first | refine brT ‹_› ?_ | refine brF ‹_› ?_ | refine zt (by omega) ?_ | refine zf (by omega) ?_ | refine brNot ?_)); conv => whnf))
end Go.Proofs.YteicdddheaajlaaDoor
namespace Go.Proofs.YteicdddheaajlaaDoor
open Go.Abs
def stepP (p : List Sg) (x : Sg) : Prop := plainP x ∧ (x.kind = 1 ∨ (shutR p = false ∧ (x.kind = 6 → x.to.x = (beginR p).x ∧ x.to.y = (beginR p).y)))
instance (p : List Sg) (x : Sg) : Decidable (stepP p x) := by unfold stepP; infer_instance
def goR : List Sg → List Sg → Bool
  | _, [] => true
  | p, x :: r => if stepP p x then goR (p ++ [x]) r else false
theorem take_snoc {l : List Sg} {i : Nat} {x : Sg} (h : l[i]? = some x) : l.take (i + 1) = l.take i ++ [x] := by
  rw [List.take_add_one, h]; rfl
theorem shut_at {l : List Sg} {i : Nat} (hi : i < l.length) : (i = 0 ∧ shutR (l.take i) = true) ∨ (∃ (j : Nat) (y : Sg), i = j + 1 ∧ l[j]? = some y ∧ shutR (l.take i) = decide (y.kind = 6)) := by
  cases i with
  | zero => exact .inl ⟨rfl, rfl⟩
  | succ j =>
    have hy : l[j]? = some l[j] := List.getElem?_eq_getElem (by omega)
    exact .inr ⟨j, _, rfl, hy, by rw [take_snoc hy, shutR_snoc]⟩
set_option maxRecDepth 20000 in
set_option maxHeartbeats 4000000 in
theorem c_nright (l : List Sg) (hl : l.length ≤ 100000) : ACalls seat 14 [sgV l] [] (fun r _ => r = .ret (.bool (goR [] l))) := by
  refine ACalls.body seat_ok Tryd.func14 rfl rfl ?_
  generalize hR : goR [] l = R
  unfold sgV
  conv => whnf
  repeat' ((first | refine zs (by omega) ?_ | refine zq6 ?_ | refine zs (by dsimp only; omega) ?_ | refine zs (show pendP _ _ by repeat' constructor) ?_ | (with_reducible first | refine brT ‹_› ?_ | refine brF ‹_› ?_ | refine zt (by omega) ?_ | refine zf (by omega) ?_ | refine brNot ?_)); conv => whnf)
  refine Sat.cut (fun x t h => (x = .ret ∧ R = false ∧ t = (uu::uu::.bool false::uu::uu::uu::uu::uu::uu::uu::uu::uu::uu::uu::uu::uu::uu::uu::uu::uu::uu::uu::uu::uu::uu::uu::uu::uu::uu::uu::uu::uu::uu::uu::uu::uu::uu::uu::uu::uu::uu::uu::[])) ∨ (x = .exit 0 ∧ R = true ∧ t = (uu::uu::uu::uu::uu::uu::uu::uu::uu::uu::uu::uu::uu::uu::uu::uu::uu::uu::uu::uu::uu::uu::uu::uu::uu::uu::uu::uu::uu::uu::uu::uu::uu::uu::uu::uu::uu::uu::uu::uu::uu::uu::[]))) ?_ ?_
  · refine Sat.invP seat_ok seat_g (maskOf 42 [0, 3, 6, 7, 8]) 1 (fun μ t h => ∃ i : Nat, i ≤ l.length ∧ goR (l.take i) (l.drop i) = R ∧ μ = l.length - i ∧ t = (.vec (cs sgC l) l.length none::uu::uu::.ptr 0 0::uu::uu::.vec (cs sgC l) l.length none::.int .i64 l.length::.int .i64 i::uu::uu::uu::uu::uu::uu::uu::uu::uu::uu::uu::uu::uu::uu::uu::uu::uu::uu::uu::uu::uu::uu::uu::uu::uu::uu::uu::uu::uu::uu::uu::uu::uu::[]) ∧ h = [.var (beginR (l.take i)).c 41])
      ?_ ⟨_, _, WeakL.of_eq rfl, 0, Nat.zero_le _, by rw [List.take_zero, List.drop_zero]; exact hR, rfl, rfl, rfl⟩ ?_
    · rintro _ _ _ ⟨i, -, -, -, rfl, rfl⟩
      exact ⟨rfl, by simp [IdsL, Ids, sg_ids], by simp [IdsH, IdsC, IdsL, Ids, Pt.c]⟩
    clear hR
    rintro _ _ _ ⟨i, hi, hb, rfl, rfl, rfl⟩
    by_cases g : i < l.length
    · obtain ⟨x, hx⟩ : ∃ x, l[i]? = some x := ⟨_, List.getElem?_eq_getElem g⟩
      have hld : sub (cs sgC l) ((i : Int).toNat * 12) 12 = some (sgC x) := cs_sub sgC_len hx
      have cp := c_plain x
      have hbg := beginR_snoc (l.take i) x
      rw [← take_snoc hx] at hbg
      rw [drop_cons' hx, goR, ← take_snoc hx] at hb
      generalize hB : beginR (l.take i) = B at *
      have hsh := shut_at g
      by_cases a1 : plainP x
      · rw [decide_eq_true a1] at cp
        by_cases a2 : x.kind = 1
        · rw [if_pos ⟨a1, .inl a2⟩] at hb
          rw [if_pos a2] at hbg
          clear hsh a1
          conv => whnf
          repeat' (first | exact ⟨_, _, Nat.sub_lt_sub_left g (Nat.lt_succ_self i), WeakL.of_eq rfl, i + 1, g, hb, rfl, rfl, by rw [hbg]; rfl⟩ | (refine ldI _ hld ?_; conv => whnf) | (refine CallH.lift seat_g cp ⟨by simp [Closed, ClosedL, sgC], trivial⟩ (by simp [Closed]) ?_; conv => whnf) | ((first | refine zs (by omega) ?_ | refine zq6 ?_ | refine zs (by dsimp only; omega) ?_ | refine zs (show pendP _ _ by repeat' constructor) ?_ | (with_reducible first | refine brT ‹_› ?_ | refine brF ‹_› ?_ | refine zt (by omega) ?_ | refine zf (by omega) ?_ | refine brNot ?_)); conv => whnf))
        · rw [if_neg a2] at hbg
          rcases hsh with ⟨h0, hs⟩ | ⟨j, y, rfl, hy, hs⟩
          · rw [if_neg (fun h => by
              rcases h.2 with h | h
              · exact a2 h
              · rw [hs] at h; cases h.1)] at hb
            clear a1 hs
            conv => whnf
            repeat' (first | exact ⟨_, keepT_weak (maskOf 42 [2]) _, .inl ⟨rfl, hb.symm, rfl⟩⟩ | (refine ldI _ hld ?_; conv => whnf) | (refine CallH.lift seat_g cp ⟨by simp [Closed, ClosedL, sgC], trivial⟩ (by simp [Closed]) ?_; conv => whnf) | ((first | refine zs (by omega) ?_ | refine zq6 ?_ | refine zs (by dsimp only; omega) ?_ | refine zs (show pendP _ _ by repeat' constructor) ?_ | (with_reducible first | refine brT ‹_› ?_ | refine brF ‹_› ?_ | refine zt (by omega) ?_ | refine zf (by omega) ?_ | refine brNot ?_)); conv => whnf))
          · have hly : sub (cs sgC l) ((((j + 1 : Nat) : Int) - 1).toNat * 12) 12 = some (sgC y) := by
              rw [show (((j + 1 : Nat) : Int) - 1).toNat = j by omega]; exact cs_sub sgC_len hy
            by_cases a3 : y.kind = 6
            · rw [if_neg (fun h => by
                rcases h.2 with h | h
                · exact a2 h
                · rw [hs, decide_eq_true a3] at h; cases h.1)] at hb
              clear a1 hs
              conv => whnf
              repeat' (first | exact ⟨_, keepT_weak (maskOf 42 [2]) _, .inl ⟨rfl, hb.symm, rfl⟩⟩ | (refine ldI _ hld ?_; conv => whnf) | (refine ldI _ hly ?_; conv => whnf) | (refine CallH.lift seat_g cp ⟨by simp [Closed, ClosedL, sgC], trivial⟩ (by simp [Closed]) ?_; conv => whnf) | ((first | refine zs (by omega) ?_ | refine zq6 ?_ | refine zs (by dsimp only; omega) ?_ | refine zs (show pendP _ _ by repeat' constructor) ?_ | (with_reducible first | refine brT ‹_› ?_ | refine brF ‹_› ?_ | refine zt (by omega) ?_ | refine zf (by omega) ?_ | refine brNot ?_)); conv => whnf))
            · rw [decide_eq_false a3] at hs
              by_cases a4 : x.kind = 6 ∧ ¬ (x.to.x = B.x ∧ x.to.y = B.y)
              · have he : (x.to.x == B.x && (x.to.y == B.y && true)) = false := by
                  apply Bool.eq_false_iff.2; intro h; exact a4.2 (by simpa using h)
                have a5 := a4.1
                rw [if_neg (fun h => by
                  rcases h.2 with h | h
                  · exact a2 h
                  · rw [hB] at h; exact a4.2 (h.2 a4.1))] at hb
                clear a1 hs a4
                conv => whnf
                repeat' (first | exact ⟨_, keepT_weak (maskOf 42 [2]) _, .inl ⟨rfl, hb.symm, rfl⟩⟩ | (refine ldI _ hld ?_; conv => whnf) | (refine ldI _ hly ?_; conv => whnf) | (refine brNot (brF he ?_); conv => whnf) | (refine CallH.lift seat_g cp ⟨by simp [Closed, ClosedL, sgC], trivial⟩ (by simp [Closed]) ?_; conv => whnf) | ((first | refine zs (by omega) ?_ | refine zq6 ?_ | refine zs (by dsimp only; omega) ?_ | refine zs (show pendP _ _ by repeat' constructor) ?_ | (with_reducible first | refine brT ‹_› ?_ | refine brF ‹_› ?_ | refine zt (by omega) ?_ | refine zf (by omega) ?_ | refine brNot ?_)); conv => whnf))
              · have a5 : x.kind = 6 → x.to.x = B.x ∧ x.to.y = B.y := fun h => Classical.byContradiction fun h2 => a4 ⟨h, h2⟩
                rw [if_pos ⟨a1, .inr ⟨hs, by rw [hB]; exact a5⟩⟩] at hb
                clear a1 hs a4
                by_cases a6 : x.kind = 6
                · have he : (x.to.x == B.x && (x.to.y == B.y && true)) = true := by have := a5 a6; simp [this]
                  clear a5
                  conv => whnf
                  repeat' (first | exact ⟨_, _, Nat.sub_lt_sub_left g (Nat.lt_succ_self _), WeakL.of_eq rfl, j + 1 + 1, g, hb, rfl, rfl, by rw [hbg]; rfl⟩ | (refine ldI _ hld ?_; conv => whnf) | (refine ldI _ hly ?_; conv => whnf) | (refine brNot (brT he ?_); conv => whnf) | (refine CallH.lift seat_g cp ⟨by simp [Closed, ClosedL, sgC], trivial⟩ (by simp [Closed]) ?_; conv => whnf) | ((first | refine zs (by omega) ?_ | refine zq6 ?_ | refine zs (by dsimp only; omega) ?_ | refine zs (show pendP _ _ by repeat' constructor) ?_ | (with_reducible first | refine brT ‹_› ?_ | refine brF ‹_› ?_ | refine zt (by omega) ?_ | refine zf (by omega) ?_ | refine brNot ?_)); conv => whnf))
                · clear a5
                  conv => whnf
                  repeat' (first | exact ⟨_, _, Nat.sub_lt_sub_left g (Nat.lt_succ_self _), WeakL.of_eq rfl, j + 1 + 1, g, hb, rfl, rfl, by rw [hbg]; rfl⟩ | (refine ldI _ hld ?_; conv => whnf) | (refine ldI _ hly ?_; conv => whnf) | (refine CallH.lift seat_g cp ⟨by simp [Closed, ClosedL, sgC], trivial⟩ (by simp [Closed]) ?_; conv => whnf) | ((first | refine zs (by omega) ?_ | refine zq6 ?_ | refine zs (by dsimp only; omega) ?_ | refine zs (show pendP _ _ by repeat' constructor) ?_ | (with_reducible first | refine brT ‹_› ?_ | refine brF ‹_› ?_ | refine zt (by omega) ?_ | refine zf (by omega) ?_ | refine brNot ?_)); conv => whnf))
      · rw [decide_eq_false a1] at cp
        rw [if_neg (fun h => a1 h.1)] at hb
        clear hsh a1
        conv => whnf
        repeat' (first | exact ⟨_, keepT_weak (maskOf 42 [2]) _, .inl ⟨rfl, hb.symm, rfl⟩⟩ | (refine ldI _ hld ?_; conv => whnf) | (refine CallH.lift seat_g cp ⟨by simp [Closed, ClosedL, sgC], trivial⟩ (by simp [Closed]) ?_; conv => whnf) | ((first | refine zs (by omega) ?_ | refine zq6 ?_ | refine zs (by dsimp only; omega) ?_ | refine zs (show pendP _ _ by repeat' constructor) ?_ | (with_reducible first | refine brT ‹_› ?_ | refine brF ‹_› ?_ | refine zt (by omega) ?_ | refine zf (by omega) ?_ | refine brNot ?_)); conv => whnf))
    · obtain rfl : i = l.length := by omega
      rw [List.drop_length] at hb
      conv => whnf
      repeat' (first | exact ⟨_, keepT_weak (maskOf 42 []) _, .inr ⟨rfl, hb.symm, rfl⟩⟩ | ((first | refine zs (by omega) ?_ | refine zq6 ?_ | refine zs (by dsimp only; omega) ?_ | refine zs (show pendP _ _ by repeat' constructor) ?_ | (with_reducible first | refine brT ‹_› ?_ | refine brF ‹_› ?_ | refine zt (by omega) ?_ | refine zf (by omega) ?_ | refine brNot ?_)); conv => whnf))
  · rintro _ _ _ (⟨rfl, rfl, rfl⟩ | ⟨rfl, rfl, rfl⟩)
    · conv => whnf
      rfl
    · conv => whnf
      rfl
end Go.Proofs.YteicdddheaajlaaDoor
namespace Go.Proofs.YteicdddheaajlaaDoor
open Go.Abs
theorem c_rin (p : Pt) : ACalls seat 25 [p.a] [] (fun x _ => x = .ret (.bool (decide (inP p)))) := by
  refine ACalls.body seat_ok Tryd.func25 rfl rfl ?_
  have h5 : (inP p ∧ (p.x > -4294967296 ∧ p.x < 4294967296 ∧ p.y > -4294967296 ∧ p.y < 4294967296)) ∨ (¬ inP p ∧ ((¬ p.x > -4294967296) ∨ (p.x > -4294967296 ∧ ¬ p.x < 4294967296) ∨ (p.x > -4294967296 ∧ p.x < 4294967296 ∧ ¬ p.y > -4294967296) ∨ (p.x > -4294967296 ∧ p.x < 4294967296 ∧ p.y > -4294967296 ∧ ¬ p.y < 4294967296))) := by
    unfold inP IB; omega
  rcases h5 with ⟨h, h1, h2, h3, h4⟩ | ⟨h, h1 | ⟨h1, h2⟩ | ⟨h1, h2, h3⟩ | ⟨h1, h2, h3, h4⟩⟩
  all_goals
    first
      | rw [decide_eq_true h]
      | rw [decide_eq_false h]
    clear h
    conv => whnf
    repeat' (first | exact rfl | exact congrArg (fun b => AEnd.ret (.bool b)) (decide_eq_true (by omega)) | exact congrArg (fun b => AEnd.ret (.bool b)) (decide_eq_false (by omega)) | ((first | refine zs (by omega) ?_ | refine zq6 ?_ | refine zs (by dsimp only; omega) ?_ | refine zs (show pendP _ _ by repeat' constructor) ?_ | (with_reducible first | refine brT ‹_› ?_ | refine brF ‹_› ?_ | refine zt (by omega) ?_ | refine zf (by omega) ?_ | refine brNot ?_)); conv => whnf))
set_option maxRecDepth 20000 in
theorem c_begin (l : List Sg) (hl : l.length ≤ 1000000) : ACalls seat 27 [sgV l] [] (fun x _ => x = .ret (beginR l).a) := by
  refine ACalls.body seat_ok Tryd.func27 rfl rfl ?_
  unfold sgV
  generalize hB : beginR l = B
  conv => whnf
  repeat' ((first | refine zs (by omega) ?_ | refine zq6 ?_ | refine zs (by dsimp only; omega) ?_ | refine zs (show pendP _ _ by repeat' constructor) ?_ | (with_reducible first | refine brT ‹_› ?_ | refine brF ‹_› ?_ | refine zt (by omega) ?_ | refine zf (by omega) ?_ | refine brNot ?_)); conv => whnf)
  refine Sat.cut (fun x t h => (x = .ret ∧ t = (uu::uu::.ptr 0 0::uu::uu::uu::uu::uu::uu::uu::uu::uu::uu::uu::uu::uu::uu::uu::uu::uu::uu::uu::uu::[]) ∧ h = [.var B.c 41]) ∨ (x = .exit 0 ∧ B = p0 ∧ t = (uu::uu::.ptr 0 0::uu::uu::uu::uu::uu::uu::uu::uu::uu::uu::uu::uu::uu::uu::uu::uu::uu::uu::uu::uu::[]) ∧ h = [.var [.int .i64 0, .int .i64 0] 41])) ?_ ?_
  · refine Sat.invP seat_ok seat_g (maskOf 23 [0, 2, 3]) 1 (fun μ t h => ∃ i : Nat, i ≤ l.length ∧ beginR (l.take i) = B ∧ μ = i ∧ t = (.vec (cs sgC l) l.length none::uu::.ptr 0 0::.int .i64 ((i : Int) - 1)::uu::uu::uu::uu::uu::uu::uu::uu::uu::uu::uu::uu::uu::uu::uu::uu::uu::uu::uu::[]) ∧ h = [.var [.int .i64 0, .int .i64 0] 41])
      ?_ ⟨_, _, WeakL.of_eq rfl, l.length, Nat.le_refl _, by rw [List.take_length]; exact hB, rfl, rfl, rfl⟩ ?_
    · rintro _ _ _ ⟨i, -, -, -, rfl, rfl⟩
      exact ⟨rfl, by simp [IdsL, Ids, sg_ids], (by simp [IdsL, Ids, IdsH, IdsC, lv_ids, ci_ids])⟩
    clear hB
    rintro i _ _ ⟨_, hi, hb, rfl, rfl, rfl⟩
    cases i with
    | zero =>
      have hb2 : p0 = B := hb
      conv => whnf
      repeat' (first | exact ⟨_, keepT_weak (maskOf 23 [2]) _, .inr ⟨rfl, hb2.symm, rfl, rfl⟩⟩ | ((first | refine zs (by omega) ?_ | refine zq6 ?_ | refine zs (by dsimp only; omega) ?_ | refine zs (show pendP _ _ by repeat' constructor) ?_ | (with_reducible first | refine brT ‹_› ?_ | refine brF ‹_› ?_ | refine zt (by omega) ?_ | refine zf (by omega) ?_ | refine brNot ?_)); conv => whnf))
    | succ j =>
      obtain ⟨x, hx⟩ : ∃ x, l[j]? = some x := ⟨_, List.getElem?_eq_getElem (by omega)⟩
      have ej : ((j + 1 : Nat) : Int) - 1 = j := by omega
      rw [ej]
      have hld : sub (cs sgC l) ((j : Int).toNat * 12) 12 = some (sgC x) := cs_sub sgC_len hx
      rw [List.take_succ, hx, Option.toList_some, beginR_snoc] at hb
      by_cases g : x.kind = 1
      · rw [if_pos g] at hb
        subst hb
        conv => whnf
        repeat' (first | exact ⟨_, keepT_weak (maskOf 23 [2]) _, .inl ⟨rfl, rfl, rfl⟩⟩ | (refine ldI _ hld ?_; conv => whnf) | ((first | refine zs (by omega) ?_ | refine zq6 ?_ | refine zs (by dsimp only; omega) ?_ | refine zs (show pendP _ _ by repeat' constructor) ?_ | (with_reducible first | refine brT ‹_› ?_ | refine brF ‹_› ?_ | refine zt (by omega) ?_ | refine zf (by omega) ?_ | refine brNot ?_)); conv => whnf))
      · rw [if_neg g] at hb
        conv => whnf
        repeat' (first | exact ⟨_, _, Nat.lt_succ_self j, WeakL.of_eq rfl, j, by omega, hb, rfl, rfl, rfl⟩ | (refine ldI _ hld ?_; conv => whnf) | ((first | refine zs (by omega) ?_ | refine zq6 ?_ | refine zs (by dsimp only; omega) ?_ | refine zs (show pendP _ _ by repeat' constructor) ?_ | (with_reducible first | refine brT ‹_› ?_ | refine brF ‹_› ?_ | refine zt (by omega) ?_ | refine zf (by omega) ?_ | refine brNot ?_)); conv => whnf))
  · rintro _ _ _ (⟨rfl, rfl, rfl⟩ | ⟨rfl, rfl, rfl, rfl⟩)
    · conv => whnf
      rfl
    · conv => whnf
      repeat' ((first | refine zs (by omega) ?_ | refine zq6 ?_ | refine zs (by dsimp only; omega) ?_ | refine zs (show pendP _ _ by repeat' constructor) ?_ | (with_reducible first | refine brT ‹_› ?_ | refine brF ‹_› ?_ | refine zt (by omega) ?_ | refine zf (by omega) ?_ | refine brNot ?_)); conv => whnf)
      rfl
end Go.Proofs.YteicdddheaajlaaDoor
