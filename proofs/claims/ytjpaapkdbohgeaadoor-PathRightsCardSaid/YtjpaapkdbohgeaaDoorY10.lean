/- Definitions and lemmas for the law, part 10. No condition beyond those in each statement. -/
import Derived.Test.YtjpaapkdbohgeaaDoorY9
set_option linter.unusedSimpArgs false
set_option linter.unusedVariables false
set_option linter.deprecated false
namespace Go.Proofs.YtjpaapkdbohgeaaDoor
open Go.Abs
set_option maxRecDepth 20000 in
set_option maxHeartbeats 1000000 in
theorem c_same (G : List (UInt8 × List Int)) (hG : G.length ≤ 100000) (hv : ∀ x ∈ G, x.2.length ≤ 100000) : ACalls seat 13 [cmdV G, cmdV G] [] (fun x _ => x = .ret (.bool true)) := by
  refine ACalls.body seat_ok Tryd.func13 rfl rfl ?_
  unfold cmdV
  conv => whnf
  repeat' ((first | refine zq1 (by omega) ?_ | refine zq2 (by omega) ?_ | refine NumH.rem (by omega) ?_ | refine zq4 (by omega) ?_ | refine zq5 (by omega) ?_ | refine zq6 ?_ | refine Req.mk (by omega) ?_ | refine Req.mk (by dsimp only; omega) ?_ | refine Req.mk (show pendP _ _ by repeat' constructor) ?_ | (with_reducible first | refine brT (by assumption) ?_ | refine brF (by assumption) ?_ | refine brDT (by omega) ?_ | refine brDF (by omega) ?_ | refine brET (by omega) ?_ | refine brEF (by omega) ?_ | refine brNET (by omega) ?_ | refine brNEF (by omega) ?_ | refine brNot ?_)); conv => whnf)
  refine Sat.cut (fun x t h => x = .exit 0 ∧ t = (uu::uu::uu::uu::uu::uu::uu::uu::uu::uu::uu::uu::uu::uu::uu::uu::uu::uu::uu::uu::uu::uu::uu::uu::uu::uu::uu::uu::uu::uu::uu::uu::uu::uu::uu::uu::uu::uu::uu::uu::uu::uu::uu::uu::uu::uu::uu::uu::uu::uu::uu::uu::uu::uu::uu::uu::uu::uu::uu::uu::uu::uu::uu::uu::uu::uu::uu::uu::uu::uu::uu::[])) ?_ ?_
  · refine Sat.invP seat_ok seat_g (maskOf 71 [0, 1, 5]) 0 (fun μ t h => ∃ (i : Nat) (z : Int), z = i ∧ i ≤ G.length ∧ μ = G.length - i ∧ t = (.vec (cs cmdC G) G.length none::.vec (cs cmdC G) G.length none::uu::uu::uu::.int .i64 z::uu::uu::uu::uu::uu::uu::uu::uu::uu::uu::uu::uu::uu::uu::uu::uu::uu::uu::uu::uu::uu::uu::uu::uu::uu::uu::uu::uu::uu::uu::uu::uu::uu::uu::uu::uu::uu::uu::uu::uu::uu::uu::uu::uu::uu::uu::uu::uu::uu::uu::uu::uu::uu::uu::uu::uu::uu::uu::uu::uu::uu::uu::uu::uu::uu::[]) ∧ h = [])
      ?_ ⟨_, _, WeakL.of_eq rfl, 0, 0, rfl, by omega, rfl, rfl, rfl⟩ ?_
    · rintro _ _ _ ⟨i, z, -, -, -, rfl, rfl⟩
      exact ⟨rfl, by simp [IdsL, Ids, cmd_ids], (by simp [IdsL, Ids, IdsH, IdsC, lv_ids, ci_ids])⟩
    rintro _ _ _ ⟨i, z, hz, hi, rfl, rfl, rfl⟩
    by_cases g : i < G.length
    · obtain ⟨⟨c, vals⟩, hx⟩ : ∃ x, G[i]? = some x := ⟨_, List.getElem?_eq_getElem g⟩
      have hvl := hv _ (List.mem_of_getElem? hx)
      simp only at hvl
      have hzi : z.toNat = i := by omega
      have hld : sub (cs cmdC G) (z.toNat * 2) 2 = some [.int .u8 c.toNat, .vec (ci .i64 vals) vals.length none] := by rw [hzi]; exact cs_sub cmdC_len hx
      have gz : z < G.length := by omega
      conv => whnf
      repeat' ((first | refine zq1 (by omega) ?_ | refine zq2 (by omega) ?_ | refine NumH.rem (by omega) ?_ | refine zq4 (by omega) ?_ | refine zq5 (by omega) ?_ | refine zq6 ?_ | refine Req.mk (by omega) ?_ | refine Req.mk (by dsimp only; omega) ?_ | refine Req.mk (show pendP _ _ by repeat' constructor) ?_ | (with_reducible first | refine brT (by assumption) ?_ | refine brF (by assumption) ?_ | refine brDT (by omega) ?_ | refine brDF (by omega) ?_ | refine brET (by omega) ?_ | refine brEF (by omega) ?_ | refine brNET (by omega) ?_ | refine brNEF (by omega) ?_ | refine brNot ?_)); conv => whnf)
      refine DrawH.plan seat_ok (.take 0 (.take 1 (.take 2 (.take 3 (.take 4 (.take 5 (.take 6 (.take 7 (.take 8 (.take 9 (.take 10 (.take 11 (.take 12 (.take 13 (.take 14 (.take 15 (.take 16 (.take 17 (.take 18 (.take 19 (.take 20 (.take 21 (.take 22 (.take 23 (.take 24 (.take 25 Plan.done)))))))))))))))))))))))))) 0 (by kernel_rfl) ?_
      conv => whnf
      repeat' (first | (refine ldI _ hld ?_; conv => whnf) | ((first | refine zq1 (by omega) ?_ | refine zq2 (by omega) ?_ | refine NumH.rem (by omega) ?_ | refine zq4 (by omega) ?_ | refine zq5 (by omega) ?_ | refine zq6 ?_ | refine Req.mk (by omega) ?_ | refine Req.mk (by dsimp only; omega) ?_ | refine Req.mk (show pendP _ _ by repeat' constructor) ?_ | (with_reducible first | refine brT (by assumption) ?_ | refine brF (by assumption) ?_ | refine brDT (by omega) ?_ | refine brDF (by omega) ?_ | refine brET (by omega) ?_ | refine brEF (by omega) ?_ | refine brNET (by omega) ?_ | refine brNEF (by omega) ?_ | refine brNot ?_)); conv => whnf))
      refine Sat.cut (fun x t h => x = .exit 2 ∧ t = (.vec (cs cmdC G) G.length none::.vec (cs cmdC G) G.length none::uu::uu::uu::.int .i64 z::uu::uu::uu::uu::uu::uu::uu::uu::uu::uu::uu::uu::uu::uu::uu::uu::uu::uu::uu::uu::uu::uu::uu::uu::uu::uu::uu::uu::uu::uu::uu::uu::uu::uu::uu::uu::uu::uu::uu::uu::uu::uu::uu::uu::uu::uu::uu::uu::uu::uu::uu::uu::uu::uu::uu::uu::uu::uu::uu::uu::uu::uu::uu::uu::uu::[]) ∧ h = []) ?_ ?_
      · refine Sat.invP seat_ok seat_g (maskOf 71 [0, 1, 5, 6]) 0 (fun μ t h => ∃ (j : Nat) (y : Int), y = j ∧ j ≤ vals.length ∧ μ = vals.length - j ∧ t = (.vec (cs cmdC G) G.length none::.vec (cs cmdC G) G.length none::uu::uu::uu::.int .i64 z::.int .i64 y::uu::uu::uu::uu::uu::uu::uu::uu::uu::uu::uu::uu::uu::uu::uu::uu::uu::uu::uu::uu::uu::uu::uu::uu::uu::uu::uu::uu::uu::uu::uu::uu::uu::uu::uu::uu::uu::uu::uu::uu::uu::uu::uu::uu::uu::uu::uu::uu::uu::uu::uu::uu::uu::uu::uu::uu::uu::uu::uu::uu::uu::uu::uu::uu::[]) ∧ h = [])
          ?_ ⟨_, _, WeakL.of_eq rfl, 0, 0, rfl, by omega, rfl, rfl, rfl⟩ ?_
        · rintro _ _ _ ⟨j, y, -, -, -, rfl, rfl⟩
          exact ⟨rfl, by simp [IdsL, Ids, cmd_ids], (by simp [IdsL, Ids, IdsH, IdsC, lv_ids, ci_ids])⟩
        rintro _ _ _ ⟨j, y, hy, hj, rfl, rfl, rfl⟩
        by_cases gj : j < vals.length
        · obtain ⟨v, hv2⟩ : ∃ v, vals[y.toNat]? = some v := ⟨_, List.getElem?_eq_getElem (by omega)⟩
          have hld2 := ci_sub .i64 hv2
          have gy : y < vals.length := by omega
          conv => whnf
          repeat' (first | (refine ldI _ hld ?_; conv => whnf) | ((first | refine zq1 (by omega) ?_ | refine zq2 (by omega) ?_ | refine NumH.rem (by omega) ?_ | refine zq4 (by omega) ?_ | refine zq5 (by omega) ?_ | refine zq6 ?_ | refine Req.mk (by omega) ?_ | refine Req.mk (by dsimp only; omega) ?_ | refine Req.mk (show pendP _ _ by repeat' constructor) ?_ | (with_reducible first | refine brT (by assumption) ?_ | refine brF (by assumption) ?_ | refine brDT (by omega) ?_ | refine brDF (by omega) ?_ | refine brET (by omega) ?_ | refine brEF (by omega) ?_ | refine brNET (by omega) ?_ | refine brNEF (by omega) ?_ | refine brNot ?_)); conv => whnf))
          refine DrawH.plan seat_ok (.take 0 (.take 1 (.take 2 (.take 3 (.take 4 (.take 5 (.take 6 (.take 7 (.take 8 (.take 9 (.take 10 (.take 11 (.take 12 (.take 13 (.take 14 (.take 15 (.take 16 Plan.done))))))))))))))))) 0 (by kernel_rfl) ?_
          conv => whnf
          repeat' (first | exact ⟨_, _, Nat.sub_lt_sub_left gj (Nat.lt_succ_self j), WeakL.of_eq rfl, j + 1, y + 1, by omega, by omega, rfl, rfl, rfl⟩ | (refine ldI _ hld ?_; conv => whnf) | (refine ldI _ hld2 ?_; conv => whnf) | ((first | refine zq1 (by omega) ?_ | refine zq2 (by omega) ?_ | refine NumH.rem (by omega) ?_ | refine zq4 (by omega) ?_ | refine zq5 (by omega) ?_ | refine zq6 ?_ | refine Req.mk (by omega) ?_ | refine Req.mk (by dsimp only; omega) ?_ | refine Req.mk (show pendP _ _ by repeat' constructor) ?_ | (with_reducible first | refine brT (by assumption) ?_ | refine brF (by assumption) ?_ | refine brDT (by omega) ?_ | refine brDF (by omega) ?_ | refine brET (by omega) ?_ | refine brEF (by omega) ?_ | refine brNET (by omega) ?_ | refine brNEF (by omega) ?_ | refine brNot ?_)); conv => whnf))
        · obtain rfl : j = vals.length := by omega
          have gy : ¬ (y < vals.length) := by omega
          conv => whnf
          repeat' (first | exact ⟨_, keepT_weak (maskOf 71 [0, 1, 5]) _, rfl, rfl, rfl⟩ | (refine ldI _ hld ?_; conv => whnf) | ((first | refine zq1 (by omega) ?_ | refine zq2 (by omega) ?_ | refine NumH.rem (by omega) ?_ | refine zq4 (by omega) ?_ | refine zq5 (by omega) ?_ | refine zq6 ?_ | refine Req.mk (by omega) ?_ | refine Req.mk (by dsimp only; omega) ?_ | refine Req.mk (show pendP _ _ by repeat' constructor) ?_ | (with_reducible first | refine brT (by assumption) ?_ | refine brF (by assumption) ?_ | refine brDT (by omega) ?_ | refine brDF (by omega) ?_ | refine brET (by omega) ?_ | refine brEF (by omega) ?_ | refine brNET (by omega) ?_ | refine brNEF (by omega) ?_ | refine brNot ?_)); conv => whnf))
      · rintro _ _ _ ⟨rfl, rfl, rfl⟩
        conv => whnf
        repeat' (first | exact ⟨_, _, Nat.sub_lt_sub_left g (Nat.lt_succ_self i), WeakL.of_eq rfl, i + 1, z + 1, by omega, by omega, rfl, rfl, rfl⟩ | ((first | refine zq1 (by omega) ?_ | refine zq2 (by omega) ?_ | refine NumH.rem (by omega) ?_ | refine zq4 (by omega) ?_ | refine zq5 (by omega) ?_ | refine zq6 ?_ | refine Req.mk (by omega) ?_ | refine Req.mk (by dsimp only; omega) ?_ | refine Req.mk (show pendP _ _ by repeat' constructor) ?_ | (with_reducible first | refine brT (by assumption) ?_ | refine brF (by assumption) ?_ | refine brDT (by omega) ?_ | refine brDF (by omega) ?_ | refine brET (by omega) ?_ | refine brEF (by omega) ?_ | refine brNET (by omega) ?_ | refine brNEF (by omega) ?_ | refine brNot ?_)); conv => whnf))
    · obtain rfl : i = G.length := by omega
      have gz : ¬ (z < G.length) := by omega
      conv => whnf
      repeat' (first | exact ⟨_, keepT_weak (maskOf 71 []) _, rfl, rfl⟩ | ((first | refine zq1 (by omega) ?_ | refine zq2 (by omega) ?_ | refine NumH.rem (by omega) ?_ | refine zq4 (by omega) ?_ | refine zq5 (by omega) ?_ | refine zq6 ?_ | refine Req.mk (by omega) ?_ | refine Req.mk (by dsimp only; omega) ?_ | refine Req.mk (show pendP _ _ by repeat' constructor) ?_ | (with_reducible first | refine brT (by assumption) ?_ | refine brF (by assumption) ?_ | refine brDT (by omega) ?_ | refine brDF (by omega) ?_ | refine brET (by omega) ?_ | refine brEF (by omega) ?_ | refine brNET (by omega) ?_ | refine brNEF (by omega) ?_ | refine brNot ?_)); conv => whnf))
  · rintro _ _ _ ⟨rfl, rfl⟩
    conv => whnf
    rfl
end Go.Proofs.YtjpaapkdbohgeaaDoor
namespace Go.Proofs.YtjpaapkdbohgeaaDoor
open Go.Abs
def cntR (c : Int) : Int := match ofN c with
  | some x => x.2.length
  | none => -1
theorem cntR_some {c : Int} {x : Int × List UInt8} (h : ofN c = some x) : cntR c = x.2.length := by unfold cntR; rw [h]
theorem cntR_none {c : Int} (h : ofN c = none) : cntR c = -1 := by unfold cntR; rw [h]
set_option maxRecDepth 20000 in
theorem c_rcount (c : Int) : ACalls seat 18 [.int .u8 c] [] (fun x _ => x = .ret (.int .i64 (cntR c))) := by
  refine ACalls.body seat_ok Tryd.func18 rfl rfl ?_
  rcases Classical.em (c = 77 ∨ c = 109 ∨ c = 76 ∨ c = 108 ∨ c = 84 ∨ c = 116 ∨ c = 72 ∨ c = 104 ∨ c = 86 ∨ c = 118 ∨ c = 67 ∨ c = 99 ∨ c = 83 ∨ c = 115 ∨ c = 81 ∨ c = 113 ∨ c = 65 ∨ c = 97 ∨ c = 90 ∨ c = 122) with h | h
  · rcases h with rfl | rfl | rfl | rfl | rfl | rfl | rfl | rfl | rfl | rfl | rfl | rfl | rfl | rfl | rfl | rfl | rfl | rfl | rfl | rfl
    all_goals
      conv => whnf
      rfl
  · have hn : ofN c = none := by
      cases hx : ofN c with
      | none => rfl
      | some x =>
        exfalso
        obtain ⟨hm, he⟩ := ofN_mem hx
        have key : ∀ y ∈ signL, y.1 = 77 ∨ y.1 = 76 ∨ y.1 = 72 ∨ y.1 = 86 ∨ y.1 = 67 ∨ y.1 = 83 ∨ y.1 = 81 ∨ y.1 = 84 ∨ y.1 = 65 ∨ y.1 = 90 := by decide
        have hk := key x hm
        unfold capN at he
        split at he <;> omega
    rw [cntR_none hn]
    clear hn
    conv => whnf
    repeat' ((first | refine zq1 (by omega) ?_ | refine zq2 (by omega) ?_ | refine NumH.rem (by omega) ?_ | refine zq4 (by omega) ?_ | refine zq5 (by omega) ?_ | refine zq6 ?_ | refine Req.mk (by omega) ?_ | refine Req.mk (by dsimp only; omega) ?_ | refine Req.mk (show pendP _ _ by repeat' constructor) ?_ | (with_reducible first | refine brT (by assumption) ?_ | refine brF (by assumption) ?_ | refine brDT (by omega) ?_ | refine brDF (by omega) ?_ | refine brET (by omega) ?_ | refine brEF (by omega) ?_ | refine brNET (by omega) ?_ | refine brNEF (by omega) ?_ | refine brNot ?_)); conv => whnf)
    rfl
def isArc (c : Int) : Bool := c == 65 || c == 97
theorem c_rarc (c : Int) : ACalls seat 28 [.int .u8 c] [] (fun x _ => x = .ret (.bool (isArc c))) := by
  refine ACalls.body seat_ok Tryd.func28 rfl rfl ?_
  unfold isArc
  by_cases h : c = 65
  · rw [show (c == 65) = true by simpa using h, Bool.true_or]
    conv => whnf
    repeat' ((first | refine zq1 (by omega) ?_ | refine zq2 (by omega) ?_ | refine NumH.rem (by omega) ?_ | refine zq4 (by omega) ?_ | refine zq5 (by omega) ?_ | refine zq6 ?_ | refine Req.mk (by omega) ?_ | refine Req.mk (by dsimp only; omega) ?_ | refine Req.mk (show pendP _ _ by repeat' constructor) ?_ | (with_reducible first | refine brT (by assumption) ?_ | refine brF (by assumption) ?_ | refine brDT (by omega) ?_ | refine brDF (by omega) ?_ | refine brET (by omega) ?_ | refine brEF (by omega) ?_ | refine brNET (by omega) ?_ | refine brNEF (by omega) ?_ | refine brNot ?_)); conv => whnf)
    rfl
  · rw [show (c == 65) = false by simpa using h, Bool.false_or]
    conv => whnf
    repeat' ((first | refine zq1 (by omega) ?_ | refine zq2 (by omega) ?_ | refine NumH.rem (by omega) ?_ | refine zq4 (by omega) ?_ | refine zq5 (by omega) ?_ | refine zq6 ?_ | refine Req.mk (by omega) ?_ | refine Req.mk (by dsimp only; omega) ?_ | refine Req.mk (show pendP _ _ by repeat' constructor) ?_ | (with_reducible first | refine brT (by assumption) ?_ | refine brF (by assumption) ?_ | refine brDT (by omega) ?_ | refine brDF (by omega) ?_ | refine brET (by omega) ?_ | refine brEF (by omega) ?_ | refine brNET (by omega) ?_ | refine brNEF (by omega) ?_ | refine brNot ?_)); conv => whnf)
    rfl
theorem c_starts (s : List UInt8) (p : Nat) (sg : Bool) (hl : s.length ≤ 900000) : ACalls seat 27 [.str s, .int .i64 p, .bool sg] [] (fun x _ => x = .ret (.bool (begR s p sg))) := by
  refine ACalls.body seat_ok Tryd.func27 rfl rfl ?_
  by_cases g : p < s.length
  · obtain ⟨b, hb⟩ : ∃ b, s[p]? = some b := ⟨_, List.getElem?_eq_getElem g⟩
    have eb : (s[(p : Int).toNat]?) = some b := hb
    have g2 : ¬ ((p : Int) ≥ s.length) := by omega
    rw [begR_some hb]
    unfold begB
    by_cases h1 : 48 ≤ (b.toNat : Int) ∧ (b.toNat : Int) ≤ 57
    · have h2 := h1.1
      have h3 := h1.2
      rw [decide_eq_true h2, decide_eq_true h3]
      conv => whnf
      repeat' (first | exact rfl | (refine ldI _ eb ?_; conv => whnf) | ((first | refine zq1 (by omega) ?_ | refine zq2 (by omega) ?_ | refine NumH.rem (by omega) ?_ | refine zq4 (by omega) ?_ | refine zq5 (by omega) ?_ | refine zq6 ?_ | refine Req.mk (by omega) ?_ | refine Req.mk (by dsimp only; omega) ?_ | refine Req.mk (show pendP _ _ by repeat' constructor) ?_ | (with_reducible first | refine brT (by assumption) ?_ | refine brF (by assumption) ?_ | refine brDT (by omega) ?_ | refine brDF (by omega) ?_ | refine brET (by omega) ?_ | refine brEF (by omega) ?_ | refine brNET (by omega) ?_ | refine brNEF (by omega) ?_ | refine brNot ?_)); conv => whnf))
    · rw [show (decide (48 ≤ (b.toNat : Int)) && decide ((b.toNat : Int) ≤ 57)) = false by
        by_cases h2 : 48 ≤ (b.toNat : Int)
        · rw [decide_eq_true h2, decide_eq_false (fun h => h1 ⟨h2, h⟩)]; rfl
        · rw [decide_eq_false h2]; rfl, Bool.false_or]
      have hr : (b.toNat : Int) < 48 ∨ (48 ≤ (b.toNat : Int) ∧ ¬ ((b.toNat : Int) ≤ 57)) := by omega
      by_cases h4 : (b.toNat : Int) = 46
      · rw [show ((b.toNat : Int) == 46) = true by simpa using h4, Bool.true_or]
        conv => whnf
        repeat' (first | exact rfl | (refine ldI _ eb ?_; conv => whnf) | ((first | refine zq1 (by omega) ?_ | refine zq2 (by omega) ?_ | refine NumH.rem (by omega) ?_ | refine zq4 (by omega) ?_ | refine zq5 (by omega) ?_ | refine zq6 ?_ | refine Req.mk (by omega) ?_ | refine Req.mk (by dsimp only; omega) ?_ | refine Req.mk (show pendP _ _ by repeat' constructor) ?_ | (with_reducible first | refine brT (by assumption) ?_ | refine brF (by assumption) ?_ | refine brDT (by omega) ?_ | refine brDF (by omega) ?_ | refine brET (by omega) ?_ | refine brEF (by omega) ?_ | refine brNET (by omega) ?_ | refine brNEF (by omega) ?_ | refine brNot ?_)); conv => whnf))
      · rw [show ((b.toNat : Int) == 46) = false by simpa using h4, Bool.false_or]
        cases sg with
        | false =>
          rcases hr with hr | hr
          · conv => whnf
            repeat' (first | exact rfl | (refine ldI _ eb ?_; conv => whnf) | ((first | refine zq1 (by omega) ?_ | refine zq2 (by omega) ?_ | refine NumH.rem (by omega) ?_ | refine zq4 (by omega) ?_ | refine zq5 (by omega) ?_ | refine zq6 ?_ | refine Req.mk (by omega) ?_ | refine Req.mk (by dsimp only; omega) ?_ | refine Req.mk (show pendP _ _ by repeat' constructor) ?_ | (with_reducible first | refine brT (by assumption) ?_ | refine brF (by assumption) ?_ | refine brDT (by omega) ?_ | refine brDF (by omega) ?_ | refine brET (by omega) ?_ | refine brEF (by omega) ?_ | refine brNET (by omega) ?_ | refine brNEF (by omega) ?_ | refine brNot ?_)); conv => whnf))
          · conv => whnf
            repeat' (first | exact rfl | (refine ldI _ eb ?_; conv => whnf) | ((first | refine zq1 (by omega) ?_ | refine zq2 (by omega) ?_ | refine NumH.rem (by omega) ?_ | refine zq4 (by omega) ?_ | refine zq5 (by omega) ?_ | refine zq6 ?_ | refine Req.mk (by omega) ?_ | refine Req.mk (by dsimp only; omega) ?_ | refine Req.mk (show pendP _ _ by repeat' constructor) ?_ | (with_reducible first | refine brT (by assumption) ?_ | refine brF (by assumption) ?_ | refine brDT (by omega) ?_ | refine brDF (by omega) ?_ | refine brET (by omega) ?_ | refine brEF (by omega) ?_ | refine brNET (by omega) ?_ | refine brNEF (by omega) ?_ | refine brNot ?_)); conv => whnf))
        | true =>
          rw [Bool.true_and]
          by_cases h5 : (b.toNat : Int) = 43
          · rw [show ((b.toNat : Int) == 43) = true by simpa using h5, Bool.true_or]
            conv => whnf
            repeat' (first | exact rfl | (refine ldI _ eb ?_; conv => whnf) | ((first | refine zq1 (by omega) ?_ | refine zq2 (by omega) ?_ | refine NumH.rem (by omega) ?_ | refine zq4 (by omega) ?_ | refine zq5 (by omega) ?_ | refine zq6 ?_ | refine Req.mk (by omega) ?_ | refine Req.mk (by dsimp only; omega) ?_ | refine Req.mk (show pendP _ _ by repeat' constructor) ?_ | (with_reducible first | refine brT (by assumption) ?_ | refine brF (by assumption) ?_ | refine brDT (by omega) ?_ | refine brDF (by omega) ?_ | refine brET (by omega) ?_ | refine brEF (by omega) ?_ | refine brNET (by omega) ?_ | refine brNEF (by omega) ?_ | refine brNot ?_)); conv => whnf))
          · rw [show ((b.toNat : Int) == 43) = false by simpa using h5, Bool.false_or]
            rcases hr with hr | hr
            · conv => whnf
              repeat' (first | exact rfl | (refine ldI _ eb ?_; conv => whnf) | ((first | refine zq1 (by omega) ?_ | refine zq2 (by omega) ?_ | refine NumH.rem (by omega) ?_ | refine zq4 (by omega) ?_ | refine zq5 (by omega) ?_ | refine zq6 ?_ | refine Req.mk (by omega) ?_ | refine Req.mk (by dsimp only; omega) ?_ | refine Req.mk (show pendP _ _ by repeat' constructor) ?_ | (with_reducible first | refine brT (by assumption) ?_ | refine brF (by assumption) ?_ | refine brDT (by omega) ?_ | refine brDF (by omega) ?_ | refine brET (by omega) ?_ | refine brEF (by omega) ?_ | refine brNET (by omega) ?_ | refine brNEF (by omega) ?_ | refine brNot ?_)); conv => whnf))
            · conv => whnf
              repeat' (first | exact rfl | (refine ldI _ eb ?_; conv => whnf) | ((first | refine zq1 (by omega) ?_ | refine zq2 (by omega) ?_ | refine NumH.rem (by omega) ?_ | refine zq4 (by omega) ?_ | refine zq5 (by omega) ?_ | refine zq6 ?_ | refine Req.mk (by omega) ?_ | refine Req.mk (by dsimp only; omega) ?_ | refine Req.mk (show pendP _ _ by repeat' constructor) ?_ | (with_reducible first | refine brT (by assumption) ?_ | refine brF (by assumption) ?_ | refine brDT (by omega) ?_ | refine brDF (by omega) ?_ | refine brET (by omega) ?_ | refine brEF (by omega) ?_ | refine brNET (by omega) ?_ | refine brNEF (by omega) ?_ | refine brNot ?_)); conv => whnf))
  · have g2 : (p : Int) ≥ s.length := by omega
    rw [begR_none (by omega)]
    conv => whnf
    repeat' ((first | refine zq1 (by omega) ?_ | refine zq2 (by omega) ?_ | refine NumH.rem (by omega) ?_ | refine zq4 (by omega) ?_ | refine zq5 (by omega) ?_ | refine zq6 ?_ | refine Req.mk (by omega) ?_ | refine Req.mk (by dsimp only; omega) ?_ | refine Req.mk (show pendP _ _ by repeat' constructor) ?_ | (with_reducible first | refine brT (by assumption) ?_ | refine brF (by assumption) ?_ | refine brDT (by omega) ?_ | refine brDF (by omega) ?_ | refine brET (by omega) ?_ | refine brEF (by omega) ?_ | refine brNET (by omega) ?_ | refine brNEF (by omega) ?_ | refine brNot ?_)); conv => whnf)
    rfl
def Kind6 (c : Int) (k : Nat) (kd : UInt8) : Prop := (isArc c = false ∧ kd = 110) ∨ (isArc c = true ∧ (((k = 0 ∨ k = 1) ∧ kd = 117) ∨ (k = 2 ∧ kd = 110) ∨ (k = 3 ∧ kd = 103) ∨ (k = 4 ∧ kd = 102) ∨ ((k = 5 ∨ k = 6) ∧ kd = 110)))
noncomputable def oneR (s : List UInt8) (k : Nat) (kd : UInt8) (p : Nat) : Int × Int × Nat :=
  if kd = 103 ∧ (if 0 < k then p + gapN (s.drop p) else p) = p then (0, 3, p) else argR s kd (if 0 < k then p + gapN (s.drop p) else p)
set_option maxRecDepth 20000 in
theorem c_one (s : List UInt8) (c : Int) (k p : Nat) (kd : UInt8) (hp : p ≤ s.length) (hl : s.length ≤ 400) (hk : Kind6 c k kd) : ACalls seat 26 [.str s, .int .u8 c, .int .i64 k, .int .i64 p] [] (fun x _ => x = .ret (gotV (oneR s k kd p).1 (oneR s k kd p).2.1 (oneR s k kd p).2.2)) := by
  have ca := c_rarc c
  have cg := c_rgap s p (by omega) hp
  have hin := gap_in s p hp
  unfold oneR
  obtain ⟨p1, hp1⟩ : ∃ p1, p1 = if 0 < k then p + gapN (s.drop p) else p := ⟨_, rfl⟩
  rw [← hp1]
  have hp1b : p1 ≤ s.length := by rw [hp1]; split <;> omega
  have n1 := (numR_spec s p1 true hp1b hl).2.2.2.2.2
  have n0 := (numR_spec s p1 false hp1b hl).2.2.2.2.2
  have cf := c_rflag s p1 (by omega)
  refine ACalls.body seat_ok Tryd.func26 rfl rfl ?_
  have a110 : argR s 110 p1 = numR s p1 true := if_neg (by decide)
  have a117 : argR s 117 p1 = numR s p1 false := if_neg (by decide)
  have a103 : argR s 103 p1 = flR s p1 := if_pos (by decide)
  have a102 : argR s 102 p1 = flR s p1 := if_pos (by decide)
  unfold gotV at n1 n0 cf ⊢
  have kr : ∀ (kd' : UInt8), kd = kd' → kd' ≠ 103 → (if kd = 103 ∧ p1 = p then ((0, 3, p) : Int × Int × Nat) else argR s kd p1) = argR s kd' p1 := fun kd' h h2 => by rw [h, if_neg (fun h3 => h2 h3.1)]
  rcases hk with ⟨hA, hkd⟩ | ⟨hA, hkd⟩
  · rw [kr 110 hkd (by decide), a110]
    rw [hA] at ca
    by_cases h0 : 0 < k
    · rw [if_pos h0] at hp1
      rw [← hp1] at cg
      have h0' : (k : Int) > 0 := by omega
      clear hp1
      conv => whnf
      repeat' (first | exact rfl | (refine CallH.lift seat_g ca (by simp [Closed, ClosedL]) (by simp [Closed]) ?_; conv => whnf) | (refine CallH.lift seat_g cg (by simp [Closed, ClosedL]) (by simp [Closed]) ?_; conv => whnf) | (refine CallH.lift seat_g n1 (by simp [Closed, ClosedL]) (by simp [Closed, ClosedL]) ?_; conv => whnf) | ((first | refine zq1 (by omega) ?_ | refine zq2 (by omega) ?_ | refine NumH.rem (by omega) ?_ | refine zq4 (by omega) ?_ | refine zq5 (by omega) ?_ | refine zq6 ?_ | refine Req.mk (by omega) ?_ | refine Req.mk (by dsimp only; omega) ?_ | refine Req.mk (show pendP _ _ by repeat' constructor) ?_ | (with_reducible first | refine brT (by assumption) ?_ | refine brF (by assumption) ?_ | refine brDT (by omega) ?_ | refine brDF (by omega) ?_ | refine brET (by omega) ?_ | refine brEF (by omega) ?_ | refine brNET (by omega) ?_ | refine brNEF (by omega) ?_ | refine brNot ?_)); conv => whnf))
    · rw [if_neg h0] at hp1
      subst hp1
      have h0' : ¬ ((k : Int) > 0) := by omega
      conv => whnf
      repeat' (first | exact rfl | (refine CallH.lift seat_g ca (by simp [Closed, ClosedL]) (by simp [Closed]) ?_; conv => whnf) | (refine CallH.lift seat_g n1 (by simp [Closed, ClosedL]) (by simp [Closed, ClosedL]) ?_; conv => whnf) | ((first | refine zq1 (by omega) ?_ | refine zq2 (by omega) ?_ | refine NumH.rem (by omega) ?_ | refine zq4 (by omega) ?_ | refine zq5 (by omega) ?_ | refine zq6 ?_ | refine Req.mk (by omega) ?_ | refine Req.mk (by dsimp only; omega) ?_ | refine Req.mk (show pendP _ _ by repeat' constructor) ?_ | (with_reducible first | refine brT (by assumption) ?_ | refine brF (by assumption) ?_ | refine brDT (by omega) ?_ | refine brDF (by omega) ?_ | refine brET (by omega) ?_ | refine brEF (by omega) ?_ | refine brNET (by omega) ?_ | refine brNEF (by omega) ?_ | refine brNot ?_)); conv => whnf))
  · rw [hA] at ca
    rcases hkd with ⟨hk0, hkd⟩ | ⟨rfl, hkd⟩ | ⟨rfl, hkd⟩ | ⟨rfl, hkd⟩ | ⟨hk0, hkd⟩
    · rw [kr 117 hkd (by decide), a117]
      rcases hk0 with rfl | rfl
      · rw [if_neg (by decide)] at hp1
        subst hp1
        conv => whnf
        repeat' (first | exact rfl | (refine CallH.lift seat_g ca (by simp [Closed, ClosedL]) (by simp [Closed]) ?_; conv => whnf) | (refine CallH.lift seat_g n0 (by simp [Closed, ClosedL]) (by simp [Closed, ClosedL]) ?_; conv => whnf) | ((first | refine zq1 (by omega) ?_ | refine zq2 (by omega) ?_ | refine NumH.rem (by omega) ?_ | refine zq4 (by omega) ?_ | refine zq5 (by omega) ?_ | refine zq6 ?_ | refine Req.mk (by omega) ?_ | refine Req.mk (by dsimp only; omega) ?_ | refine Req.mk (show pendP _ _ by repeat' constructor) ?_ | (with_reducible first | refine brT (by assumption) ?_ | refine brF (by assumption) ?_ | refine brDT (by omega) ?_ | refine brDF (by omega) ?_ | refine brET (by omega) ?_ | refine brEF (by omega) ?_ | refine brNET (by omega) ?_ | refine brNEF (by omega) ?_ | refine brNot ?_)); conv => whnf))
      · rw [if_pos (by decide)] at hp1
        rw [← hp1] at cg
        clear hp1
        conv => whnf
        repeat' (first | exact rfl | (refine CallH.lift seat_g ca (by simp [Closed, ClosedL]) (by simp [Closed]) ?_; conv => whnf) | (refine CallH.lift seat_g cg (by simp [Closed, ClosedL]) (by simp [Closed]) ?_; conv => whnf) | (refine CallH.lift seat_g n0 (by simp [Closed, ClosedL]) (by simp [Closed, ClosedL]) ?_; conv => whnf) | ((first | refine zq1 (by omega) ?_ | refine zq2 (by omega) ?_ | refine NumH.rem (by omega) ?_ | refine zq4 (by omega) ?_ | refine zq5 (by omega) ?_ | refine zq6 ?_ | refine Req.mk (by omega) ?_ | refine Req.mk (by dsimp only; omega) ?_ | refine Req.mk (show pendP _ _ by repeat' constructor) ?_ | (with_reducible first | refine brT (by assumption) ?_ | refine brF (by assumption) ?_ | refine brDT (by omega) ?_ | refine brDF (by omega) ?_ | refine brET (by omega) ?_ | refine brEF (by omega) ?_ | refine brNET (by omega) ?_ | refine brNEF (by omega) ?_ | refine brNot ?_)); conv => whnf))
    · rw [kr 110 hkd (by decide), a110]
      rw [if_pos (by decide)] at hp1
      rw [← hp1] at cg
      clear hp1
      conv => whnf
      repeat' (first | exact rfl | (refine CallH.lift seat_g ca (by simp [Closed, ClosedL]) (by simp [Closed]) ?_; conv => whnf) | (refine CallH.lift seat_g cg (by simp [Closed, ClosedL]) (by simp [Closed]) ?_; conv => whnf) | (refine CallH.lift seat_g n1 (by simp [Closed, ClosedL]) (by simp [Closed, ClosedL]) ?_; conv => whnf) | ((first | refine zq1 (by omega) ?_ | refine zq2 (by omega) ?_ | refine NumH.rem (by omega) ?_ | refine zq4 (by omega) ?_ | refine zq5 (by omega) ?_ | refine zq6 ?_ | refine Req.mk (by omega) ?_ | refine Req.mk (by dsimp only; omega) ?_ | refine Req.mk (show pendP _ _ by repeat' constructor) ?_ | (with_reducible first | refine brT (by assumption) ?_ | refine brF (by assumption) ?_ | refine brDT (by omega) ?_ | refine brDF (by omega) ?_ | refine brET (by omega) ?_ | refine brEF (by omega) ?_ | refine brNET (by omega) ?_ | refine brNEF (by omega) ?_ | refine brNot ?_)); conv => whnf))
    · rw [if_pos (by decide)] at hp1
      rw [← hp1] at cg
      subst hkd
      by_cases he : p1 = p
      · rw [if_pos ⟨rfl, he⟩]
        clear hp1
        subst he
        conv => whnf
        repeat' (first | exact rfl | (refine CallH.lift seat_g ca (by simp [Closed, ClosedL]) (by simp [Closed]) ?_; conv => whnf) | (refine CallH.lift seat_g cg (by simp [Closed, ClosedL]) (by simp [Closed]) ?_; conv => whnf) | ((first | refine zq1 (by omega) ?_ | refine zq2 (by omega) ?_ | refine NumH.rem (by omega) ?_ | refine zq4 (by omega) ?_ | refine zq5 (by omega) ?_ | refine zq6 ?_ | refine Req.mk (by omega) ?_ | refine Req.mk (by dsimp only; omega) ?_ | refine Req.mk (show pendP _ _ by repeat' constructor) ?_ | (with_reducible first | refine brT (by assumption) ?_ | refine brF (by assumption) ?_ | refine brDT (by omega) ?_ | refine brDF (by omega) ?_ | refine brET (by omega) ?_ | refine brEF (by omega) ?_ | refine brNET (by omega) ?_ | refine brNEF (by omega) ?_ | refine brNot ?_)); conv => whnf))
      · rw [if_neg (fun h => he h.2), a103]
        clear hp1
        conv => whnf
        repeat' (first | exact rfl | (refine CallH.lift seat_g ca (by simp [Closed, ClosedL]) (by simp [Closed]) ?_; conv => whnf) | (refine CallH.lift seat_g cg (by simp [Closed, ClosedL]) (by simp [Closed]) ?_; conv => whnf) | (refine CallH.lift seat_g cf (by simp [Closed, ClosedL]) (by simp [Closed, ClosedL]) ?_; conv => whnf) | ((first | refine zq1 (by omega) ?_ | refine zq2 (by omega) ?_ | refine NumH.rem (by omega) ?_ | refine zq4 (by omega) ?_ | refine zq5 (by omega) ?_ | refine zq6 ?_ | refine Req.mk (by omega) ?_ | refine Req.mk (by dsimp only; omega) ?_ | refine Req.mk (show pendP _ _ by repeat' constructor) ?_ | (with_reducible first | refine brT (by assumption) ?_ | refine brF (by assumption) ?_ | refine brDT (by omega) ?_ | refine brDF (by omega) ?_ | refine brET (by omega) ?_ | refine brEF (by omega) ?_ | refine brNET (by omega) ?_ | refine brNEF (by omega) ?_ | refine brNot ?_)); conv => whnf))
    · rw [kr 102 hkd (by decide), a102]
      rw [if_pos (by decide)] at hp1
      rw [← hp1] at cg
      clear hp1
      conv => whnf
      repeat' (first | exact rfl | (refine CallH.lift seat_g ca (by simp [Closed, ClosedL]) (by simp [Closed]) ?_; conv => whnf) | (refine CallH.lift seat_g cg (by simp [Closed, ClosedL]) (by simp [Closed]) ?_; conv => whnf) | (refine CallH.lift seat_g cf (by simp [Closed, ClosedL]) (by simp [Closed, ClosedL]) ?_; conv => whnf) | ((first | refine zq1 (by omega) ?_ | refine zq2 (by omega) ?_ | refine NumH.rem (by omega) ?_ | refine zq4 (by omega) ?_ | refine zq5 (by omega) ?_ | refine zq6 ?_ | refine Req.mk (by omega) ?_ | refine Req.mk (by dsimp only; omega) ?_ | refine Req.mk (show pendP _ _ by repeat' constructor) ?_ | (with_reducible first | refine brT (by assumption) ?_ | refine brF (by assumption) ?_ | refine brDT (by omega) ?_ | refine brDF (by omega) ?_ | refine brET (by omega) ?_ | refine brEF (by omega) ?_ | refine brNET (by omega) ?_ | refine brNEF (by omega) ?_ | refine brNot ?_)); conv => whnf))
    · rw [kr 110 hkd (by decide), a110]
      rcases hk0 with rfl | rfl
      · rw [if_pos (by decide)] at hp1
        rw [← hp1] at cg
        clear hp1
        conv => whnf
        repeat' (first | exact rfl | (refine CallH.lift seat_g ca (by simp [Closed, ClosedL]) (by simp [Closed]) ?_; conv => whnf) | (refine CallH.lift seat_g cg (by simp [Closed, ClosedL]) (by simp [Closed]) ?_; conv => whnf) | (refine CallH.lift seat_g n1 (by simp [Closed, ClosedL]) (by simp [Closed, ClosedL]) ?_; conv => whnf) | ((first | refine zq1 (by omega) ?_ | refine zq2 (by omega) ?_ | refine NumH.rem (by omega) ?_ | refine zq4 (by omega) ?_ | refine zq5 (by omega) ?_ | refine zq6 ?_ | refine Req.mk (by omega) ?_ | refine Req.mk (by dsimp only; omega) ?_ | refine Req.mk (show pendP _ _ by repeat' constructor) ?_ | (with_reducible first | refine brT (by assumption) ?_ | refine brF (by assumption) ?_ | refine brDT (by omega) ?_ | refine brDF (by omega) ?_ | refine brET (by omega) ?_ | refine brEF (by omega) ?_ | refine brNET (by omega) ?_ | refine brNEF (by omega) ?_ | refine brNot ?_)); conv => whnf))
      · rw [if_pos (by decide)] at hp1
        rw [← hp1] at cg
        clear hp1
        conv => whnf
        repeat' (first | exact rfl | (refine CallH.lift seat_g ca (by simp [Closed, ClosedL]) (by simp [Closed]) ?_; conv => whnf) | (refine CallH.lift seat_g cg (by simp [Closed, ClosedL]) (by simp [Closed]) ?_; conv => whnf) | (refine CallH.lift seat_g n1 (by simp [Closed, ClosedL]) (by simp [Closed, ClosedL]) ?_; conv => whnf) | ((first | refine zq1 (by omega) ?_ | refine zq2 (by omega) ?_ | refine NumH.rem (by omega) ?_ | refine zq4 (by omega) ?_ | refine zq5 (by omega) ?_ | refine zq6 ?_ | refine Req.mk (by omega) ?_ | refine Req.mk (by dsimp only; omega) ?_ | refine Req.mk (show pendP _ _ by repeat' constructor) ?_ | (with_reducible first | refine brT (by assumption) ?_ | refine brF (by assumption) ?_ | refine brDT (by omega) ?_ | refine brDF (by omega) ?_ | refine brET (by omega) ?_ | refine brEF (by omega) ?_ | refine brNET (by omega) ?_ | refine brNEF (by omega) ?_ | refine brNot ?_)); conv => whnf))
end Go.Proofs.YtjpaapkdbohgeaaDoor
namespace Go.Proofs.YtjpaapkdbohgeaaDoor
open Go.Abs
theorem arc_cap (c : Int) : isArc c = decide (capN c = 65) := by
  unfold isArc capN
  by_cases h1 : c = 65
  · subst h1; rfl
  · by_cases h2 : c = 97
    · subst h2; rfl
    · rw [show (c == 65) = false by simpa using h1, show (c == 97) = false by simpa using h2]
      refine (decide_eq_false ?_).symm
      split <;> omega
theorem letter_kind {c : Int} {x : Int × List UInt8} (h : ofN c = some x) : (∀ (k : Nat) (kd : UInt8) (d : Int), x.2[k]? = some kd → isArc d = isArc c → Kind6 d k kd) ∧ (x.2 ≠ [] → (x.2.head? == some 110) = !isArc c) := by
  obtain ⟨hm, he⟩ := ofN_mem h
  have hA := arc_cap c
  rw [← he] at hA
  by_cases h65 : x.1 = 65
  · have hx : x = (65, [117, 117, 110, 103, 102, 110, 110]) := by
      have key : ∀ y ∈ signL, y.1 = 65 → y = (65, [117, 117, 110, 103, 102, 110, 110]) := by decide
      exact key x hm h65
    rw [decide_eq_true h65] at hA
    subst hx
    refine ⟨fun k kd d hk hd => .inr ⟨hd.trans hA, ?_⟩, fun _ => by rw [hA]; rfl⟩
    match k, hk with
    | 0, hk => cases hk; exact .inl ⟨.inl rfl, rfl⟩
    | 1, hk => cases hk; exact .inl ⟨.inr rfl, rfl⟩
    | 2, hk => cases hk; exact .inr (.inl ⟨rfl, rfl⟩)
    | 3, hk => cases hk; exact .inr (.inr (.inl ⟨rfl, rfl⟩))
    | 4, hk => cases hk; exact .inr (.inr (.inr (.inl ⟨rfl, rfl⟩)))
    | 5, hk => cases hk; exact .inr (.inr (.inr (.inr ⟨.inl rfl, rfl⟩)))
    | 6, hk => cases hk; exact .inr (.inr (.inr (.inr ⟨.inr rfl, rfl⟩)))
    | k + 7, hk => cases hk
  · have key : ∀ y ∈ signL, y.1 ≠ 65 → (∀ kd ∈ y.2, kd = 110) ∧ (y.2 = [] ∨ y.2.head? = some 110) := by decide
    obtain ⟨k1, k2⟩ := key x hm h65
    rw [decide_eq_false h65] at hA
    refine ⟨fun k kd d hk hd => .inl ⟨hd.trans hA, k1 kd (List.mem_of_getElem? hk)⟩, fun hne => ?_⟩
    rcases k2 with h | h
    · exact absurd h hne
    · rw [h, hA]; rfl
theorem grp_one (s : List UInt8) (k : UInt8) (ks : List UInt8) (i p : Nat) (acc : List Int) : ((oneR s i k p).2.1 ≠ 0 → grpR s (k :: ks) i p acc = ([], (oneR s i k p).2.1, (oneR s i k p).2.2)) ∧ ((oneR s i k p).2.1 = 0 → grpR s (k :: ks) i p acc = grpR s ks (i + 1) (oneR s i k p).2.2 (acc ++ [(oneR s i k p).1])) := by
  rw [grpR_cons s k ks i p acc _ rfl]
  unfold oneR
  by_cases h : k = 103 ∧ (if 0 < i then p + gapN (s.drop p) else p) = p
  · rw [if_pos h, if_pos h]
    exact ⟨fun _ => rfl, fun h2 => by simp only at h2; omega⟩
  · rw [if_neg h, if_neg h]
    exact ⟨fun h2 => if_pos h2, fun h2 => if_neg (by omega)⟩
theorem oneR_bd (s : List UInt8) (i : Nat) (k : UInt8) (p : Nat) (hp : p ≤ s.length) (hl : s.length ≤ 400) : p ≤ (oneR s i k p).2.2 ∧ (oneR s i k p).2.2 ≤ s.length := by
  have hg := gap_in s p hp
  unfold oneR
  obtain ⟨p1, hp1⟩ : ∃ p1, p1 = if 0 < i then p + gapN (s.drop p) else p := ⟨_, rfl⟩
  rw [← hp1]
  have hb : p ≤ p1 ∧ p1 ≤ s.length := by rw [hp1]; split <;> omega
  have := argR_bd s k p1 hb.2 hl
  by_cases h : k = 103 ∧ p1 = p
  · rw [if_pos h]; exact ⟨Nat.le_refl _, hp⟩
  · rw [if_neg h]; omega
theorem gap_comma {s : List UInt8} {k : Nat} (h : isC (s.drop k) = true) : gapN (s.drop k) = 1 + blk (s.drop (k + 1)) := by
  have hb : blk (s.drop k) = 0 := by
    have hk := isC_lt h
    obtain ⟨b, hb⟩ : ∃ b, s[k]? = some b := ⟨_, List.getElem?_eq_getElem hk⟩
    rw [isC_some hb] at h
    refine blk_stop ?_
    rw [isB_some hb]
    exact Bool.eq_false_iff.2 (fun h2 => by have := (blankN_iff _).1 h2; have h3 : (b.toNat : Int) = 44 := by simpa using h
                                            omega)
  unfold gapN
  rw [hb, List.drop_zero, if_pos h, List.drop_drop]
end Go.Proofs.YtjpaapkdbohgeaaDoor
namespace Go.Proofs.YtjpaapkdbohgeaaDoor
open Go.Abs
set_option maxRecDepth 20000 in
set_option maxHeartbeats 4000000 in
theorem c_rparse6 (s : List UInt8) (hl : s.length ≤ 400) (G : List (UInt8 × List Int)) (e : Int) (q : Nat) (hG : pathR s = (G, e, q)) :
    ACalls seat 12 [.str s] [] (fun x _ => ∃ v, x = .ret v ∧ Weak v (.agg [cmdV G, .int .i64 (if e = 0 then -1 else (q : Nat)), .int .i64 e])) := by
  unfold pathR at hG
  refine ACalls.bodyS seat_ok Tryd.func12 rfl rfl ?_
  have cb0 : ACalls seat 25 [.str s, .int .i64 0] [] (fun x _ => x = .ret (.int .i64 (blk s : Nat))) := by
    have := c_rblanks s 0 (by omega) (by omega)
    rw [Nat.zero_add, List.drop_zero] at this; exact this
  have hin0 := blk_in s 0 (by omega)
  rw [Nat.zero_add, List.drop_zero] at hin0
  have g0 : ¬ ((s.length : Int) > 65536) := by omega
  refine Sat.splitAt seat_ok (fun t h => t = (.str s::uu::.ptr 0 0::.nils::.int .i64 (blk s : Nat)::uu::uu::uu::uu::uu::uu::uu::uu::uu::uu::uu::uu::uu::uu::uu::uu::uu::uu::uu::uu::uu::uu::uu::uu::uu::uu::uu::uu::uu::uu::uu::uu::uu::uu::uu::uu::uu::uu::uu::uu::uu::uu::uu::uu::uu::uu::uu::uu::uu::uu::uu::uu::uu::uu::uu::uu::uu::uu::uu::uu::uu::uu::uu::uu::uu::uu::uu::uu::uu::uu::uu::uu::uu::uu::uu::uu::uu::uu::uu::uu::uu::uu::uu::uu::uu::uu::uu::uu::uu::uu::uu::uu::uu::uu::uu::uu::uu::uu::uu::uu::uu::uu::uu::uu::uu::uu::uu::uu::uu::uu::uu::uu::uu::uu::uu::[]) ∧ h = [.var [.nils, .int .i64 0, .int .i64 0] 28]) 4 ?_ ?_
  · conv => whnf
    repeat' (first | exact ⟨_, keepT_weak (maskOf 120 [0, 2, 3, 4]) _, rfl, rfl⟩ | (refine CallH.lift seat_g cb0 (by simp [Closed, ClosedL]) (by simp [Closed]) ?_; conv => whnf) | ((first | refine zq1 (by omega) ?_ | refine zq2 (by omega) ?_ | refine NumH.rem (by omega) ?_ | refine zq4 (by omega) ?_ | refine zq5 (by omega) ?_ | refine zq6 ?_ | refine Req.mk (by omega) ?_ | refine Req.mk (by dsimp only; omega) ?_ | refine Req.mk (show pendP _ _ by repeat' constructor) ?_ | (with_reducible first | refine brT (by assumption) ?_ | refine brF (by assumption) ?_ | refine brDT (by omega) ?_ | refine brDF (by omega) ?_ | refine brET (by omega) ?_ | refine brEF (by omega) ?_ | refine brNET (by omega) ?_ | refine brNEF (by omega) ?_ | refine brNot ?_)); conv => whnf))
  rintro _ _ ⟨rfl, rfl⟩
  refine Sat.nilTok 3 38 2 rfl ?_
  refine codeR_sound seat_ok _ _ _ _ ?_
  conv => whnf
  refine Sat.cut (fun x t h => (x = .ret ∧ e ≠ 0 ∧ t = (uu::uu::.ptr 0 0::uu::uu::uu::uu::uu::uu::uu::uu::uu::uu::uu::uu::uu::uu::uu::uu::uu::uu::uu::uu::uu::uu::uu::uu::uu::uu::uu::uu::uu::uu::uu::uu::uu::uu::uu::uu::uu::uu::uu::uu::uu::uu::uu::uu::uu::uu::uu::uu::uu::uu::uu::uu::uu::uu::uu::uu::uu::uu::uu::uu::uu::uu::uu::uu::uu::uu::uu::uu::uu::uu::uu::uu::uu::uu::uu::uu::uu::uu::uu::uu::uu::uu::uu::uu::uu::uu::uu::uu::uu::uu::uu::uu::uu::uu::uu::uu::uu::uu::uu::uu::uu::uu::uu::uu::uu::uu::uu::uu::uu::uu::uu::uu::uu::uu::uu::uu::uu::[]) ∧ ∃ r, h = .var [.vec (cs cmdC G) G.length (some 1), .int .i64 (q : Nat), .int .i64 e] 28 :: r) ∨ (x = .exit 0 ∧ e = 0 ∧ t = (uu::uu::.ptr 0 0::.vec (cs cmdC G) G.length (some 1)::uu::uu::uu::uu::uu::uu::uu::uu::uu::uu::uu::uu::uu::uu::uu::uu::uu::uu::uu::uu::uu::uu::uu::uu::uu::uu::uu::uu::uu::uu::uu::uu::uu::uu::uu::uu::uu::uu::uu::uu::uu::uu::uu::uu::uu::uu::uu::uu::uu::uu::uu::uu::uu::uu::uu::uu::uu::uu::uu::uu::uu::uu::uu::uu::uu::uu::uu::uu::uu::uu::uu::uu::uu::uu::uu::uu::uu::uu::uu::uu::uu::uu::uu::uu::uu::uu::uu::uu::uu::uu::uu::uu::uu::uu::uu::uu::uu::uu::uu::uu::uu::uu::uu::uu::uu::uu::uu::uu::uu::uu::uu::uu::uu::uu::uu::uu::[]) ∧ ∃ r, h = .var [.nils, .int .i64 0, .int .i64 0] 28 :: .tok G.length 38 2 :: r)) ?_ ?_
  · refine Sat.invP seat_ok seat_g (maskOf 120 [0, 2, 3, 4]) 2 (fun μ t h => ∃ (fuel : Nat) (first : Bool) (p : Nat) (L : List (UInt8 × List Int)), p ≤ s.length ∧ s.length < p + fuel ∧ L.length ≤ p ∧ (first = true ↔ L.length = 0) ∧ Fin6 G e q L (walkR s fuel first p) ∧ μ = s.length - p ∧
        t = (.str s::uu::.ptr 0 0::.vec (cs cmdC L) L.length (some 1)::.int .i64 (p : Nat)::uu::uu::uu::uu::uu::uu::uu::uu::uu::uu::uu::uu::uu::uu::uu::uu::uu::uu::uu::uu::uu::uu::uu::uu::uu::uu::uu::uu::uu::uu::uu::uu::uu::uu::uu::uu::uu::uu::uu::uu::uu::uu::uu::uu::uu::uu::uu::uu::uu::uu::uu::uu::uu::uu::uu::uu::uu::uu::uu::uu::uu::uu::uu::uu::uu::uu::uu::uu::uu::uu::uu::uu::uu::uu::uu::uu::uu::uu::uu::uu::uu::uu::uu::uu::uu::uu::uu::uu::uu::uu::uu::uu::uu::uu::uu::uu::uu::uu::uu::uu::uu::uu::uu::uu::uu::uu::uu::uu::uu::uu::uu::uu::uu::uu::uu::[]) ∧ h = .var [.nils, .int .i64 0, .int .i64 0] 28 :: .tok L.length 38 2 :: [])
      ?_ ⟨_, _, WeakL.of_eq rfl, s.length + 1, true, blk s, [], hin0, by omega, by simp, by simp, ⟨by have := congrArg (·.1) hG; simpa using this, congrArg (·.2.1) hG, fun _ => congrArg (·.2.2) hG⟩, rfl, rfl, rfl⟩ ?_
    · rintro _ _ _ ⟨fuel, first, p, L, -, -, -, -, -, -, rfl, rfl⟩
      exact ⟨rfl, by simp [IdsL, Ids, cmd_ids], by simp [IdsH, IdsC, IdsL, Ids]⟩
    rintro _ _ _ ⟨fuel, first, p, L, hp, hfu, hLp, hfi, hF, rfl, rfl, rfl⟩
    obtain ⟨n, rfl⟩ : ∃ n, fuel = n + 1 := ⟨fuel - 1, by omega⟩
    by_cases g : p < s.length
    · obtain ⟨c, hc⟩ : ∃ c, s[p]? = some c := ⟨_, List.getElem?_eq_getElem g⟩
      have eb : (s[(p : Int).toNat]?) = some c := hc
      have gp : (p : Int) < s.length := by omega
      have cc := c_rcount c.toNat
      have c2 : ACalls seat 25 [.str s, .int .i64 ((p : Int) + 1)] [] (fun x _ => x = .ret (.int .i64 ((p + 1 + blk (s.drop (p + 1)) : Nat)))) := by
        have := c_rblanks s (p + 1) (by omega) (by omega)
        rw [show ((p + 1 : Nat) : Int) = (p : Int) + 1 by omega] at this; exact this
      have hin := blk_in s (p + 1) (by omega)
      cases hx : ofN c.toNat with
      | none =>
        obtain ⟨rfl, rfl, rfl⟩ := hF.bad hc (.inl hx)
        rw [cntR_none hx] at cc
        clear hF hG
        conv => whnf
        repeat' (first | exact ⟨_, keepT_weak (maskOf 120 [2]) _, .inl ⟨rfl, by decide, rfl, _, rfl⟩⟩ | (refine ldI _ eb ?_; conv => whnf) | (refine CallH.lift seat_g cc (by simp [Closed, ClosedL]) (by simp [Closed]) ?_; conv => whnf) | (refine Req.mk (by decide) ?_; conv => whnf) | ((first | refine zq1 (by omega) ?_ | refine zq2 (by omega) ?_ | refine NumH.rem (by omega) ?_ | refine zq4 (by omega) ?_ | refine zq5 (by omega) ?_ | refine zq6 ?_ | refine Req.mk (by omega) ?_ | refine Req.mk (by dsimp only; omega) ?_ | refine Req.mk (show pendP _ _ by repeat' constructor) ?_ | (with_reducible first | refine brT (by assumption) ?_ | refine brF (by assumption) ?_ | refine brDT (by omega) ?_ | refine brDF (by omega) ?_ | refine brET (by omega) ?_ | refine brEF (by omega) ?_ | refine brNET (by omega) ?_ | refine brNEF (by omega) ?_ | refine brNot ?_)); conv => whnf))
      | some x =>
        rw [cntR_some hx] at cc
        obtain ⟨hk, hal, hh, hx8⟩ := sign_ok hx
        obtain ⟨hkind, hsgn⟩ := letter_kind hx
        have hcap := (ofN_mem hx).2
        obtain ⟨a1, args⟩ := x
        simp only at hk hal hh hkind hsgn hcap cc
        have hn0 : ¬ ((args.length : Int) < 0) := by omega
        by_cases hf : first = true ∧ a1 ≠ 77
        · obtain ⟨rfl, rfl, rfl⟩ := hF.bad hc (.inr ⟨_, hx, hf⟩)
          have hL0 : (G.length : Int) = 0 := by have := hfi.1 hf.1; omega
          have hnm : (c.toNat : Int) ≠ 77 ∧ (c.toNat : Int) ≠ 109 := by
            have h2 := hf.2
            rw [hcap] at h2
            unfold capN at h2
            constructor
            · intro h; rw [h] at h2; exact h2 (by decide)
            · intro h; rw [h] at h2; exact h2 (by decide)
          obtain ⟨hn1, hn2⟩ := hnm
          clear hF hG hkind hsgn
          conv => whnf
          repeat' (first | exact ⟨_, keepT_weak (maskOf 120 [2]) _, .inl ⟨rfl, by decide, rfl, _, rfl⟩⟩ | (refine ldI _ eb ?_; conv => whnf) | (refine CallH.lift seat_g cc (by simp [Closed, ClosedL]) (by simp [Closed]) ?_; conv => whnf) | (refine Req.mk (by decide) ?_; conv => whnf) | ((first | refine zq1 (by omega) ?_ | refine zq2 (by omega) ?_ | refine NumH.rem (by omega) ?_ | refine zq4 (by omega) ?_ | refine zq5 (by omega) ?_ | refine zq6 ?_ | refine Req.mk (by omega) ?_ | refine Req.mk (by dsimp only; omega) ?_ | refine Req.mk (show pendP _ _ by repeat' constructor) ?_ | (with_reducible first | refine brT (by assumption) ?_ | refine brF (by assumption) ?_ | refine brDT (by omega) ?_ | refine brDF (by omega) ?_ | refine brET (by omega) ?_ | refine brEF (by omega) ?_ | refine brNET (by omega) ?_ | refine brNEF (by omega) ?_ | refine brNot ?_)); conv => whnf))
        · have hcs : (L.length : Int) ≠ 0 ∨ ((L.length : Int) = 0 ∧ (c.toNat : Int) = 77) ∨ ((L.length : Int) = 0 ∧ (c.toNat : Int) ≠ 77 ∧ (c.toNat : Int) = 109) := by
            by_cases h0 : L.length = 0
            · have h77 : a1 = 77 := Classical.byContradiction fun h => hf ⟨hfi.2 h0, h⟩
              rw [hcap] at h77
              unfold capN at h77
              split at h77 <;> omega
            · exact .inl (by omega)
          have hcl := cmd_length L
          have hll : ∀ v, (L ++ [(c, v)]).length = L.length + 1 := fun v => by simp
          obtain ⟨p1, hp1⟩ : ∃ p1, p1 = p + 1 + blk (s.drop (p + 1)) := ⟨_, rfl⟩
          rw [← hp1] at c2 hin
          have hpp : p < p1 := by omega
          by_cases ha : args = []
          · have hF2 := hF.alone hc hx hf ha
            rw [← hp1] at hF2
            subst ha
            have hwk : Weak (.vec (cs cmdC L ++ [.int .u8 c.toNat, .nils]) (L.length + 1) (some 1)) (.vec (cs cmdC (L ++ [(c, [])])) (L ++ [(c, [])]).length (some 1)) := by
              rw [cmd_snoc, hll]
              exact Weak.vec (WeakL.app (WeakL.refl _) (WeakL.cons (Weak.refl _) (WeakL.cons Weak.nils (WeakL.refl _))))
            have hfi2 : (false = true ↔ (L ++ [(c, ([] : List Int))]).length = 0) := by rw [hll]; simp
            clear hF hG hkind hsgn
            rcases hcs with h1 | ⟨h1, h2⟩ | ⟨h1, h2, h3⟩
            all_goals
              conv => whnf
              repeat' (first | exact ⟨_, _, show s.length - p1 < s.length - p by omega, WeakL.set (l := (.str s::uu::.ptr 0 0::uu::.int .i64 (p1 : Nat)::uu::uu::uu::uu::uu::uu::uu::uu::uu::uu::uu::uu::uu::uu::uu::uu::uu::uu::uu::uu::uu::uu::uu::uu::uu::uu::uu::uu::uu::uu::uu::uu::uu::uu::uu::uu::uu::uu::uu::uu::uu::uu::uu::uu::uu::uu::uu::uu::uu::uu::uu::uu::uu::uu::uu::uu::uu::uu::uu::uu::uu::uu::uu::uu::uu::uu::uu::uu::uu::uu::uu::uu::uu::uu::uu::uu::uu::uu::uu::uu::uu::uu::uu::uu::uu::uu::uu::uu::uu::uu::uu::uu::uu::uu::uu::uu::uu::uu::uu::uu::uu::uu::uu::uu::uu::uu::uu::uu::uu::uu::uu::uu::uu::uu::uu::[])) 3 hwk, n, false, p1, L ++ [(c, [])], hin, by omega, by rw [hll]; omega, hfi2, hF2, rfl, rfl, by rw [hll]; rfl⟩ | (refine ldI _ eb ?_; conv => whnf) | (refine CallH.lift seat_g cc (by simp [Closed, ClosedL]) (by simp [Closed]) ?_; conv => whnf) | (refine CallH.lift seat_g c2 (by simp [Closed, ClosedL]) (by simp [Closed]) ?_; conv => whnf) | (refine Req.mk ⟨rfl, rfl, rfl, hcl, rfl, by simp [okCell, lv, ofCell], by dsimp only; omega, by omega, by decide⟩ ?_; conv => whnf) | (refine Req.mk (by decide) ?_; conv => whnf) | ((first | refine zq1 (by omega) ?_ | refine zq2 (by omega) ?_ | refine NumH.rem (by omega) ?_ | refine zq4 (by omega) ?_ | refine zq5 (by omega) ?_ | refine zq6 ?_ | refine Req.mk (by omega) ?_ | refine Req.mk (by dsimp only; omega) ?_ | refine Req.mk (show pendP _ _ by repeat' constructor) ?_ | (with_reducible first | refine brT (by assumption) ?_ | refine brF (by assumption) ?_ | refine brDT (by omega) ?_ | refine brDF (by omega) ?_ | refine brET (by omega) ?_ | refine brEF (by omega) ?_ | refine brNET (by omega) ?_ | refine brNEF (by omega) ?_ | refine brNot ?_)); conv => whnf))
          · have hF2 := hF.runs hc hx hf ha
            rw [← hp1] at hF2
            have hsg := hsgn ha
            obtain ⟨ar, har0⟩ : ∃ ar, isArc c.toNat = ar := ⟨_, rfl⟩
            rw [har0] at hkind hsg
            clear hF hG hsgn hll hcl
            have hna : ¬ ((args.length : Int) = 0) := by
              have := List.length_pos_iff.2 ha; omega
            rcases hcs with h1 | ⟨h1, h2⟩ | ⟨h1, h2, h3⟩
            all_goals
              conv => whnf
              repeat' (first | (refine ldI _ eb ?_; conv => whnf) | (refine CallH.lift seat_g cc (by simp [Closed, ClosedL]) (by simp [Closed]) ?_; conv => whnf) | (refine CallH.lift seat_g c2 (by simp [Closed, ClosedL]) (by simp [Closed]) ?_; conv => whnf) | (refine Req.mk (by decide) ?_; conv => whnf) | ((first | refine zq1 (by omega) ?_ | refine zq2 (by omega) ?_ | refine NumH.rem (by omega) ?_ | refine zq4 (by omega) ?_ | refine zq5 (by omega) ?_ | refine zq6 ?_ | refine Req.mk (by omega) ?_ | refine Req.mk (by dsimp only; omega) ?_ | refine Req.mk (show pendP _ _ by repeat' constructor) ?_ | (with_reducible first | refine brT (by assumption) ?_ | refine brF (by assumption) ?_ | refine brDT (by omega) ?_ | refine brDF (by omega) ?_ | refine brET (by omega) ?_ | refine brEF (by omega) ?_ | refine brNET (by omega) ?_ | refine brNEF (by omega) ?_ | refine brNot ?_)); conv => whnf))
            all_goals
              refine Sat.cut (fun x t h => (x = .ret ∧ e ≠ 0 ∧ t = (uu::uu::.ptr 0 0::uu::uu::uu::uu::uu::uu::uu::uu::uu::uu::uu::uu::uu::uu::uu::uu::uu::uu::uu::uu::uu::uu::uu::uu::uu::uu::uu::uu::uu::uu::uu::uu::uu::uu::uu::uu::uu::uu::uu::uu::uu::uu::uu::uu::uu::uu::uu::uu::uu::uu::uu::uu::uu::uu::uu::uu::uu::uu::uu::uu::uu::uu::uu::uu::uu::uu::uu::uu::uu::uu::uu::uu::uu::uu::uu::uu::uu::uu::uu::uu::uu::uu::uu::uu::uu::uu::uu::uu::uu::uu::uu::uu::uu::uu::uu::uu::uu::uu::uu::uu::uu::uu::uu::uu::uu::uu::uu::uu::uu::uu::uu::uu::uu::uu::uu::uu::uu::[]) ∧ ∃ r, h = .var [.vec (cs cmdC G) G.length (some 1), .int .i64 (q : Nat), .int .i64 e] 28 :: r) ∨ (x = .exit 2 ∧ ∃ (p3 : Nat) (L3 : List (UInt8 × List Int)), p < p3 ∧ p3 ≤ s.length ∧ (L3.length ≤ p3 ∧ 0 < L3.length) ∧ Fin6 G e q L3 (walkR s n false p3) ∧ t = (.str s::uu::.ptr 0 0::.vec (cs cmdC L3) L3.length (some 1)::.int .i64 (p3 : Nat)::uu::uu::uu::uu::uu::uu::uu::uu::uu::uu::uu::uu::uu::uu::uu::uu::uu::uu::uu::uu::uu::uu::uu::uu::uu::uu::uu::uu::uu::uu::uu::uu::uu::uu::uu::uu::uu::uu::uu::uu::uu::uu::uu::uu::uu::uu::uu::uu::uu::uu::uu::uu::uu::uu::uu::uu::uu::uu::uu::uu::uu::uu::uu::uu::uu::uu::uu::uu::uu::uu::uu::uu::uu::uu::uu::uu::uu::uu::uu::uu::uu::uu::uu::uu::uu::uu::uu::uu::uu::uu::uu::uu::uu::uu::uu::uu::uu::uu::uu::uu::uu::uu::uu::uu::uu::uu::uu::uu::uu::uu::uu::uu::uu::uu::uu::[]) ∧ h = .var [.nils, .int .i64 0, .int .i64 0] 28 :: .tok L3.length 38 2 :: [])) ?_ ?_
              · refine Sat.invP seat_ok seat_g (maskOf 120 [0, 2, 3, 4, 5, 6, 7]) 2 (fun μ t h => ∃ (m : Nat) (d : UInt8) (p2 : Nat) (L2 : List (UInt8 × List Int)) (ag : Bool), p < p2 ∧ p2 ≤ s.length ∧ s.length < p2 + m + (if ag = true then 0 else 1) ∧ (L2.length ≤ p2 ∧ (ag = false → 0 < L2.length)) ∧ ((if ag = true then FinG G e q L2 s n (runR s args m d p2) else Fin6 G e q L2 (walkR s n false p2)) ∧ isArc d.toNat = ar) ∧ μ = 2 * (s.length - p2) + (if ag = true then 1 else 0) ∧ t = (.str s::uu::.ptr 0 0::.vec (cs cmdC L2) L2.length (some 1)::.int .i64 (p2 : Nat)::.int .u8 d.toNat::.int .i64 args.length::.bool ag::uu::uu::uu::uu::uu::uu::uu::uu::uu::uu::uu::uu::uu::uu::uu::uu::uu::uu::uu::uu::uu::uu::uu::uu::uu::uu::uu::uu::uu::uu::uu::uu::uu::uu::uu::uu::uu::uu::uu::uu::uu::uu::uu::uu::uu::uu::uu::uu::uu::uu::uu::uu::uu::uu::uu::uu::uu::uu::uu::uu::uu::uu::uu::uu::uu::uu::uu::uu::uu::uu::uu::uu::uu::uu::uu::uu::uu::uu::uu::uu::uu::uu::uu::uu::uu::uu::uu::uu::uu::uu::uu::uu::uu::uu::uu::uu::uu::uu::uu::uu::uu::uu::uu::uu::uu::uu::uu::uu::uu::uu::uu::uu::[]) ∧ h = .var [.nils, .int .i64 0, .int .i64 0] 28 :: .tok L2.length 38 2 :: [])
                  ?_ ⟨_, _, WeakL.of_eq rfl, s.length + 1, c, p1, L, true, hpp, hin, by simp only [if_true]; omega, ⟨by omega, fun h => by cases h⟩, ⟨hF2, har0⟩, rfl, rfl, rfl⟩ ?_
                · rintro _ _ _ ⟨m, d, p2, L2, ag, -, -, -, -, -, -, rfl, rfl⟩
                  exact ⟨rfl, by simp [IdsL, Ids, cmd_ids], by simp [IdsH, IdsC, IdsL, Ids]⟩
                rintro _ _ _ ⟨m, d, p2, L2, ag, hpp2, hp2, hm2, hL2, ⟨hR, har⟩, rfl, rfl, rfl⟩
                clear cc c2 hF2 hcap
                cases ag with
                | false =>
                  have hR : Fin6 G e q L2 (walkR s n false p2) := hR
                  have hL3 := hL2.2 rfl
                  conv => whnf
                  exact ⟨_, keepT_weak (maskOf 120 [0, 2, 3, 4]) _, .inr ⟨rfl, p2, L2, hpp2, hp2, ⟨hL2.1, hL3⟩, hR, rfl, rfl⟩⟩
                | true =>
                  have hR : FinG G e q L2 s n (runR s args m d p2) := hR
                  have hL3 := hL2.1
                  simp only [if_true] at hm2
                  obtain ⟨m, rfl⟩ : ∃ i, m = i + 1 := ⟨m - 1, by omega⟩
                  have herr := hR.err
                  have hlast := hR.last
                  have hmore := hR.more
                  have hqb := grpR_bd s hl args 0 p2 [] hp2
                  have hqb := And.intro hqb.1 (hqb.2 ha)
                  rw [hsg] at hlast hmore
                  obtain ⟨R, hRR⟩ : ∃ R, grpR s args 0 p2 [] = R := ⟨_, rfl⟩
                  rw [hRR] at herr hlast hmore hqb
                  clear hR
                  conv => whnf
                  refine Sat.nilTokH 2 1 2 1 rfl rfl ?_
                  refine Sat.cutV 2 (fun x t h => (x = .ret ∧ e ≠ 0 ∧ t = (uu::uu::.ptr 0 0::uu::uu::uu::uu::uu::uu::uu::uu::uu::uu::uu::uu::uu::uu::uu::uu::uu::uu::uu::uu::uu::uu::uu::uu::uu::uu::uu::uu::uu::uu::uu::uu::uu::uu::uu::uu::uu::uu::uu::uu::uu::uu::uu::uu::uu::uu::uu::uu::uu::uu::uu::uu::uu::uu::uu::uu::uu::uu::uu::uu::uu::uu::uu::uu::uu::uu::uu::uu::uu::uu::uu::uu::uu::uu::uu::uu::uu::uu::uu::uu::uu::uu::uu::uu::uu::uu::uu::uu::uu::uu::uu::uu::uu::uu::uu::uu::uu::uu::uu::uu::uu::uu::uu::uu::uu::uu::uu::uu::uu::uu::uu::uu::uu::uu::uu::uu::uu::[]) ∧ ∃ r, h = .var [.vec (cs cmdC G) G.length (some 1), .int .i64 (q : Nat), .int .i64 e] 28 :: r) ∨ (x = .exit 4 ∧ R.2.1 = 0 ∧ t = (.str s::uu::.ptr 0 0::.vec (cs cmdC L2) L2.length (some 1)::.int .i64 (R.2.2 : Nat)::.int .u8 d.toNat::.int .i64 args.length::uu::.ptr 2 0::uu::uu::uu::uu::uu::uu::uu::uu::uu::uu::uu::uu::uu::uu::uu::uu::uu::uu::uu::uu::uu::uu::uu::uu::uu::uu::uu::uu::uu::uu::uu::uu::uu::uu::uu::uu::uu::uu::uu::uu::uu::uu::uu::uu::uu::uu::uu::uu::uu::uu::uu::uu::uu::uu::uu::uu::uu::uu::uu::uu::uu::uu::uu::uu::uu::uu::uu::uu::uu::uu::uu::uu::uu::uu::uu::uu::uu::uu::uu::uu::uu::uu::uu::uu::uu::uu::uu::uu::uu::uu::uu::uu::uu::uu::uu::uu::uu::uu::uu::uu::uu::uu::uu::uu::uu::uu::uu::uu::uu::uu::uu::[]) ∧ h = .var [.nils, .int .i64 0, .int .i64 0] 28 :: .tok L2.length 38 2 :: .var [.int .u8 d.toNat, lv R.1] 38 :: .tok R.1.length 2 1 :: [])) ?_ ?_
                  · refine Sat.invP seat_ok seat_g (maskOf 120 [0, 2, 3, 4, 5, 6, 8, 9]) 4 (fun μ t h => ∃ (kk p3 : Nat) (zk : Int) (acc : List Int), zk = kk ∧ kk ≤ args.length ∧ p3 ≤ s.length ∧ acc.length = kk ∧ grpR s (args.drop kk) kk p3 acc = R ∧ μ = args.length - kk ∧ t = (.str s::uu::.ptr 0 0::.vec (cs cmdC L2) L2.length (some 1)::.int .i64 (p3 : Nat)::.int .u8 d.toNat::.int .i64 args.length::uu::.ptr 2 0::.int .i64 zk::uu::uu::uu::uu::uu::uu::uu::uu::uu::uu::uu::uu::uu::uu::uu::uu::uu::uu::uu::uu::uu::uu::uu::uu::uu::uu::uu::uu::uu::uu::uu::uu::uu::uu::uu::uu::uu::uu::uu::uu::uu::uu::uu::uu::uu::uu::uu::uu::uu::uu::uu::uu::uu::uu::uu::uu::uu::uu::uu::uu::uu::uu::uu::uu::uu::uu::uu::uu::uu::uu::uu::uu::uu::uu::uu::uu::uu::uu::uu::uu::uu::uu::uu::uu::uu::uu::uu::uu::uu::uu::uu::uu::uu::uu::uu::uu::uu::uu::uu::uu::uu::uu::uu::uu::uu::uu::uu::uu::uu::uu::[]) ∧ h = .var [.nils, .int .i64 0, .int .i64 0] 28 :: .tok L2.length 38 2 :: .var [.int .u8 d.toNat, .vec (ci .i64 acc) acc.length (some 3)] 38 :: .tok acc.length 2 1 :: [])
                      ?_ ⟨_, _, WeakL.of_eq rfl, 0, p2, 0, [], rfl, by omega, hp2, rfl, by rw [List.drop_zero]; exact hRR, rfl, rfl, rfl⟩ ?_
                    · rintro _ _ _ ⟨kk, p3, zk, acc, -, -, -, -, -, -, rfl, rfl⟩
                      exact ⟨rfl, by simp [IdsL, Ids, cmd_ids], by simp [IdsH, IdsC, IdsL, Ids, ci_ids]⟩
                    rintro _ _ _ ⟨kk, p3, zk, acc, hzk, hkk, hp3, hal2, hGR, rfl, rfl, rfl⟩
                    by_cases gk : kk < args.length
                    · obtain ⟨kd, hkd⟩ : ∃ kd, args[kk]? = some kd := ⟨_, List.getElem?_eq_getElem gk⟩
                      have co := c_one s d.toNat kk p3 kd hp3 hl (hkind kk kd d.toNat hkd har)
                      have hob := oneR_bd s kk kd p3 hp3 hl
                      rw [drop_cons' hkd] at hGR
                      have ho := grp_one s kd (args.drop (kk + 1)) kk p3 acc
                      obtain ⟨⟨v, e', q'⟩, hO⟩ : ∃ r, oneR s kk kd p3 = r := ⟨_, rfl⟩
                      rw [hO] at co hob ho
                      simp only at co hob ho
                      have gz : zk < args.length := by omega
                      rw [← hzk] at co
                      have hcl3 : (ci .i64 acc).length = acc.length * 1 := by rw [ci_length]; omega
                      have hcp : ∀ v, ci .i64 (acc ++ [v]) = ci .i64 acc ++ [.int .i64 v] := fun v => by simp [ci]
                      have hll3 : ∀ v : Int, (acc ++ [v]).length = acc.length + 1 := fun v => by simp
                      unfold gotV at co
                      by_cases he' : e' = 0
                      · subst he'
                        rw [ho.2 rfl] at hGR
                        clear ho herr hmore hlast
                        conv => whnf
                        repeat' (first | exact ⟨_, _, show args.length - (kk + 1) < args.length - kk by omega, WeakL.of_eq rfl, kk + 1, q', zk + 1, acc ++ [v], by omega, by omega, by omega, by rw [hll3]; omega, hGR, rfl, rfl, by rw [hcp, hll3]; rfl⟩ | (refine CallH.lift seat_g co (by simp [Closed, ClosedL]) (by simp [Closed, ClosedL]) ?_; conv => whnf) | (refine Req.mk ⟨rfl, rfl, rfl, hcl3, rfl, by simp [okCell, lv, ofCell], by dsimp only; omega, by omega, by decide⟩ ?_; conv => whnf) | (refine Req.mk (by decide) ?_; conv => whnf) | ((first | refine zq1 (by omega) ?_ | refine zq2 (by omega) ?_ | refine NumH.rem (by omega) ?_ | refine zq4 (by omega) ?_ | refine zq5 (by omega) ?_ | refine zq6 ?_ | refine Req.mk (by omega) ?_ | refine Req.mk (by dsimp only; omega) ?_ | refine Req.mk (show pendP _ _ by repeat' constructor) ?_ | (with_reducible first | refine brT (by assumption) ?_ | refine brF (by assumption) ?_ | refine brDT (by omega) ?_ | refine brDF (by omega) ?_ | refine brET (by omega) ?_ | refine brEF (by omega) ?_ | refine brNET (by omega) ?_ | refine brNEF (by omega) ?_ | refine brNot ?_)); conv => whnf))
                      · rw [ho.1 he'] at hGR
                        rw [← hGR] at herr
                        obtain ⟨rfl, rfl, rfl⟩ := herr he'
                        clear ho hmore hlast hGR
                        conv => whnf
                        repeat' (first | exact ⟨_, _, _, _, keepT_weak (maskOf 120 [2]) _, rfl, WeakL.refl _, .inl ⟨rfl, he', rfl, _, rfl⟩⟩ | (refine CallH.lift seat_g co (by simp [Closed, ClosedL]) (by simp [Closed, ClosedL]) ?_; conv => whnf) | (refine Req.mk (by decide) ?_; conv => whnf) | ((first | refine zq1 (by omega) ?_ | refine zq2 (by omega) ?_ | refine NumH.rem (by omega) ?_ | refine zq4 (by omega) ?_ | refine zq5 (by omega) ?_ | refine zq6 ?_ | refine Req.mk (by omega) ?_ | refine Req.mk (by dsimp only; omega) ?_ | refine Req.mk (show pendP _ _ by repeat' constructor) ?_ | (with_reducible first | refine brT (by assumption) ?_ | refine brF (by assumption) ?_ | refine brDT (by omega) ?_ | refine brDF (by omega) ?_ | refine brET (by omega) ?_ | refine brEF (by omega) ?_ | refine brNET (by omega) ?_ | refine brNEF (by omega) ?_ | refine brNot ?_)); conv => whnf))
                    · obtain rfl : kk = args.length := by omega
                      rw [List.drop_length] at hGR
                      have hGR : (acc, 0, p3) = R := hGR
                      subst hGR
                      have gz : ¬ (zk < args.length) := by omega
                      clear herr hmore hlast
                      conv => whnf
                      repeat' (first | exact ⟨_, _, _, _, keepT_weak (maskOf 120 [0, 2, 3, 4, 5, 6, 8]) _, rfl, WeakL.cons (Weak.refl _) (WeakL.cons Weak.tok (WeakL.refl _)), .inr ⟨rfl, rfl, rfl, rfl⟩⟩ | ((first | refine zq1 (by omega) ?_ | refine zq2 (by omega) ?_ | refine NumH.rem (by omega) ?_ | refine zq4 (by omega) ?_ | refine zq5 (by omega) ?_ | refine zq6 ?_ | refine Req.mk (by omega) ?_ | refine Req.mk (by dsimp only; omega) ?_ | refine Req.mk (show pendP _ _ by repeat' constructor) ?_ | (with_reducible first | refine brT (by assumption) ?_ | refine brF (by assumption) ?_ | refine brDT (by omega) ?_ | refine brDF (by omega) ?_ | refine brET (by omega) ?_ | refine brEF (by omega) ?_ | refine brNET (by omega) ?_ | refine brNEF (by omega) ?_ | refine brNot ?_)); conv => whnf))
                  · rintro _ _ _ (⟨rfl, h1, rfl, r, rfl⟩ | ⟨rfl, h1, rfl, rfl⟩)
                    · conv => whnf
                      exact ⟨_, keepT_weak (maskOf 120 [2]) _, .inl ⟨rfl, h1, rfl, _, rfl⟩⟩
                    · obtain ⟨vals, e', q2⟩ := R
                      simp only at h1 hqb hlast hmore
                      subst h1
                      have hlast := hlast rfl
                      have hmore := hmore rfl
                      have hq2 := hqb.2 rfl
                      have hqb := hqb.1
                      have hcl2 := cmd_length L2
                      have hll2 : ∀ v, (L2 ++ [(d, v)]).length = L2.length + 1 := fun v => by simp
                      have cb1 := c_rblanks s q2 (by omega) (by omega)
                      have hbin := blk_in s q2 hqb.2
                      have ca1 := c_rarc d.toNat
                      rw [har] at ca1
                      obtain ⟨k1, hk1⟩ : ∃ k1, k1 = q2 + blk (s.drop q2) := ⟨_, rfl⟩
                      have hk1q : q2 ≤ k1 := by omega
                      rw [← hk1] at cb1 hbin
                      have cs1 := c_starts s k1 (!ar) (by omega)
                      have har2 : isArc (nextC d).toNat = ar := by
                        unfold nextC
                        split
                        · rename_i h; rw [← har, h]; rfl
                        · split
                          · rename_i h; rw [← har, h]; rfl
                          · exact har
                      by_cases hc44 : isC (s.drop k1) = true
                      · have hk1l := isC_lt hc44
                        obtain ⟨b, hb⟩ : ∃ b, s[k1]? = some b := ⟨_, List.getElem?_eq_getElem hk1l⟩
                        have eb1 : (s[(k1 : Int).toNat]?) = some b := hb
                        have h44 : (b.toNat : Int) = 44 := by rw [isC_some hb] at hc44; simpa using hc44
                        have cg1 := c_rgap s k1 (by omega) hbin
                        have hgc := gap_comma hc44
                        obtain ⟨p4, hp4⟩ : ∃ p4, p4 = k1 + gapN (s.drop k1) := ⟨_, rfl⟩
                        have hin4 := gap_in s k1 hbin
                        rw [← hp4] at cg1 hin4
                        have hM : moreR s (!ar) q2 = (true, p4) := by
                          unfold moreR
                          rw [← hk1, if_pos hc44, hp4, hgc, Nat.add_assoc]
                        rw [hM] at hmore
                        have hfin := hmore rfl
                        have gk1 : (k1 : Int) < s.length := by omega
                        have hμ : 2 * (s.length - p4) + 1 < 2 * (s.length - p2) + 1 := by omega
                        have hms : s.length < p4 + m + 0 := by omega
                        clear hlast hmore hk1 hp4 hgc hM hRR herr
                        by_cases h77 : (d.toNat : Int) = 77
                        · have hd : d = 77 := UInt8.toNat_inj.1 (by show d.toNat = 77; omega)
                          have hnd : nextC d = 76 := by rw [hd]; rfl
                          rw [hnd] at hfin har2
                          clear hd hnd
                          conv => whnf
                          repeat' (first | exact ⟨_, _, hμ, WeakL.of_eq rfl, m, 76, p4, L2 ++ [(d, vals)], true, by omega, by omega, hms, ⟨by rw [hll2]; omega, fun _ => by rw [hll2]; omega⟩, ⟨hfin, har2⟩, rfl, by rw [hll2, cmd_snoc]; rfl, by rw [hll2]; rfl⟩ | (refine Req.mk ⟨rfl, rfl, rfl, hcl2, rfl, by simp [okCell, lv, ofCell], by dsimp only; omega, by omega, by decide⟩ ?_; conv => whnf) | (refine CallH.lift seat_g cb1 (by simp [Closed, ClosedL]) (by simp [Closed]) ?_; conv => whnf) | (refine CallH.lift seat_g ca1 (by simp [Closed, ClosedL]) (by simp [Closed]) ?_; conv => whnf) | (refine CallH.lift seat_g cs1 (by simp [Closed, ClosedL]) (by simp [Closed]) ?_; conv => whnf) | (refine ldI _ eb1 ?_; conv => whnf) | (refine CallH.lift seat_g cg1 (by simp [Closed, ClosedL]) (by simp [Closed]) ?_; conv => whnf) | (refine Req.mk (by decide) ?_; conv => whnf) | ((first | refine zq1 (by omega) ?_ | refine zq2 (by omega) ?_ | refine NumH.rem (by omega) ?_ | refine zq4 (by omega) ?_ | refine zq5 (by omega) ?_ | refine zq6 ?_ | refine Req.mk (by omega) ?_ | refine Req.mk (by dsimp only; omega) ?_ | refine Req.mk (show pendP _ _ by repeat' constructor) ?_ | (with_reducible first | refine brT (by assumption) ?_ | refine brF (by assumption) ?_ | refine brDT (by omega) ?_ | refine brDF (by omega) ?_ | refine brET (by omega) ?_ | refine brEF (by omega) ?_ | refine brNET (by omega) ?_ | refine brNEF (by omega) ?_ | refine brNot ?_)); conv => whnf))
                        · by_cases h109 : (d.toNat : Int) = 109
                          · have hd : d = 109 := UInt8.toNat_inj.1 (by show d.toNat = 109; omega)
                            have hnd : nextC d = 108 := by rw [hd]; rfl
                            rw [hnd] at hfin har2
                            clear hd hnd
                            conv => whnf
                            repeat' (first | exact ⟨_, _, hμ, WeakL.of_eq rfl, m, 108, p4, L2 ++ [(d, vals)], true, by omega, by omega, hms, ⟨by rw [hll2]; omega, fun _ => by rw [hll2]; omega⟩, ⟨hfin, har2⟩, rfl, by rw [hll2, cmd_snoc]; rfl, by rw [hll2]; rfl⟩ | (refine Req.mk ⟨rfl, rfl, rfl, hcl2, rfl, by simp [okCell, lv, ofCell], by dsimp only; omega, by omega, by decide⟩ ?_; conv => whnf) | (refine CallH.lift seat_g cb1 (by simp [Closed, ClosedL]) (by simp [Closed]) ?_; conv => whnf) | (refine CallH.lift seat_g ca1 (by simp [Closed, ClosedL]) (by simp [Closed]) ?_; conv => whnf) | (refine CallH.lift seat_g cs1 (by simp [Closed, ClosedL]) (by simp [Closed]) ?_; conv => whnf) | (refine ldI _ eb1 ?_; conv => whnf) | (refine CallH.lift seat_g cg1 (by simp [Closed, ClosedL]) (by simp [Closed]) ?_; conv => whnf) | (refine Req.mk (by decide) ?_; conv => whnf) | ((first | refine zq1 (by omega) ?_ | refine zq2 (by omega) ?_ | refine NumH.rem (by omega) ?_ | refine zq4 (by omega) ?_ | refine zq5 (by omega) ?_ | refine zq6 ?_ | refine Req.mk (by omega) ?_ | refine Req.mk (by dsimp only; omega) ?_ | refine Req.mk (show pendP _ _ by repeat' constructor) ?_ | (with_reducible first | refine brT (by assumption) ?_ | refine brF (by assumption) ?_ | refine brDT (by omega) ?_ | refine brDF (by omega) ?_ | refine brET (by omega) ?_ | refine brEF (by omega) ?_ | refine brNET (by omega) ?_ | refine brNEF (by omega) ?_ | refine brNot ?_)); conv => whnf))
                          · have hnd : nextC d = d := by
                              unfold nextC
                              rw [if_neg (fun h => h77 (by rw [h]; rfl)), if_neg (fun h => h109 (by rw [h]; rfl))]
                            rw [hnd] at hfin har2
                            clear hnd
                            conv => whnf
                            repeat' (first | exact ⟨_, _, hμ, WeakL.of_eq rfl, m, d, p4, L2 ++ [(d, vals)], true, by omega, by omega, hms, ⟨by rw [hll2]; omega, fun _ => by rw [hll2]; omega⟩, ⟨hfin, har2⟩, rfl, by rw [hll2, cmd_snoc]; rfl, by rw [hll2]; rfl⟩ | (refine Req.mk ⟨rfl, rfl, rfl, hcl2, rfl, by simp [okCell, lv, ofCell], by dsimp only; omega, by omega, by decide⟩ ?_; conv => whnf) | (refine CallH.lift seat_g cb1 (by simp [Closed, ClosedL]) (by simp [Closed]) ?_; conv => whnf) | (refine CallH.lift seat_g ca1 (by simp [Closed, ClosedL]) (by simp [Closed]) ?_; conv => whnf) | (refine CallH.lift seat_g cs1 (by simp [Closed, ClosedL]) (by simp [Closed]) ?_; conv => whnf) | (refine ldI _ eb1 ?_; conv => whnf) | (refine CallH.lift seat_g cg1 (by simp [Closed, ClosedL]) (by simp [Closed]) ?_; conv => whnf) | (refine Req.mk (by decide) ?_; conv => whnf) | ((first | refine zq1 (by omega) ?_ | refine zq2 (by omega) ?_ | refine NumH.rem (by omega) ?_ | refine zq4 (by omega) ?_ | refine zq5 (by omega) ?_ | refine zq6 ?_ | refine Req.mk (by omega) ?_ | refine Req.mk (by dsimp only; omega) ?_ | refine Req.mk (show pendP _ _ by repeat' constructor) ?_ | (with_reducible first | refine brT (by assumption) ?_ | refine brF (by assumption) ?_ | refine brDT (by omega) ?_ | refine brDF (by omega) ?_ | refine brET (by omega) ?_ | refine brEF (by omega) ?_ | refine brNET (by omega) ?_ | refine brNEF (by omega) ?_ | refine brNot ?_)); conv => whnf))
                      · have hM : moreR s (!ar) q2 = (begR s k1 (!ar), k1) := by
                          unfold moreR
                          rw [← hk1, if_neg hc44]
                        rw [hM] at hmore hlast
                        simp only at hmore hlast
                        have hnc : ∀ b, s[k1]? = some b → (b.toNat : Int) ≠ 44 := fun b hb h => hc44 (by rw [isC_some hb]; simpa using h)
                        generalize hag : begR s k1 (!ar) = ag at *
                        have hfin : if ag = true then FinG G e q (L2 ++ [(d, vals)]) s n (runR s args m (nextC d) k1) else Fin6 G e q (L2 ++ [(d, vals)]) (walkR s n false k1) := by
                          cases ag with
                          | true => exact hmore rfl
                          | false => exact hlast rfl
                        clear hlast hmore hM hRR herr hc44 hag hk1
                        obtain ⟨p4, hp4⟩ : ∃ p4, p4 = k1 := ⟨_, rfl⟩
                        rw [← hp4] at hfin
                        have hμ : 2 * (s.length - p4) + (if ag = true then 1 else 0) < 2 * (s.length - p2) + 1 := by split <;> omega
                        have hms : s.length < p4 + m + (if ag = true then 0 else 1) := by split <;> omega
                        subst hp4
                        by_cases gk1 : (p4 : Int) < s.length
                        · obtain ⟨b, hb⟩ : ∃ b, s[p4]? = some b := ⟨_, List.getElem?_eq_getElem (by omega)⟩
                          have eb1 : (s[(p4 : Int).toNat]?) = some b := hb
                          have h44 := hnc b hb
                          by_cases h77 : (d.toNat : Int) = 77
                          · have hd : d = 77 := UInt8.toNat_inj.1 (by show d.toNat = 77; omega)
                            have hnd : nextC d = 76 := by rw [hd]; rfl
                            rw [hnd] at hfin har2
                            clear hd hnd
                            conv => whnf
                            repeat' (first | exact ⟨_, _, hμ, WeakL.of_eq rfl, m, 76, p4, L2 ++ [(d, vals)], ag, by omega, by omega, hms, ⟨by rw [hll2]; omega, fun _ => by rw [hll2]; omega⟩, ⟨hfin, har2⟩, rfl, by rw [hll2, cmd_snoc]; rfl, by rw [hll2]; rfl⟩ | (refine Req.mk ⟨rfl, rfl, rfl, hcl2, rfl, by simp [okCell, lv, ofCell], by dsimp only; omega, by omega, by decide⟩ ?_; conv => whnf) | (refine CallH.lift seat_g cb1 (by simp [Closed, ClosedL]) (by simp [Closed]) ?_; conv => whnf) | (refine CallH.lift seat_g ca1 (by simp [Closed, ClosedL]) (by simp [Closed]) ?_; conv => whnf) | (refine CallH.lift seat_g cs1 (by simp [Closed, ClosedL]) (by simp [Closed]) ?_; conv => whnf) | (refine ldI _ eb1 ?_; conv => whnf) | (refine Req.mk (by decide) ?_; conv => whnf) | ((first | refine zq1 (by omega) ?_ | refine zq2 (by omega) ?_ | refine NumH.rem (by omega) ?_ | refine zq4 (by omega) ?_ | refine zq5 (by omega) ?_ | refine zq6 ?_ | refine Req.mk (by omega) ?_ | refine Req.mk (by dsimp only; omega) ?_ | refine Req.mk (show pendP _ _ by repeat' constructor) ?_ | (with_reducible first | refine brT (by assumption) ?_ | refine brF (by assumption) ?_ | refine brDT (by omega) ?_ | refine brDF (by omega) ?_ | refine brET (by omega) ?_ | refine brEF (by omega) ?_ | refine brNET (by omega) ?_ | refine brNEF (by omega) ?_ | refine brNot ?_)); conv => whnf))
                          · by_cases h109 : (d.toNat : Int) = 109
                            · have hd : d = 109 := UInt8.toNat_inj.1 (by show d.toNat = 109; omega)
                              have hnd : nextC d = 108 := by rw [hd]; rfl
                              rw [hnd] at hfin har2
                              clear hd hnd
                              conv => whnf
                              repeat' (first | exact ⟨_, _, hμ, WeakL.of_eq rfl, m, 108, p4, L2 ++ [(d, vals)], ag, by omega, by omega, hms, ⟨by rw [hll2]; omega, fun _ => by rw [hll2]; omega⟩, ⟨hfin, har2⟩, rfl, by rw [hll2, cmd_snoc]; rfl, by rw [hll2]; rfl⟩ | (refine Req.mk ⟨rfl, rfl, rfl, hcl2, rfl, by simp [okCell, lv, ofCell], by dsimp only; omega, by omega, by decide⟩ ?_; conv => whnf) | (refine CallH.lift seat_g cb1 (by simp [Closed, ClosedL]) (by simp [Closed]) ?_; conv => whnf) | (refine CallH.lift seat_g ca1 (by simp [Closed, ClosedL]) (by simp [Closed]) ?_; conv => whnf) | (refine CallH.lift seat_g cs1 (by simp [Closed, ClosedL]) (by simp [Closed]) ?_; conv => whnf) | (refine ldI _ eb1 ?_; conv => whnf) | (refine Req.mk (by decide) ?_; conv => whnf) | ((first | refine zq1 (by omega) ?_ | refine zq2 (by omega) ?_ | refine NumH.rem (by omega) ?_ | refine zq4 (by omega) ?_ | refine zq5 (by omega) ?_ | refine zq6 ?_ | refine Req.mk (by omega) ?_ | refine Req.mk (by dsimp only; omega) ?_ | refine Req.mk (show pendP _ _ by repeat' constructor) ?_ | (with_reducible first | refine brT (by assumption) ?_ | refine brF (by assumption) ?_ | refine brDT (by omega) ?_ | refine brDF (by omega) ?_ | refine brET (by omega) ?_ | refine brEF (by omega) ?_ | refine brNET (by omega) ?_ | refine brNEF (by omega) ?_ | refine brNot ?_)); conv => whnf))
                            · have hnd : nextC d = d := by
                                unfold nextC
                                rw [if_neg (fun h => h77 (by rw [h]; rfl)), if_neg (fun h => h109 (by rw [h]; rfl))]
                              rw [hnd] at hfin har2
                              clear hnd
                              conv => whnf
                              repeat' (first | exact ⟨_, _, hμ, WeakL.of_eq rfl, m, d, p4, L2 ++ [(d, vals)], ag, by omega, by omega, hms, ⟨by rw [hll2]; omega, fun _ => by rw [hll2]; omega⟩, ⟨hfin, har2⟩, rfl, by rw [hll2, cmd_snoc]; rfl, by rw [hll2]; rfl⟩ | (refine Req.mk ⟨rfl, rfl, rfl, hcl2, rfl, by simp [okCell, lv, ofCell], by dsimp only; omega, by omega, by decide⟩ ?_; conv => whnf) | (refine CallH.lift seat_g cb1 (by simp [Closed, ClosedL]) (by simp [Closed]) ?_; conv => whnf) | (refine CallH.lift seat_g ca1 (by simp [Closed, ClosedL]) (by simp [Closed]) ?_; conv => whnf) | (refine CallH.lift seat_g cs1 (by simp [Closed, ClosedL]) (by simp [Closed]) ?_; conv => whnf) | (refine ldI _ eb1 ?_; conv => whnf) | (refine Req.mk (by decide) ?_; conv => whnf) | ((first | refine zq1 (by omega) ?_ | refine zq2 (by omega) ?_ | refine NumH.rem (by omega) ?_ | refine zq4 (by omega) ?_ | refine zq5 (by omega) ?_ | refine zq6 ?_ | refine Req.mk (by omega) ?_ | refine Req.mk (by dsimp only; omega) ?_ | refine Req.mk (show pendP _ _ by repeat' constructor) ?_ | (with_reducible first | refine brT (by assumption) ?_ | refine brF (by assumption) ?_ | refine brDT (by omega) ?_ | refine brDF (by omega) ?_ | refine brET (by omega) ?_ | refine brEF (by omega) ?_ | refine brNET (by omega) ?_ | refine brNEF (by omega) ?_ | refine brNot ?_)); conv => whnf))
                        · by_cases h77 : (d.toNat : Int) = 77
                          · have hd : d = 77 := UInt8.toNat_inj.1 (by show d.toNat = 77; omega)
                            have hnd : nextC d = 76 := by rw [hd]; rfl
                            rw [hnd] at hfin har2
                            clear hd hnd
                            conv => whnf
                            repeat' (first | exact ⟨_, _, hμ, WeakL.of_eq rfl, m, 76, p4, L2 ++ [(d, vals)], ag, by omega, by omega, hms, ⟨by rw [hll2]; omega, fun _ => by rw [hll2]; omega⟩, ⟨hfin, har2⟩, rfl, by rw [hll2, cmd_snoc]; rfl, by rw [hll2]; rfl⟩ | (refine Req.mk ⟨rfl, rfl, rfl, hcl2, rfl, by simp [okCell, lv, ofCell], by dsimp only; omega, by omega, by decide⟩ ?_; conv => whnf) | (refine CallH.lift seat_g cb1 (by simp [Closed, ClosedL]) (by simp [Closed]) ?_; conv => whnf) | (refine CallH.lift seat_g ca1 (by simp [Closed, ClosedL]) (by simp [Closed]) ?_; conv => whnf) | (refine CallH.lift seat_g cs1 (by simp [Closed, ClosedL]) (by simp [Closed]) ?_; conv => whnf) | (refine Req.mk (by decide) ?_; conv => whnf) | ((first | refine zq1 (by omega) ?_ | refine zq2 (by omega) ?_ | refine NumH.rem (by omega) ?_ | refine zq4 (by omega) ?_ | refine zq5 (by omega) ?_ | refine zq6 ?_ | refine Req.mk (by omega) ?_ | refine Req.mk (by dsimp only; omega) ?_ | refine Req.mk (show pendP _ _ by repeat' constructor) ?_ | (with_reducible first | refine brT (by assumption) ?_ | refine brF (by assumption) ?_ | refine brDT (by omega) ?_ | refine brDF (by omega) ?_ | refine brET (by omega) ?_ | refine brEF (by omega) ?_ | refine brNET (by omega) ?_ | refine brNEF (by omega) ?_ | refine brNot ?_)); conv => whnf))
                          · by_cases h109 : (d.toNat : Int) = 109
                            · have hd : d = 109 := UInt8.toNat_inj.1 (by show d.toNat = 109; omega)
                              have hnd : nextC d = 108 := by rw [hd]; rfl
                              rw [hnd] at hfin har2
                              clear hd hnd
                              conv => whnf
                              repeat' (first | exact ⟨_, _, hμ, WeakL.of_eq rfl, m, 108, p4, L2 ++ [(d, vals)], ag, by omega, by omega, hms, ⟨by rw [hll2]; omega, fun _ => by rw [hll2]; omega⟩, ⟨hfin, har2⟩, rfl, by rw [hll2, cmd_snoc]; rfl, by rw [hll2]; rfl⟩ | (refine Req.mk ⟨rfl, rfl, rfl, hcl2, rfl, by simp [okCell, lv, ofCell], by dsimp only; omega, by omega, by decide⟩ ?_; conv => whnf) | (refine CallH.lift seat_g cb1 (by simp [Closed, ClosedL]) (by simp [Closed]) ?_; conv => whnf) | (refine CallH.lift seat_g ca1 (by simp [Closed, ClosedL]) (by simp [Closed]) ?_; conv => whnf) | (refine CallH.lift seat_g cs1 (by simp [Closed, ClosedL]) (by simp [Closed]) ?_; conv => whnf) | (refine Req.mk (by decide) ?_; conv => whnf) | ((first | refine zq1 (by omega) ?_ | refine zq2 (by omega) ?_ | refine NumH.rem (by omega) ?_ | refine zq4 (by omega) ?_ | refine zq5 (by omega) ?_ | refine zq6 ?_ | refine Req.mk (by omega) ?_ | refine Req.mk (by dsimp only; omega) ?_ | refine Req.mk (show pendP _ _ by repeat' constructor) ?_ | (with_reducible first | refine brT (by assumption) ?_ | refine brF (by assumption) ?_ | refine brDT (by omega) ?_ | refine brDF (by omega) ?_ | refine brET (by omega) ?_ | refine brEF (by omega) ?_ | refine brNET (by omega) ?_ | refine brNEF (by omega) ?_ | refine brNot ?_)); conv => whnf))
                            · have hnd : nextC d = d := by
                                unfold nextC
                                rw [if_neg (fun h => h77 (by rw [h]; rfl)), if_neg (fun h => h109 (by rw [h]; rfl))]
                              rw [hnd] at hfin har2
                              clear hnd
                              conv => whnf
                              repeat' (first | exact ⟨_, _, hμ, WeakL.of_eq rfl, m, d, p4, L2 ++ [(d, vals)], ag, by omega, by omega, hms, ⟨by rw [hll2]; omega, fun _ => by rw [hll2]; omega⟩, ⟨hfin, har2⟩, rfl, by rw [hll2, cmd_snoc]; rfl, by rw [hll2]; rfl⟩ | (refine Req.mk ⟨rfl, rfl, rfl, hcl2, rfl, by simp [okCell, lv, ofCell], by dsimp only; omega, by omega, by decide⟩ ?_; conv => whnf) | (refine CallH.lift seat_g cb1 (by simp [Closed, ClosedL]) (by simp [Closed]) ?_; conv => whnf) | (refine CallH.lift seat_g ca1 (by simp [Closed, ClosedL]) (by simp [Closed]) ?_; conv => whnf) | (refine CallH.lift seat_g cs1 (by simp [Closed, ClosedL]) (by simp [Closed]) ?_; conv => whnf) | (refine Req.mk (by decide) ?_; conv => whnf) | ((first | refine zq1 (by omega) ?_ | refine zq2 (by omega) ?_ | refine NumH.rem (by omega) ?_ | refine zq4 (by omega) ?_ | refine zq5 (by omega) ?_ | refine zq6 ?_ | refine Req.mk (by omega) ?_ | refine Req.mk (by dsimp only; omega) ?_ | refine Req.mk (show pendP _ _ by repeat' constructor) ?_ | (with_reducible first | refine brT (by assumption) ?_ | refine brF (by assumption) ?_ | refine brDT (by omega) ?_ | refine brDF (by omega) ?_ | refine brET (by omega) ?_ | refine brEF (by omega) ?_ | refine brNET (by omega) ?_ | refine brNEF (by omega) ?_ | refine brNot ?_)); conv => whnf))
              · rintro _ _ _ (⟨rfl, h1, rfl, r2, rfl⟩ | ⟨rfl, p3, L3, h1, h2, h3, h4, rfl, rfl⟩)
                · conv => whnf
                  exact ⟨_, keepT_weak (maskOf 120 [2]) _, .inl ⟨rfl, h1, rfl, _, rfl⟩⟩
                · have hfi3 : (false = true ↔ L3.length = 0) := ⟨fun h => (by cases h), fun h => by omega⟩
                  conv => whnf
                  exact ⟨_, _, show s.length - p3 < s.length - p by omega, WeakL.of_eq rfl, n, false, p3, L3, h2, by omega, h3.1, hfi3, h4, rfl, rfl, rfl⟩
    · have hpe : p = s.length := by omega
      obtain ⟨rfl, rfl⟩ := hF.fin (List.getElem?_eq_none (by omega))
      have gp : ¬ ((p : Int) < s.length) := by omega
      clear hF hG
      conv => whnf
      repeat' (first | exact ⟨_, keepT_weak (maskOf 120 [2, 3]) _, .inr ⟨rfl, rfl, rfl, _, rfl⟩⟩ | ((first | refine zq1 (by omega) ?_ | refine zq2 (by omega) ?_ | refine NumH.rem (by omega) ?_ | refine zq4 (by omega) ?_ | refine zq5 (by omega) ?_ | refine zq6 ?_ | refine Req.mk (by omega) ?_ | refine Req.mk (by dsimp only; omega) ?_ | refine Req.mk (show pendP _ _ by repeat' constructor) ?_ | (with_reducible first | refine brT (by assumption) ?_ | refine brF (by assumption) ?_ | refine brDT (by omega) ?_ | refine brDF (by omega) ?_ | refine brET (by omega) ?_ | refine brEF (by omega) ?_ | refine brNET (by omega) ?_ | refine brNEF (by omega) ?_ | refine brNot ?_)); conv => whnf))
  · rintro _ _ _ (⟨rfl, h1, rfl, r, rfl⟩ | ⟨rfl, h1, rfl, r, rfl⟩)
    · rw [if_neg h1]
      conv => whnf
      exact ⟨_, rfl, Weak.agg (WeakL.cons Weak.tok (WeakL.refl _))⟩
    · subst h1
      rw [if_pos rfl]
      conv => whnf
      repeat' (first | exact ⟨_, rfl, Weak.agg (WeakL.cons Weak.tok (WeakL.refl _))⟩ | (refine Req.mk (by decide) ?_; conv => whnf) | ((first | refine zq1 (by omega) ?_ | refine zq2 (by omega) ?_ | refine NumH.rem (by omega) ?_ | refine zq4 (by omega) ?_ | refine zq5 (by omega) ?_ | refine zq6 ?_ | refine Req.mk (by omega) ?_ | refine Req.mk (by dsimp only; omega) ?_ | refine Req.mk (show pendP _ _ by repeat' constructor) ?_ | (with_reducible first | refine brT (by assumption) ?_ | refine brF (by assumption) ?_ | refine brDT (by omega) ?_ | refine brDF (by omega) ?_ | refine brET (by omega) ?_ | refine brEF (by omega) ?_ | refine brNET (by omega) ?_ | refine brNEF (by omega) ?_ | refine brNot ?_)); conv => whnf))
end Go.Proofs.YtjpaapkdbohgeaaDoor
namespace Go.Proofs.YtjpaapkdbohgeaaDoor
open Go.Abs
def ex1 : List UInt8 := [77, 49, 32, 50, 32, 51, 32, 52, 122]
def ex2 : List UInt8 := [77, 49, 32, 50, 44, 76, 51, 32, 52]
theorem n11 : numR ex1 1 true = (65536, 0, 2) := numR_dig (d := 49) rfl (by decide) (by rfl)
theorem n13 : numR ex1 3 true = (131072, 0, 4) := numR_dig (d := 50) rfl (by decide) (by rfl)
theorem n15 : numR ex1 5 true = (196608, 0, 6) := numR_dig (d := 51) rfl (by decide) (by rfl)
theorem n17 : numR ex1 7 true = (262144, 0, 8) := numR_dig (d := 52) rfl (by decide) (by rfl)
theorem n21 : numR ex2 1 true = (65536, 0, 2) := numR_dig (d := 49) rfl (by decide) (by rfl)
theorem n23 : numR ex2 3 true = (131072, 0, 4) := numR_dig (d := 50) rfl (by decide) (by rfl)
theorem n25 : numR ex2 5 true = (0, 3, 5) := numR_none (by rfl)
theorem argR_n (s : List UInt8) (p : Nat) : argR s 110 p = numR s p true := if_neg (by decide)
theorem grp_two (s : List UInt8) (p p1 q1 q2 : Nat) (v1 v2 : Int) (h1 : numR s p true = (v1, 0, q1)) (hg : q1 + gapN (s.drop q1) = p1) (h2 : numR s p1 true = (v2, 0, q2)) : grpR s [110, 110] 0 p [] = ([v1, v2], 0, q2) := by
  have nk : ∀ P : Prop, ¬ ((110 : UInt8) = 103 ∧ P) := fun P h => absurd h.1 (by decide)
  have n0 : ¬ ((0 : Int) ≠ 0) := by decide
  rw [grpR]
  simp only [Nat.lt_irrefl, if_false, argR_n, h1]
  rw [if_neg (nk _), if_neg n0, grpR]
  simp only [Nat.lt_add_one, if_true, argR_n, hg, h2]
  rw [if_neg (nk _), if_neg n0, grpR]
  rfl
theorem g11 : grpR ex1 [110, 110] 0 1 [] = ([65536, 131072], 0, 4) := grp_two ex1 1 3 2 4 _ _ n11 rfl n13
theorem g15 : grpR ex1 [110, 110] 0 5 [] = ([196608, 262144], 0, 8) := grp_two ex1 5 7 6 8 _ _ n15 rfl n17
theorem g21 : grpR ex2 [110, 110] 0 1 [] = ([65536, 131072], 0, 4) := grp_two ex2 1 3 2 4 _ _ n21 rfl n23
theorem g25 : grpR ex2 [110, 110] 0 5 [] = ([], 3, 5) := by
  rw [grpR]
  simp only [Nat.lt_irrefl, if_false, argR_n, n25]
  rw [if_neg (by decide), if_pos (by decide)]
theorem r1 (n : Nat) : runR ex1 [110, 110] (n + 2) 77 1 = ([(77, [65536, 131072]), (76, [196608, 262144])], 0, 8) := by
  have m1 : moreR ex1 (([110, 110] : List UInt8).head? == some 110) 4 = (true, 5) := by rfl
  have m2 : moreR ex1 (([110, 110] : List UInt8).head? == some 110) 8 = (false, 8) := by rfl
  rw [runR]
  simp only [g11, m1]
  rw [if_neg (by decide), if_pos trivial, show nextC 77 = 76 from rfl, runR]
  simp only [g15, m2]
  rw [if_neg (by decide), if_neg (by decide)]
theorem p1 : pathR ex1 = ([(77, [65536, 131072]), (76, [196608, 262144]), (122, [])], 0, 9) := by
  unfold pathR
  rw [show ex1.length + 1 = 7 + 1 + 1 + 1 from rfl, show blk ex1 = 0 from rfl, walkR]
  rw [show ex1[0]? = some 77 from rfl]
  simp only
  rw [show ofN (77 : UInt8).toNat = some (77, [110, 110]) from rfl]
  simp only
  rw [if_neg (by decide), if_neg (by decide), show 0 + 1 + blk (ex1.drop (0 + 1)) = 1 from rfl, show ex1.length + 1 = 8 + 2 from rfl, r1]
  simp only
  rw [if_neg (by decide), walkR, show ex1[8]? = some 122 from rfl]
  simp only
  rw [show ofN (122 : UInt8).toNat = some (90, []) from rfl]
  simp only
  rw [if_neg (by decide), if_pos trivial, walkR, show ex1[8 + 1 + blk (ex1.drop (8 + 1))]? = none from rfl]
  rfl
theorem r2 (n : Nat) : runR ex2 [110, 110] (n + 2) 77 1 = ([(77, [65536, 131072])], 3, 5) := by
  have m1 : moreR ex2 (([110, 110] : List UInt8).head? == some 110) 4 = (true, 5) := by rfl
  rw [runR]
  simp only [g21, m1]
  rw [if_neg (by decide), if_pos trivial, runR]
  simp only [g25]
  rw [if_pos (by decide)]
theorem p2 : pathR ex2 = ([(77, [65536, 131072])], 3, 5) := by
  unfold pathR
  rw [show ex2.length + 1 = 8 + 1 + 1 from rfl, show blk ex2 = 0 from rfl, walkR]
  rw [show ex2[0]? = some 77 from rfl]
  simp only
  rw [show ofN (77 : UInt8).toNat = some (77, [110, 110]) from rfl]
  simp only
  rw [if_neg (by decide), if_neg (by decide), show 0 + 1 + blk (ex2.drop (0 + 1)) = 1 from rfl, show ex2.length + 1 = 8 + 2 from rfl, r2]
  simp only
  rw [if_pos (by decide)]
end Go.Proofs.YtjpaapkdbohgeaaDoor
namespace Go.Proofs.YtjpaapkdbohgeaaDoor
open Go.Abs
theorem grpR_len (s : List UInt8) : ∀ (ks : List UInt8) (i p : Nat) (acc : List Int), (grpR s ks i p acc).1.length ≤ acc.length + ks.length
  | [], _, _, _ => Nat.le_refl _
  | k :: ks, i, p, acc => by
    have ih := fun i p acc => grpR_len s ks i p acc
    obtain ⟨p1, h1⟩ : ∃ p1, p1 = if 0 < i then p + gapN (s.drop p) else p := ⟨_, rfl⟩
    rw [grpR_cons s k ks i p acc p1 h1]
    split
    · exact Nat.zero_le _
    · split
      · exact Nat.zero_le _
      · refine Nat.le_trans (ih _ _ _) ?_
        simp only [List.length_append, List.length_cons, List.length_nil]; omega
theorem runR_len (s args : List UInt8) : ∀ (n : Nat) (c : UInt8) (p : Nat), (runR s args n c p).1.length ≤ n ∧ ∀ x ∈ (runR s args n c p).1, x.2.length ≤ args.length
  | 0, _, _ => ⟨Nat.le_refl _, fun x h => by cases h⟩
  | n + 1, c, p => by
    have ih := fun c p => runR_len s args n c p
    have hg := grpR_len s args 0 p []
    simp only [List.length_nil, Nat.zero_add] at hg
    rw [runR]
    dsimp only
    split
    · exact ⟨Nat.zero_le _, fun x h => by cases h⟩
    · split
      · refine ⟨by simp only [List.length_cons]; exact Nat.succ_le_succ (ih _ _).1, fun x h => ?_⟩
        rcases List.mem_cons.1 h with h | h
        · subst h; exact hg
        · exact (ih _ _).2 x h
      · refine ⟨by simp, fun x h => ?_⟩
        obtain rfl := List.mem_singleton.1 h
        exact hg
theorem walkR_len (s : List UInt8) : ∀ (n : Nat) (f : Bool) (p : Nat), (walkR s n f p).1.length ≤ n * (s.length + 1) ∧ ∀ x ∈ (walkR s n f p).1, x.2.length ≤ 10
  | 0, _, _ => ⟨by simp [walkR], fun x h => by cases h⟩
  | n + 1, f, p => by
    have ih := fun f p => walkR_len s n f p
    rw [walkR, Nat.add_mul, Nat.one_mul]
    cases hc : s[p]? with
    | none => exact ⟨Nat.zero_le _, fun x h => by cases h⟩
    | some c =>
      simp only
      cases ho : ofN c.toNat with
      | none => exact ⟨Nat.zero_le _, fun x h => by cases h⟩
      | some y =>
        simp only
        have hy := (sign_ok ho).2.1
        have hr := runR_len s y.2 (s.length + 1) c (p + 1 + blk (s.drop (p + 1)))
        split
        · exact ⟨Nat.zero_le _, fun x h => by cases h⟩
        · split
          · have h1 := ih false (p + 1 + blk (s.drop (p + 1)))
            refine ⟨by simp only [List.length_cons]; omega, fun x h => ?_⟩
            rcases List.mem_cons.1 h with h | h
            · subst h; exact Nat.zero_le _
            · exact h1.2 x h
          · split
            · exact ⟨by simp only; omega, fun x h => Nat.le_trans (hr.2 x h) hy⟩
            · have h1 := ih false (runR s y.2 (s.length + 1) c (p + 1 + blk (s.drop (p + 1)))).2.2
              refine ⟨by simp only [List.length_append]; omega, fun x h => ?_⟩
              rcases List.mem_append.1 h with h | h
              · exact Nat.le_trans (hr.2 x h) hy
              · exact h1.2 x h
theorem pathR_len (s : List UInt8) (hl : s.length ≤ 100) : (pathR s).1.length ≤ 100000 ∧ ∀ x ∈ (pathR s).1, x.2.length ≤ 100000 := by
  have h := walkR_len s (s.length + 1) true (blk s)
  refine ⟨Nat.le_trans h.1 (Nat.le_trans (Nat.mul_le_mul (Nat.succ_le_succ hl) (Nat.succ_le_succ hl)) (by decide)), fun x hx => Nat.le_trans (h.2 x hx) (by decide)⟩
theorem parse_ex {s G e q} (hl : s.length ≤ 400) (h : pathR s = (G, e, q)) : ACalls seat 11 [.str s] [] (fun x _ => x = .ret (.tup [cmdV G, .int .i64 (if e = 0 then -1 else (q : Nat)), .int .i64 e])) := by
  have := c_parse s hl; rw [h] at this; exact this
theorem rparse_ex {s G e q} (hl : s.length ≤ 400) (h : pathR s = (G, e, q)) : ACalls seat 12 [.str s] [] (fun x _ => x = .ret (.agg [cmdV G, .int .i64 (if e = 0 then -1 else (q : Nat)), .int .i64 e])) :=
  ACalls.weakR ((c_rparse6 s hl G e q h).mono (fun x _ ⟨v, h1, h2⟩ => .inl ⟨v, _, h1, h2, rfl⟩))
set_option maxRecDepth 20000 in
theorem c_wakes : ACalls seat 10 [] [] (fun x _ => x = .ret (.bool true)) := by
  have w1 := parse_ex (by decide) p1
  have w2 := parse_ex (by decide) p2
  rw [if_pos rfl] at w1
  rw [if_neg (by decide)] at w2
  unfold cmdV ex1 at w1
  unfold cmdV ex2 at w2
  refine ACalls.body seat_ok Tryd.func10 rfl rfl ?_
  conv => whnf
  refine CallH.lift seat_g w1 (by simp [Closed, ClosedL]) (by simp [Closed, ClosedL, cmd_closed]) ?_
  conv => whnf
  refine CallH.lift seat_g w2 (by simp [Closed, ClosedL]) (by simp [Closed, ClosedL, cmd_closed]) ?_
  have hld : sub (cs cmdC [(77, [65536, 131072]), (76, [196608, 262144]), (122, [])]) (Int.toNat 1 * 2) 2 = some [.int .u8 76, lv [196608, 262144]] := by rfl
  conv => whnf
  repeat' (first | exact rfl | (refine ldI _ hld ?_; conv => whnf) | (refine Req.mk (by decide) ?_; conv => whnf) | ((first | refine zq1 (by omega) ?_ | refine zq2 (by omega) ?_ | refine NumH.rem (by omega) ?_ | refine zq4 (by omega) ?_ | refine zq5 (by omega) ?_ | refine zq6 ?_ | refine Req.mk (by omega) ?_ | refine Req.mk (by dsimp only; omega) ?_ | refine Req.mk (show pendP _ _ by repeat' constructor) ?_ | (with_reducible first | refine brT (by assumption) ?_ | refine brF (by assumption) ?_ | refine brDT (by omega) ?_ | refine brDF (by omega) ?_ | refine brET (by omega) ?_ | refine brEF (by omega) ?_ | refine brNET (by omega) ?_ | refine brNEF (by omega) ?_ | refine brNot ?_)); conv => whnf))
set_option maxRecDepth 20000 in
theorem l_pathParses (s : List UInt8) : ACalls seat 3 [.str s] [] (fun x _ => x = .ret (.bool true)) := by
  refine ACalls.body seat_ok Tryd.func3 rfl rfl ?_
  by_cases g : s.length ≤ 100
  · have g1 : ¬ ((s.length : Int) > 100) := by omega
    obtain ⟨⟨G, e, q⟩, hG⟩ : ∃ R, pathR s = R := ⟨_, rfl⟩
    have hb := pathR_len s g
    rw [hG] at hb
    have c1 := parse_ex (by omega) hG
    have c2 := rparse_ex (by omega) hG
    have c3 := c_same G hb.1 hb.2
    unfold cmdV at *
    clear hb hG
    conv => whnf
    repeat' (first | exact congrArg (fun b => AEnd.ret (.bool b)) (beq_self_eq_true e) | (refine CallH.lift seat_g c_wakes trivial (by simp [Closed]) ?_; conv => whnf) | (refine CallH.lift seat_g c1 (by simp [Closed, ClosedL]) (by simp [Closed, ClosedL, cmd_closed]) ?_; conv => whnf) | (refine CallH.lift seat_g c2 (by simp [Closed, ClosedL]) (by simp [Closed, ClosedL, cmd_closed]) ?_; conv => whnf) | (refine CallH.lift seat_g c3 (by simp [Closed, ClosedL, cmd_closed]) (by simp [Closed, ClosedL]) ?_; conv => whnf) | ((first | refine zq1 (by omega) ?_ | refine zq2 (by omega) ?_ | refine NumH.rem (by omega) ?_ | refine zq4 (by omega) ?_ | refine zq5 (by omega) ?_ | refine zq6 ?_ | refine Req.mk (by omega) ?_ | refine Req.mk (by dsimp only; omega) ?_ | refine Req.mk (show pendP _ _ by repeat' constructor) ?_ | (with_reducible first | refine brT (by assumption) ?_ | refine brF (by assumption) ?_ | refine brDT (by omega) ?_ | refine brDF (by omega) ?_ | refine brET (by omega) ?_ | refine brEF (by omega) ?_ | refine brNET (by omega) ?_ | refine brNEF (by omega) ?_ | refine brNot ?_)); conv => whnf))
  · have g1 : (s.length : Int) > 100 := by omega
    conv => whnf
    refine CallH.lift seat_g c_wakes trivial (by simp [Closed]) ?_
    conv => whnf
    repeat' ((first | refine zq1 (by omega) ?_ | refine zq2 (by omega) ?_ | refine NumH.rem (by omega) ?_ | refine zq4 (by omega) ?_ | refine zq5 (by omega) ?_ | refine zq6 ?_ | refine Req.mk (by omega) ?_ | refine Req.mk (by dsimp only; omega) ?_ | refine Req.mk (show pendP _ _ by repeat' constructor) ?_ | (with_reducible first | refine brT (by assumption) ?_ | refine brF (by assumption) ?_ | refine brDT (by omega) ?_ | refine brDF (by omega) ?_ | refine brET (by omega) ?_ | refine brEF (by omega) ?_ | refine brNET (by omega) ?_ | refine brNEF (by omega) ?_ | refine brNot ?_)); conv => whnf)
    rfl
end Go.Proofs.YtjpaapkdbohgeaaDoor
namespace Go.Proofs.YtjpaapkdbohgeaaDoor
open Go.Abs
theorem dfa_cut (sg : Bool) : ∀ (l : List UInt8) (st n : Nat), (dfa sg st l).1 ≤ n → dfa sg st (l.take n) = dfa sg st l
  | [], _, _, _ => by rw [List.take_nil]
  | b :: l, st, 0, h => by
    rw [List.take_zero]
    simp only [dfa] at h ⊢
    by_cases hs : stopT sg st (kindN b.toNat) = true
    · rw [if_pos hs]
    · rw [if_neg hs] at h; exact absurd h (Nat.not_succ_le_zero _)
  | b :: l, st, n + 1, h => by
    rw [List.take_succ_cons]
    simp only [dfa] at h ⊢
    by_cases hs : stopT sg st (kindN b.toNat) = true
    · rw [if_pos hs, if_pos hs]
    · rw [if_neg hs] at h
      rw [if_neg hs, if_neg hs, dfa_cut sg l _ n (by dsimp only at h; omega)]
theorem dfa_cut2 (sg : Bool) : ∀ (l : List UInt8) (st n : Nat), (dfa sg st (l.take n)).1 < n → dfa sg st (l.take n) = dfa sg st l
  | [], _, _, _ => by rw [List.take_nil]
  | b :: l, st, 0, h => absurd h (Nat.not_lt_zero _)
  | b :: l, st, n + 1, h => by
    rw [List.take_succ_cons] at h ⊢
    simp only [dfa] at h ⊢
    by_cases hs : stopT sg st (kindN b.toNat) = true
    · rw [if_pos hs, if_pos hs]
    · rw [if_neg hs] at h
      rw [if_neg hs, if_neg hs, dfa_cut2 sg l _ n (by dsimp only at h; omega)]
theorem dfa_sg : ∀ (l : List UInt8) (st : Nat), st ≠ 0 → dfa false st l = dfa true st l
  | [], _, _ => rfl
  | b :: l, st, h => by
    have hst : stopT false st (kindN b.toNat) = stopT true st (kindN b.toNat) := by simp [stopT, h]
    simp only [dfa, hst]
    by_cases hs : stopT true st (kindN b.toNat) = true
    · rw [if_pos hs, if_pos hs]
    · have hn : nextT st (kindN b.toNat) ≠ 0 := fun h2 => hs (by simp [stopT, h2])
      rw [if_neg hs, if_neg hs, dfa_sg l _ hn]
theorem dfa_sg0 (l : List UInt8) (h : endsT (dfa false 0 l).2 = true) : dfa true 0 l = dfa false 0 l := by
  cases l with
  | nil => rfl
  | cons b l =>
    simp only [dfa] at h ⊢
    by_cases hs : stopT false 0 (kindN b.toNat) = true
    · rw [if_pos hs] at h; cases h
    · have hn : nextT 0 (kindN b.toNat) ≠ 0 := fun h2 => hs (by simp [stopT, h2])
      have ht : ¬ (stopT true 0 (kindN b.toNat) = true) := fun h2 => hs (by
        simp only [stopT, Bool.or_eq_true, Bool.and_eq_true] at h2 ⊢
        rcases h2 with (h2 | h2) | h2
        · exact .inl (.inl h2)
        · cases h2.2
        · exact .inr h2)
      rw [if_neg hs, if_neg ht, dfa_sg l _ hn]
theorem scR_cut {sg : Bool} {s : List UInt8} {p k : Nat} (hp : p ≤ k) (h : (scR sg s p).1 ≤ k) : scR sg (s.take k) p = scR sg s p := by
  rw [scan_eq] at h ⊢
  rw [scan_eq, List.drop_take]
  have h1 : (dfa sg 0 (s.drop p)).1 ≤ k - p := by simp only [addA, ans] at h; omega
  unfold ans
  rw [dfa_cut sg _ 0 _ h1]
theorem scR_cut2 {sg : Bool} {s : List UInt8} {p k : Nat} (hp : p ≤ k) (h : (scR sg (s.take k) p).1 < k) : scR sg (s.take k) p = scR sg s p := by
  rw [scan_eq] at h ⊢
  rw [scan_eq]
  rw [List.drop_take] at h ⊢
  have h1 : (dfa sg 0 ((s.drop p).take (k - p))).1 < k - p := by simp only [addA, ans] at h; omega
  unfold ans
  rw [dfa_cut2 sg _ 0 _ h1]
theorem ok_text {sg : Bool} {s : List UInt8} {p q : Nat} (h : scR sg s p = (q, true)) (hp : p ≤ s.length) : scR true ((s.drop p).take (q - p)) 0 = (((s.drop p).take (q - p)).length, true) := by
  have hb := scR_bd sg s p hp
  rw [h] at hb
  simp only at hb
  rw [scan_eq] at h
  have h1 : (dfa sg 0 (s.drop p)).1 = q - p := by
    have := congrArg Prod.fst h; simp only [addA, ans] at this; omega
  have h2 : endsT (dfa sg 0 (s.drop p)).2 = true := congrArg Prod.snd h
  have h3 := dfa_cut sg (s.drop p) 0 (q - p) (by omega)
  have hl : ((s.drop p).take (q - p)).length = q - p := by rw [List.length_take, List.length_drop]; omega
  have h4 : dfa true 0 ((s.drop p).take (q - p)) = dfa sg 0 ((s.drop p).take (q - p)) := by
    cases sg with
    | true => rfl
    | false => exact dfa_sg0 _ (by rw [h3]; exact h2)
  rw [scan_eq, addA_zero, List.drop_zero, hl]
  unfold ans
  rw [h4, h3, h1, h2]
theorem txt_cut {s : List UInt8} {p q k : Nat} (h : q ≤ k) : ((s.take k).drop p).take (q - p) = (s.drop p).take (q - p) := by
  rw [List.drop_take, List.take_take, Nat.min_eq_left (by omega)]
theorem numR_cut {sg : Bool} {s : List UInt8} {p k : Nat} (hl : s.length ≤ 400) (hp : p ≤ k) (hk : k ≤ s.length) (he : (numR s p sg).2.1 ≠ 2) (hq : (numR s p sg).2.2 ≤ k) : numR (s.take k) p sg = numR s p sg := by
  obtain ⟨⟨q, ok⟩, h⟩ : ∃ r, scR sg s p = r := ⟨_, rfl⟩
  cases ok with
  | false =>
    rw [numR_none h] at hq ⊢
    simp only at hq
    exact numR_none (by rw [scR_cut hp (by rw [h]; exact hq), h])
  | true =>
    have ht := ok_text h (Nat.le_trans hp hk)
    have hlt : ((s.drop p).take (q - p)).length ≤ 400 := by rw [List.length_take, List.length_drop]; omega
    have hv := valT_all _ hlt
    have h3 := hv.2.1 ht
    rw [numR_ok h] at he hq
    simp only at he hq
    have h0 : (valT ((s.drop p).take (q - p))).2 = 0 := by omega
    rw [if_pos h0] at hq
    rw [numR_ok h, numR_ok (by rw [scR_cut hp (by rw [h]; exact hq), h]), txt_cut hq]
theorem numR_cut2 {sg : Bool} {s : List UInt8} {p k : Nat} (hp : p ≤ k) (he : (numR (s.take k) p sg).2.1 = 0) (hq : (numR (s.take k) p sg).2.2 < k) : numR (s.take k) p sg = numR s p sg := by
  obtain ⟨⟨q, ok⟩, h⟩ : ∃ r, scR sg (s.take k) p = r := ⟨_, rfl⟩
  cases ok with
  | false => rw [numR_none h] at he; cases he
  | true =>
    rw [numR_ok h] at he hq
    simp only at he hq
    rw [if_pos he] at hq
    rw [numR_ok h, numR_ok (by rw [← scR_cut2 hp (by rw [h]; exact hq), h]), txt_cut (Nat.le_of_lt hq)]
theorem blk_cut : ∀ (l : List UInt8) (n : Nat), blk (l.take n) = min n (blk l)
  | [], n => by rw [List.take_nil]; simp [blk]
  | b :: l, 0 => by simp [blk]
  | b :: l, n + 1 => by
    rw [List.take_succ_cons]
    simp only [blk]
    split
    · rw [blk_cut l n]; omega
    · omega
theorem isC_cut {l : List UInt8} {n : Nat} (h : 0 < n) : isC (l.take n) = isC l := by
  obtain ⟨m, rfl⟩ : ∃ m, n = m + 1 := ⟨n - 1, by omega⟩
  cases l with
  | nil => rfl
  | cons b l => rfl
theorem gapN_cut (l : List UInt8) (n : Nat) : gapN (l.take n) = min n (gapN l) := by
  unfold gapN
  rw [blk_cut]
  by_cases h : blk l < n
  · rw [Nat.min_eq_right (Nat.le_of_lt h), List.drop_take, isC_cut (by omega)]
    split
    · rw [List.drop_take, blk_cut]; omega
    · omega
  · rw [Nat.min_eq_left (by omega), List.drop_eq_nil_of_le (by rw [List.length_take]; omega), if_neg (by intro h; cases h)]
    split <;> omega
theorem blk_at {s : List UInt8} {p k : Nat} (hp : p ≤ k) : p + blk ((s.take k).drop p) = min k (p + blk (s.drop p)) := by
  rw [List.drop_take, blk_cut]; omega
theorem gap_at {s : List UInt8} {p k : Nat} (hp : p ≤ k) : p + gapN ((s.take k).drop p) = min k (p + gapN (s.drop p)) := by
  rw [List.drop_take, gapN_cut]; omega
theorem flR_cut {s : List UInt8} {p k : Nat} (hp : p ≤ k) (hq : (flR s p).2.2 ≤ k) : flR (s.take k) p = flR s p := by
  by_cases g : p < k
  · unfold flR; rw [List.getElem?_take, if_pos g]
  · obtain rfl : p = k := by omega
    rw [flR_none (by rw [List.length_take]; omega)]
    cases hb : s[p]? with
    | none => unfold flR; rw [hb]
    | some b =>
      rw [flR_some hb] at hq ⊢
      split at hq
      · simp only at hq; omega
      · rename_i h; rw [if_neg h]
theorem flR_cut2 {s : List UInt8} {p k : Nat} (hp : p ≤ k) (he : (flR (s.take k) p).2.1 = 0) : flR (s.take k) p = flR s p := by
  by_cases g : p < k
  · unfold flR; rw [List.getElem?_take, if_pos g]
  · rw [flR_none (by rw [List.length_take]; omega)] at he; cases he
theorem argR_cut {s : List UInt8} {c : UInt8} {p k : Nat} (hl : s.length ≤ 400) (hp : p ≤ k) (hk : k ≤ s.length) (he : (argR s c p).2.1 ≠ 2) (hq : (argR s c p).2.2 ≤ k) : argR (s.take k) c p = argR s c p := by
  unfold argR at he hq ⊢
  split
  · rename_i h; rw [if_pos h] at hq; exact flR_cut hp hq
  · rename_i h; rw [if_neg h] at he hq; exact numR_cut hl hp hk he hq
theorem argR_cut2 {s : List UInt8} {c : UInt8} {p k : Nat} (hp : p ≤ k) (he : (argR (s.take k) c p).2.1 = 0) (hq : (argR (s.take k) c p).2.2 < k) : argR (s.take k) c p = argR s c p := by
  unfold argR at he hq ⊢
  split
  · rename_i h; rw [if_pos h] at he; exact flR_cut2 hp he
  · rename_i h; rw [if_neg h] at he hq; exact numR_cut2 hp he hq
theorem grpR_cut {s : List UInt8} {k : Nat} (hl : s.length ≤ 400) (hk : k ≤ s.length) : ∀ (ks : List UInt8) (i p : Nat) (acc : List Int), p ≤ k → (grpR s ks i p acc).2.1 ≠ 2 → (grpR s ks i p acc).2.2 ≤ k → grpR (s.take k) ks i p acc = grpR s ks i p acc
  | [], _, _, _, _, _, _ => rfl
  | c :: ks, i, p, acc, hp, he, hq => by
    obtain ⟨p1, h1⟩ : ∃ p1, p1 = if 0 < i then p + gapN (s.drop p) else p := ⟨_, rfl⟩
    have hp1 : p ≤ p1 ∧ p1 ≤ s.length := by
      rw [h1]; split
      · exact ⟨Nat.le_add_right _ _, gap_in s p (by omega)⟩
      · omega
    have h2 : min k p1 = if 0 < i then p + gapN ((s.take k).drop p) else p := by
      rw [h1]; split
      · exact (gap_at hp).symm
      · omega
    rw [grpR_cons s c ks i p acc p1 h1] at he hq ⊢
    rw [grpR_cons (s.take k) c ks i p acc _ h2]
    have hb := argR_bd s c p1 hp1.2 hl
    by_cases g : c = 103 ∧ p1 = p
    · rw [if_pos g, if_pos ⟨g.1, by omega⟩]
    · rw [if_neg g] at he hq ⊢
      by_cases ga : (argR s c p1).2.1 ≠ 0
      · rw [if_pos ga] at he hq ⊢
        simp only at he hq
        have e1 : min k p1 = p1 := by omega
        rw [e1, if_neg g, argR_cut hl (by omega) hk he hq, if_pos ga]
      · rw [if_neg ga] at he hq ⊢
        have hb2 := (grpR_bd s hl ks (i + 1) (argR s c p1).2.2 (acc ++ [(argR s c p1).1]) hb.1.2).1
        have e1 : min k p1 = p1 := by omega
        rw [e1, if_neg g, argR_cut hl (by omega) hk (by omega) (by omega), if_neg ga]
        exact grpR_cut hl hk ks (i + 1) _ _ (by omega) he hq
theorem grpR_cut2 {s : List UInt8} {k : Nat} (hl : s.length ≤ 400) (hk : k ≤ s.length) : ∀ (ks : List UInt8) (i p : Nat) (acc : List Int), p ≤ k → (grpR (s.take k) ks i p acc).2.1 = 0 → (grpR (s.take k) ks i p acc).2.2 < k → grpR (s.take k) ks i p acc = grpR s ks i p acc
  | [], _, _, _, _, _, _ => rfl
  | c :: ks, i, p, acc, hp, he, hq => by
    obtain ⟨p1, h1⟩ : ∃ p1, p1 = if 0 < i then p + gapN (s.drop p) else p := ⟨_, rfl⟩
    have hp1 : p ≤ p1 ∧ p1 ≤ s.length := by
      rw [h1]; split
      · exact ⟨Nat.le_add_right _ _, gap_in s p (by omega)⟩
      · omega
    have h2 : min k p1 = if 0 < i then p + gapN ((s.take k).drop p) else p := by
      rw [h1]; split
      · exact (gap_at hp).symm
      · omega
    have hlt : (s.take k).length = k := by rw [List.length_take]; omega
    rw [grpR_cons s c ks i p acc p1 h1]
    rw [grpR_cons (s.take k) c ks i p acc _ h2] at he hq ⊢
    have hb := argR_bd (s.take k) c (min k p1) (by omega) (by omega)
    by_cases g : c = 103 ∧ min k p1 = p
    · rw [if_pos g] at he; cases he
    · rw [if_neg g] at he hq ⊢
      by_cases ga : (argR (s.take k) c (min k p1)).2.1 ≠ 0
      · rw [if_pos ga] at he; exact absurd he ga
      · rw [if_neg ga] at he hq ⊢
        have hb2 := (grpR_bd (s.take k) (by omega) ks (i + 1) (argR (s.take k) c (min k p1)).2.2 (acc ++ [(argR (s.take k) c (min k p1)).1]) hb.1.2).1
        have e1 : min k p1 = p1 := by omega
        rw [e1] at g ga he hq hb hb2 ⊢
        have e2 := argR_cut2 (s := s) (c := c) (p := p1) (k := k) (by omega) (by omega) (by omega)
        rw [if_neg g, ← e2, if_neg ga]
        exact grpR_cut2 hl hk ks (i + 1) _ _ (by omega) he hq
end Go.Proofs.YtjpaapkdbohgeaaDoor
namespace Go.Abs
open Go.RowKit
variable {S : Seat}
theorem CbH.weakA {h : Heap} {i : Nat} {args args' : List AV} {k : AEnd → Heap → Prop} (hw : WeakL args args') (hc : CbH S i args' h k) : CbH S i args h k :=
  ⟨fun E w us fv hr ha hfv => hc.out E w us fv hr (WeakL.run hw ha) hfv⟩
end Go.Abs
namespace Go.Proofs.YtjpaapkdbohgeaaDoor
open Go.Abs
def toldG (L : List (UInt8 × List Int)) : List (List AV) := L.map fun x => [.agg (cmdC x)]
theorem toldG_snoc (L : List (UInt8 × List Int)) (x : UInt8 × List Int) : toldG L ++ [[.agg (cmdC x)]] = toldG (L ++ [x]) := by simp [toldG]
def accG (P : List (UInt8 × List Int)) (seen : List (List AV)) (args : List AV) : Prop := ∃ L x R, P = L ++ x :: R ∧ seen = toldG L ∧ args = [.agg (cmdC x)]
def finG (P : List (UInt8 × List Int)) (seen : List (List AV)) (st : Bool) : Prop := ∃ L R, P = L ++ R ∧ seen = toldG L ∧ (st = false → R = [])
theorem Fin6.acc {G e q L x w} (h : Fin6 G e q (L ++ [x]) w) : accG G (toldG L) [.agg (cmdC x)] := ⟨L, x, w.1, by rw [← h.1, List.append_assoc]; rfl, rfl, rfl⟩
theorem FinG.acc {G e q L x s n r} (h : FinG G e q (L ++ [x]) s n r) : accG G (toldG L) [.agg (cmdC x)] := by
  unfold FinG at h
  split at h
  · exact ⟨L, x, r.1, by rw [← h.1, List.append_assoc]; rfl, rfl, rfl⟩
  · exact ⟨L, x, r.1 ++ (walkR s n false r.2.2).1, by rw [← h.1]; simp, rfl, rfl⟩
theorem accG.fin {G L x} (h : accG G (toldG L) [.agg (cmdC x)]) (hi : ∀ {M}, toldG L = toldG M → L = M) (hx : ∀ {y}, cmdC x = cmdC y → x = y) : finG G (toldG L ++ [[.agg (cmdC x)]]) true := by
  obtain ⟨M, y, R, h1, h2, h3⟩ := h
  obtain rfl := hi h2
  simp only [List.cons.injEq, AV.agg.injEq, and_true] at h3
  obtain rfl := hx h3
  exact ⟨L ++ [x], R, by rw [h1]; simp, toldG_snoc _ _, fun h => by cases h⟩
theorem ci_inj : ∀ {a b : List Int}, ci .i64 a = ci .i64 b → a = b
  | [], [], _ => rfl
  | x :: a, y :: b, h => by
    simp only [ci, List.map_cons, List.cons.injEq, AV.int.injEq, true_and] at h
    obtain ⟨rfl, h2⟩ := h
    have : a = b := ci_inj h2
    rw [this]
  | [], _ :: _, h => by simp [ci] at h
  | _ :: _, [], h => by simp [ci] at h
theorem cmdC_inj {x y : UInt8 × List Int} (h : cmdC x = cmdC y) : x = y := by
  obtain ⟨a, b⟩ := x
  obtain ⟨c, d⟩ := y
  simp only [cmdC, lv, List.cons.injEq, AV.int.injEq, AV.vec.injEq, and_true, true_and] at h
  obtain rfl : a = c := UInt8.toNat_inj.1 (by omega)
  obtain rfl := ci_inj h.2.1
  rfl
theorem toldG_inj : ∀ {L M : List (UInt8 × List Int)}, toldG L = toldG M → L = M
  | [], [], _ => rfl
  | x :: L, y :: M, h => by
    simp only [toldG, List.map_cons, List.cons.injEq, AV.agg.injEq, and_true] at h
    obtain rfl := cmdC_inj h.1
    have : L = M := toldG_inj h.2
    rw [this]
  | [], _ :: _, h => by simp [toldG] at h
  | _ :: _, [], h => by simp [toldG] at h
theorem accG.fin' {G L x} (h : accG G (toldG L) [.agg (cmdC x)]) : finG G (toldG L ++ [[.agg (cmdC x)]]) true := h.fin (fun h => toldG_inj h) (fun h => cmdC_inj h)
set_option maxRecDepth 20000 in
set_option maxHeartbeats 4000000 in
theorem c_walkA (s : List UInt8) (hl : s.length ≤ 400) (G : List (UInt8 × List Int)) (e : Int) (q : Nat) (hG : pathR s = (G, e, q)) :
    ACalls seat 23 [.str s, .cb 0] [.cb (accG G) [] false] (fun x h => (∃ a b, x = .ret (.tup [.int .i64 a, .int .i64 b])) ∧ ∃ seen st, h[0]? = some (.cb (accG G) seen st) ∧ finG G seen st) := by
  unfold pathR at hG
  refine ACalls.body seat_ok Tryd.func23 rfl rfl ?_
  have cb0 := c_blanks s 0 (by omega) (by omega)
  have hin0 := blk_in s 0 (by omega)
  rw [Nat.zero_add, List.drop_zero] at cb0 hin0
  unfold rdr at cb0
  conv => whnf
  refine Sat.scope seat_ok ?_
  conv => whnf
  refine CallH.body seat_ok Tryd.func38 rfl rfl ?_
  conv => whnf
  refine CallH.mem1 seat_g 1 cb0 rfl (by simp [Closed, ClosedL]) (by simp [Closed, ClosedL]) (by simp [Closed, ClosedL]) rfl ?_
  conv => whnf
  refine Sat.cut (fun x t h => (∃ seen st r, h = .cb (accG G) seen st :: r ∧ finG G seen st) ∧ ((x = .ret ∧ ∃ a b, t = (uu::uu::uu::uu::.int .i64 a::.int .i64 b::uu::uu::uu::uu::uu::uu::uu::uu::uu::uu::uu::uu::uu::uu::uu::uu::uu::uu::uu::uu::uu::uu::uu::uu::uu::uu::uu::uu::uu::uu::uu::uu::uu::uu::uu::uu::uu::uu::uu::uu::uu::uu::uu::uu::uu::uu::uu::uu::uu::uu::uu::uu::uu::uu::uu::uu::uu::uu::uu::uu::uu::uu::uu::uu::uu::uu::uu::uu::uu::uu::uu::uu::uu::uu::uu::uu::uu::uu::uu::uu::uu::[])) ∨ (x = .exit 0 ∧ t = (uu::uu::uu::uu::uu::uu::uu::uu::uu::uu::uu::uu::uu::uu::uu::uu::uu::uu::uu::uu::uu::uu::uu::uu::uu::uu::uu::uu::uu::uu::uu::uu::uu::uu::uu::uu::uu::uu::uu::uu::uu::uu::uu::uu::uu::uu::uu::uu::uu::uu::uu::uu::uu::uu::uu::uu::uu::uu::uu::uu::uu::uu::uu::uu::uu::uu::uu::uu::uu::uu::uu::uu::uu::uu::uu::uu::uu::uu::uu::uu::uu::uu::uu::uu::uu::uu::uu::[])))) ?_ ?_
  · refine Sat.invP seat_ok seat_g (maskOf 87 [1, 6, 7]) 2 (fun μ t h => ∃ (fuel : Nat) (first : Bool) (p : Nat) (L : List (UInt8 × List Int)), p ≤ s.length ∧ s.length < p + fuel ∧ L.length ≤ p ∧ Fin6 G e q L (walkR s fuel first p) ∧ μ = s.length - p ∧
        t = (uu::.cb 0::uu::uu::uu::uu::.ptr 1 0::.bool first::uu::uu::uu::uu::uu::uu::uu::uu::uu::uu::uu::uu::uu::uu::uu::uu::uu::uu::uu::uu::uu::uu::uu::uu::uu::uu::uu::uu::uu::uu::uu::uu::uu::uu::uu::uu::uu::uu::uu::uu::uu::uu::uu::uu::uu::uu::uu::uu::uu::uu::uu::uu::uu::uu::uu::uu::uu::uu::uu::uu::uu::uu::uu::uu::uu::uu::uu::uu::uu::uu::uu::uu::uu::uu::uu::uu::uu::uu::uu::[]) ∧ h = [.cb (accG G) (toldG L) false, .var (rdr s p) 96])
      ?_ ⟨_, _, WeakL.of_eq rfl, s.length + 1, true, blk s, [], hin0, by omega, by simp, ⟨by have := congrArg (·.1) hG; simpa using this, congrArg (·.2.1) hG, fun _ => congrArg (·.2.2) hG⟩, rfl, rfl, rfl⟩ ?_
    · rintro _ _ _ ⟨fuel, first, p, L, -, -, -, -, -, rfl, rfl⟩
      exact ⟨rfl, (by simp [IdsL, Ids, IdsH, IdsC, lv_ids, ci_ids]), by simp [rdr, IdsH, IdsC, IdsL, Ids]⟩
    rintro _ _ _ ⟨fuel, first, p, L, hp, hfu, hLp, hF, rfl, rfl, rfl⟩
    have cl := c_left s p (by omega) hp
    obtain ⟨n, rfl⟩ : ∃ n, fuel = n + 1 := ⟨fuel - 1, by omega⟩
    by_cases g : p < s.length
    · obtain ⟨c, hc⟩ : ∃ c, s[p]? = some c := ⟨_, List.getElem?_eq_getElem g⟩
      have cp := c_peekS s p c hc (by omega)
      have cf := c_pof c.toNat ⟨by omega, by have := c.toNat_lt; omega⟩
      have hg0 : (s.length : Int) - p > 0 := by omega
      have ca := c_at s p
      unfold pofV at cf
      cases hx : ofN c.toNat with
      | none =>
        obtain ⟨rfl, rfl, rfl⟩ := hF.bad hc (.inl hx)
        rw [hx] at cf
        simp only at cf
        clear hF hG
        unfold rdr at *
        conv => whnf
        repeat' (first | exact ⟨_, keepT_weak (maskOf 87 [4, 5]) _, ⟨_, _, _, rfl, G, [], (List.append_nil _).symm, rfl, fun _ => rfl⟩, .inl ⟨rfl, _, _, rfl⟩⟩ | (refine CallH.mem1 seat_g 1 cl rfl (by simp [Closed, ClosedL]) (by simp [Closed, ClosedL]) (by simp [Closed, ClosedL, lv_closed]) rfl ?_; conv => whnf) | (refine CallH.mem1 seat_g 1 cp rfl (by simp [Closed, ClosedL]) (by simp [Closed, ClosedL]) (by simp [Closed, ClosedL, lv_closed]) rfl ?_; conv => whnf) | (refine CallH.lift seat_g cf (by simp [Closed, ClosedL]) (by simp [Closed, ClosedL]) ?_; conv => whnf) | (refine CallH.mem1 seat_g 1 ca rfl (by simp [Closed, ClosedL]) (by simp [Closed, ClosedL]) (by simp [Closed, ClosedL, lv_closed]) rfl ?_; conv => whnf) | ((first | refine zq1 (by omega) ?_ | refine zq2 (by omega) ?_ | refine NumH.rem (by omega) ?_ | refine zq4 (by omega) ?_ | refine zq5 (by omega) ?_ | refine zq6 ?_ | refine Req.mk (by omega) ?_ | refine Req.mk (by dsimp only; omega) ?_ | refine Req.mk (show pendP _ _ by repeat' constructor) ?_ | (with_reducible first | refine brT (by assumption) ?_ | refine brF (by assumption) ?_ | refine brDT (by omega) ?_ | refine brDF (by omega) ?_ | refine brET (by omega) ?_ | refine brEF (by omega) ?_ | refine brNET (by omega) ?_ | refine brNEF (by omega) ?_ | refine brNot ?_)); conv => whnf))
      | some x =>
        rw [hx] at cf
        simp only at cf
        by_cases hf : first = true ∧ x.1 ≠ 77
        · obtain ⟨rfl, rfl, rfl⟩ := hF.bad hc (.inr ⟨x, hx, hf⟩)
          obtain ⟨rfl, hf2⟩ := hf
          clear hF hG
          unfold rdr at *
          conv => whnf
          repeat' (first | exact ⟨_, keepT_weak (maskOf 87 [4, 5]) _, ⟨_, _, _, rfl, G, [], (List.append_nil _).symm, rfl, fun _ => rfl⟩, .inl ⟨rfl, _, _, rfl⟩⟩ | (refine CallH.mem1 seat_g 1 cl rfl (by simp [Closed, ClosedL]) (by simp [Closed, ClosedL]) (by simp [Closed, ClosedL, lv_closed]) rfl ?_; conv => whnf) | (refine CallH.mem1 seat_g 1 cp rfl (by simp [Closed, ClosedL]) (by simp [Closed, ClosedL]) (by simp [Closed, ClosedL, lv_closed]) rfl ?_; conv => whnf) | (refine CallH.lift seat_g cf (by simp [Closed, ClosedL]) (by simp [Closed, ClosedL]) ?_; conv => whnf) | (refine CallH.mem1 seat_g 1 ca rfl (by simp [Closed, ClosedL]) (by simp [Closed, ClosedL]) (by simp [Closed, ClosedL, lv_closed]) rfl ?_; conv => whnf) | ((first | refine zq1 (by omega) ?_ | refine zq2 (by omega) ?_ | refine NumH.rem (by omega) ?_ | refine zq4 (by omega) ?_ | refine zq5 (by omega) ?_ | refine zq6 ?_ | refine Req.mk (by omega) ?_ | refine Req.mk (by dsimp only; omega) ?_ | refine Req.mk (show pendP _ _ by repeat' constructor) ?_ | (with_reducible first | refine brT (by assumption) ?_ | refine brF (by assumption) ?_ | refine brDT (by omega) ?_ | refine brDF (by omega) ?_ | refine brET (by omega) ?_ | refine brEF (by omega) ?_ | refine brNET (by omega) ?_ | refine brNEF (by omega) ?_ | refine brNot ?_)); conv => whnf))
        · obtain ⟨hk, hal, hh, hx8⟩ := sign_ok hx
          have ck := c_skip s p hp (by omega)
          rw [Nat.min_eq_left (by omega)] at ck
          have c2 := c_blanks s (p + 1) (by omega) (by omega)
          have hin := blk_in s (p + 1) (by omega)
          obtain ⟨p1, hp1⟩ : ∃ p1, p1 = p + 1 + blk (s.drop (p + 1)) := ⟨_, rfl⟩
          have hpp : p < p1 := by omega
          have hcl := cmd_length L
          have hll : ∀ v, (L ++ [(c, v)]).length = L.length + 1 := fun v => by simp
          obtain ⟨a1, args⟩ := x
          simp only at hf hk hal hh hx8 cf hin
          by_cases ha : args = []
          · have hF2 := hF.alone hc hx hf ha
            rw [← hp1] at hF2 c2 hin
            subst ha
            have hacc := hF2.acc
            have hfinx := hacc.fin'
            clear hF hG
            unfold rdr at *
            cases first with
            | true =>
              have h77 : a1 = 77 := Classical.byContradiction fun h => hf ⟨rfl, h⟩
              conv => whnf
              repeat' (first | exact ⟨_, _, show s.length - p1 < s.length - p by omega, WeakL.of_eq rfl, n, false, p1, L ++ [(c, [])], hin, by omega, by rw [hll]; omega, hF2, rfl, rfl, by rw [← toldG_snoc]; rfl⟩ | exact ⟨_, keepT_weak (maskOf 87 []) _, ⟨_, _, _, rfl, hfinx⟩, .inr ⟨rfl, rfl⟩⟩ | (refine CallH.mem1 seat_g 1 cl rfl (by simp [Closed, ClosedL]) (by simp [Closed, ClosedL]) (by simp [Closed, ClosedL, lv_closed]) rfl ?_; conv => whnf) | (refine CallH.mem1 seat_g 1 cp rfl (by simp [Closed, ClosedL]) (by simp [Closed, ClosedL]) (by simp [Closed, ClosedL, lv_closed]) rfl ?_; conv => whnf) | (refine CallH.lift seat_g cf (by simp [Closed, ClosedL]) (by simp [Closed, ClosedL]) ?_; conv => whnf) | (refine CallH.mem1 seat_g 1 ck rfl (by simp [Closed, ClosedL]) (by simp [Closed, ClosedL]) (by simp [Closed, ClosedL, lv_closed]) rfl ?_; conv => whnf) | (refine CallH.mem1 seat_g 1 c2 rfl (by simp [Closed, ClosedL]) (by simp [Closed, ClosedL]) (by simp [Closed, ClosedL, lv_closed]) rfl ?_; conv => whnf) | (refine CbH.weakA (WeakL.cons (Weak.agg (WeakL.cons (Weak.refl _) (WeakL.cons Weak.nils (WeakL.refl _)))) (WeakL.refl _)) ?_; refine CbH.told rfl hacc (by simp [Closed, ClosedL, ofCells]) ?_ ?_ <;> (conv => whnf)) | ((first | refine zq1 (by omega) ?_ | refine zq2 (by omega) ?_ | refine NumH.rem (by omega) ?_ | refine zq4 (by omega) ?_ | refine zq5 (by omega) ?_ | refine zq6 ?_ | refine Req.mk (by omega) ?_ | refine Req.mk (by dsimp only; omega) ?_ | refine Req.mk (show pendP _ _ by repeat' constructor) ?_ | (with_reducible first | refine brT (by assumption) ?_ | refine brF (by assumption) ?_ | refine brDT (by omega) ?_ | refine brDF (by omega) ?_ | refine brET (by omega) ?_ | refine brEF (by omega) ?_ | refine brNET (by omega) ?_ | refine brNEF (by omega) ?_ | refine brNot ?_)); conv => whnf))
            | false =>
              conv => whnf
              repeat' (first | exact ⟨_, _, show s.length - p1 < s.length - p by omega, WeakL.of_eq rfl, n, false, p1, L ++ [(c, [])], hin, by omega, by rw [hll]; omega, hF2, rfl, rfl, by rw [← toldG_snoc]; rfl⟩ | exact ⟨_, keepT_weak (maskOf 87 []) _, ⟨_, _, _, rfl, hfinx⟩, .inr ⟨rfl, rfl⟩⟩ | (refine CallH.mem1 seat_g 1 cl rfl (by simp [Closed, ClosedL]) (by simp [Closed, ClosedL]) (by simp [Closed, ClosedL, lv_closed]) rfl ?_; conv => whnf) | (refine CallH.mem1 seat_g 1 cp rfl (by simp [Closed, ClosedL]) (by simp [Closed, ClosedL]) (by simp [Closed, ClosedL, lv_closed]) rfl ?_; conv => whnf) | (refine CallH.lift seat_g cf (by simp [Closed, ClosedL]) (by simp [Closed, ClosedL]) ?_; conv => whnf) | (refine CallH.mem1 seat_g 1 ck rfl (by simp [Closed, ClosedL]) (by simp [Closed, ClosedL]) (by simp [Closed, ClosedL, lv_closed]) rfl ?_; conv => whnf) | (refine CallH.mem1 seat_g 1 c2 rfl (by simp [Closed, ClosedL]) (by simp [Closed, ClosedL]) (by simp [Closed, ClosedL, lv_closed]) rfl ?_; conv => whnf) | (refine CbH.weakA (WeakL.cons (Weak.agg (WeakL.cons (Weak.refl _) (WeakL.cons Weak.nils (WeakL.refl _)))) (WeakL.refl _)) ?_; refine CbH.told rfl hacc (by simp [Closed, ClosedL, ofCells]) ?_ ?_ <;> (conv => whnf)) | ((first | refine zq1 (by omega) ?_ | refine zq2 (by omega) ?_ | refine NumH.rem (by omega) ?_ | refine zq4 (by omega) ?_ | refine zq5 (by omega) ?_ | refine zq6 ?_ | refine Req.mk (by omega) ?_ | refine Req.mk (by dsimp only; omega) ?_ | refine Req.mk (show pendP _ _ by repeat' constructor) ?_ | (with_reducible first | refine brT (by assumption) ?_ | refine brF (by assumption) ?_ | refine brDT (by omega) ?_ | refine brDF (by omega) ?_ | refine brET (by omega) ?_ | refine brEF (by omega) ?_ | refine brNET (by omega) ?_ | refine brNEF (by omega) ?_ | refine brNot ?_)); conv => whnf))
          · have hF2 := hF.runs hc hx hf ha
            rw [← hp1] at hF2 c2 hin
            obtain ⟨k, r, rfl, hk2⟩ : ∃ k r, args = k :: r ∧ (k = 110 ∨ k = 117) := by
              rcases hh with h | h
              · exact absurd h ha
              · exact h
            clear hF hG
            have h77 : first = true → a1 = 77 := fun h => Classical.byContradiction fun h2 => hf ⟨h, h2⟩
            unfold rdr
            unfold rdr at cl cp ck c2
            have hhead : ∀ q2, moreR s ((k :: r).head? == some 110) q2 = moreR s (k == 110) q2 := fun _ => rfl
            have hrl : r.length ≤ 100 := by simp only [List.length_cons] at hal; omega
            clear hf hx hcl hll
            cases first
            all_goals try have h78 := h77 rfl
            all_goals
              conv => whnf
              repeat' (first | (refine CallH.mem1 seat_g 1 cl rfl (by simp [Closed, ClosedL]) (by simp [Closed, ClosedL]) (by simp [Closed, ClosedL, lv_closed]) rfl ?_; conv => whnf) | (refine CallH.mem1 seat_g 1 cp rfl (by simp [Closed, ClosedL]) (by simp [Closed, ClosedL]) (by simp [Closed, ClosedL, lv_closed]) rfl ?_; conv => whnf) | (refine CallH.lift seat_g cf (by simp [Closed, ClosedL]) (by simp [Closed, ClosedL]) ?_; conv => whnf) | (refine CallH.mem1 seat_g 1 ck rfl (by simp [Closed, ClosedL]) (by simp [Closed, ClosedL]) (by simp [Closed, ClosedL, lv_closed]) rfl ?_; conv => whnf) | (refine CallH.mem1 seat_g 1 c2 rfl (by simp [Closed, ClosedL]) (by simp [Closed, ClosedL]) (by simp [Closed, ClosedL, lv_closed]) rfl ?_; conv => whnf) | ((first | refine zq1 (by omega) ?_ | refine zq2 (by omega) ?_ | refine NumH.rem (by omega) ?_ | refine zq4 (by omega) ?_ | refine zq5 (by omega) ?_ | refine zq6 ?_ | refine Req.mk (by omega) ?_ | refine Req.mk (by dsimp only; omega) ?_ | refine Req.mk (show pendP _ _ by repeat' constructor) ?_ | (with_reducible first | refine brT (by assumption) ?_ | refine brF (by assumption) ?_ | refine brDT (by omega) ?_ | refine brDF (by omega) ?_ | refine brET (by omega) ?_ | refine brEF (by omega) ?_ | refine brNET (by omega) ?_ | refine brNEF (by omega) ?_ | refine brNot ?_)); conv => whnf))
            all_goals
              refine Sat.cut (fun x t h => (x = .ret ∧ (∃ a b, t = (uu::uu::uu::uu::.int .i64 a::.int .i64 b::uu::uu::uu::uu::uu::uu::uu::uu::uu::uu::uu::uu::uu::uu::uu::uu::uu::uu::uu::uu::uu::uu::uu::uu::uu::uu::uu::uu::uu::uu::uu::uu::uu::uu::uu::uu::uu::uu::uu::uu::uu::uu::uu::uu::uu::uu::uu::uu::uu::uu::uu::uu::uu::uu::uu::uu::uu::uu::uu::uu::uu::uu::uu::uu::uu::uu::uu::uu::uu::uu::uu::uu::uu::uu::uu::uu::uu::uu::uu::uu::uu::[])) ∧ ∃ r, h = .cb (accG G) (toldG G) false :: r) ∨ (x = .exit 0 ∧ t = (uu::uu::uu::uu::uu::uu::uu::uu::uu::uu::uu::uu::uu::uu::uu::uu::uu::uu::uu::uu::uu::uu::uu::uu::uu::uu::uu::uu::uu::uu::uu::uu::uu::uu::uu::uu::uu::uu::uu::uu::uu::uu::uu::uu::uu::uu::uu::uu::uu::uu::uu::uu::uu::uu::uu::uu::uu::uu::uu::uu::uu::uu::uu::uu::uu::uu::uu::uu::uu::uu::uu::uu::uu::uu::uu::uu::uu::uu::uu::uu::uu::uu::uu::uu::uu::uu::uu::[]) ∧ ∃ seen r, h = .cb (accG G) seen true :: r ∧ finG G seen true) ∨
                (x = .exit 1 ∧ ∃ (p3 : Nat) (L3 : List (UInt8 × List Int)), p < p3 ∧ p3 ≤ s.length ∧ L3.length ≤ p3 ∧ Fin6 G e q L3 (walkR s n false p3) ∧ t = (uu::.cb 0::uu::uu::uu::uu::.ptr 1 0::.bool false::uu::uu::uu::uu::uu::uu::uu::uu::uu::uu::uu::uu::uu::uu::uu::uu::uu::uu::uu::uu::uu::uu::uu::uu::uu::uu::uu::uu::uu::uu::uu::uu::uu::uu::uu::uu::uu::uu::uu::uu::uu::uu::uu::uu::uu::uu::uu::uu::uu::uu::uu::uu::uu::uu::uu::uu::uu::uu::uu::uu::uu::uu::uu::uu::uu::uu::uu::uu::uu::uu::uu::uu::uu::uu::uu::uu::uu::uu::uu::[]) ∧ ∃ r, h = .cb (accG G) (toldG L3) false :: .var [.str s, .int .i64 (p3 : Nat)] 96 :: r)) ?_ ?_
              · refine Sat.invP seat_ok seat_g (maskOf 87 [1, 6, 7, 8, 10]) 3 (fun μ t h => ∃ (m : Nat) (d : UInt8) (p2 : Nat) (L2 : List (UInt8 × List Int)), p < p2 ∧ p2 ≤ s.length ∧ s.length < p2 + m ∧ L2.length < p2 ∧ FinG G e q L2 s n (runR s (k :: r) m d p2) ∧ μ = s.length - p2 ∧
                    t = (uu::.cb 0::uu::uu::uu::uu::.ptr 1 0::.bool false::.int .u8 d.toNat::uu::.ptr 2 0::uu::uu::uu::uu::uu::uu::uu::uu::uu::uu::uu::uu::uu::uu::uu::uu::uu::uu::uu::uu::uu::uu::uu::uu::uu::uu::uu::uu::uu::uu::uu::uu::uu::uu::uu::uu::uu::uu::uu::uu::uu::uu::uu::uu::uu::uu::uu::uu::uu::uu::uu::uu::uu::uu::uu::uu::uu::uu::uu::uu::uu::uu::uu::uu::uu::uu::uu::uu::uu::uu::uu::uu::uu::uu::uu::uu::[]) ∧ h = .cb (accG G) (toldG L2) false :: .var [.str s, .int .i64 (p2 : Nat)] 96 :: .var [.int .u8 a1, .str (k :: r)] 58 :: [])
                  ?_ ⟨_, _, WeakL.of_eq rfl, s.length + 1, c, p1, L, hpp, hin, by omega, by omega, hF2, rfl, rfl, rfl⟩ ?_
                · rintro _ _ _ ⟨m, d, p2, L2, -, -, -, -, -, -, rfl, rfl⟩
                  exact ⟨rfl, (by simp [IdsL, Ids, IdsH, IdsC, lv_ids, ci_ids]), by simp [IdsH, IdsC, IdsL, Ids]⟩
                rintro _ _ _ ⟨m, d, p2, L2, hpp2, hp2, hm2, hL2, hR, rfl, rfl, rfl⟩
                clear cl cp ck c2 hF2
                obtain ⟨m, rfl⟩ : ∃ i, m = i + 1 := ⟨m - 1, by omega⟩
                have cg := c_group s (k :: r) p2 hp2 hl hk hal
                have hb := grpR_bd s hl (k :: r) 0 p2 [] hp2
                have hd8 := d.toNat_lt
                have e0 := hR.err
                have e1 := hR.last
                have e2 := hR.more
                clear hR
                obtain ⟨⟨vals, e', q2⟩, hA⟩ : ∃ R, grpR s (k :: r) 0 p2 [] = R := ⟨_, rfl⟩
                rw [hA] at cg hb e0 e1 e2
                simp only [hhead] at cg hb e0 e1 e2
                have hcl2 := cmd_length L2
                have hll2 : ∀ v, (L2 ++ [(d, v)]).length = L2.length + 1 := fun v => by simp
                by_cases he : e' = 0
                · subst he
                  have hq2 := hb.2 (by simp) rfl
                  have e1 := e1 rfl
                  have e2 := e2 rfl
                  have hmb := more_bd s (k == 110) q2 hb.1.2
                  have cm := c_more s k r q2 hb.1.2 (by omega) hrl hk2
                  obtain ⟨⟨mo, p3⟩, hM0⟩ : ∃ R, moreR s (k == 110) q2 = R := ⟨_, rfl⟩
                  rw [hM0] at e1 e2 hmb cm
                  simp only at e1 e2 hmb cm
                  unfold rdr at cg cm
                  cases mo with
                  | false =>
                    have h4 := e1 rfl
                    have hacc := h4.acc
                    have hfinx := hacc.fin'
                    conv => whnf
                    repeat' (first | exact ⟨_, keepT_weak (maskOf 87 []) _, .inr (.inl ⟨rfl, rfl, _, _, rfl, hfinx⟩)⟩ | exact ⟨_, keepT_weak (maskOf 87 [1, 6, 7]) _, .inr (.inr ⟨rfl, p3, L2 ++ [(d, vals)], by omega, by omega, by rw [hll2]; omega, h4, rfl, _, by rw [← toldG_snoc]; rfl⟩)⟩ | (refine CallH.mem1 seat_g 1 cg rfl (by simp [Closed, ClosedL]) (by simp [Closed, ClosedL]) (by simp [Closed, ClosedL, lv_closed]) rfl ?_; conv => whnf) | (refine CbH.told rfl hacc (by simp [Closed, ClosedL, ci_closed, ofCells]) ?_ ?_ <;> (conv => whnf)) | (refine CallH.mem1 seat_g 1 cm rfl (by simp [Closed, ClosedL]) (by simp [Closed, ClosedL]) (by simp [Closed, ClosedL, lv_closed]) rfl ?_; conv => whnf) | ((first | refine zq1 (by omega) ?_ | refine zq2 (by omega) ?_ | refine NumH.rem (by omega) ?_ | refine zq4 (by omega) ?_ | refine zq5 (by omega) ?_ | refine zq6 ?_ | refine Req.mk (by omega) ?_ | refine Req.mk (by dsimp only; omega) ?_ | refine Req.mk (show pendP _ _ by repeat' constructor) ?_ | (with_reducible first | refine brT (by assumption) ?_ | refine brF (by assumption) ?_ | refine brDT (by omega) ?_ | refine brDF (by omega) ?_ | refine brET (by omega) ?_ | refine brEF (by omega) ?_ | refine brNET (by omega) ?_ | refine brNEF (by omega) ?_ | refine brNot ?_)); conv => whnf))
                  | true =>
                    have hM := e2 rfl
                    have hacc := hM.acc
                    have hfinx := hacc.fin'
                    by_cases h1 : (d.toNat : Int) = 77
                    · have hd : d = 77 := UInt8.toNat_inj.1 (by show d.toNat = 77; omega)
                      have hnd : nextC d = 76 := by rw [hd]; rfl
                      rw [hnd] at hM
                      clear hd hnd
                      conv => whnf
                      repeat' (first | exact ⟨_, keepT_weak (maskOf 87 []) _, .inr (.inl ⟨rfl, rfl, _, _, rfl, hfinx⟩)⟩ | exact ⟨_, _, show s.length - p3 < s.length - p2 by omega, WeakL.of_eq rfl, m, 76, p3, L2 ++ [(d, vals)], by omega, by omega, by omega, by rw [hll2]; omega, hM, rfl, rfl, by rw [← toldG_snoc]; rfl⟩ | (refine CallH.mem1 seat_g 1 cg rfl (by simp [Closed, ClosedL]) (by simp [Closed, ClosedL]) (by simp [Closed, ClosedL, lv_closed]) rfl ?_; conv => whnf) | (refine CbH.told rfl hacc (by simp [Closed, ClosedL, ci_closed, ofCells]) ?_ ?_ <;> (conv => whnf)) | (refine CallH.mem1 seat_g 1 cm rfl (by simp [Closed, ClosedL]) (by simp [Closed, ClosedL]) (by simp [Closed, ClosedL, lv_closed]) rfl ?_; conv => whnf) | (refine WrapH.is 0 (by rw [h1]; rfl) ?_; conv => whnf) | (refine WrapH.is 76 rfl ?_; conv => whnf) | ((first | refine zq1 (by omega) ?_ | refine zq2 (by omega) ?_ | refine NumH.rem (by omega) ?_ | refine zq4 (by omega) ?_ | refine zq5 (by omega) ?_ | refine zq6 ?_ | refine Req.mk (by omega) ?_ | refine Req.mk (by dsimp only; omega) ?_ | refine Req.mk (show pendP _ _ by repeat' constructor) ?_ | (with_reducible first | refine brT (by assumption) ?_ | refine brF (by assumption) ?_ | refine brDT (by omega) ?_ | refine brDF (by omega) ?_ | refine brET (by omega) ?_ | refine brEF (by omega) ?_ | refine brNET (by omega) ?_ | refine brNEF (by omega) ?_ | refine brNot ?_)); conv => whnf))
                    · by_cases h2 : (d.toNat : Int) = 109
                      · have hd : d = 109 := UInt8.toNat_inj.1 (by show d.toNat = 109; omega)
                        have hnd : nextC d = 108 := by rw [hd]; rfl
                        rw [hnd] at hM
                        clear hd hnd
                        conv => whnf
                        repeat' (first | exact ⟨_, keepT_weak (maskOf 87 []) _, .inr (.inl ⟨rfl, rfl, _, _, rfl, hfinx⟩)⟩ | exact ⟨_, _, show s.length - p3 < s.length - p2 by omega, WeakL.of_eq rfl, m, 108, p3, L2 ++ [(d, vals)], by omega, by omega, by omega, by rw [hll2]; omega, hM, rfl, rfl, by rw [← toldG_snoc]; rfl⟩ | (refine CallH.mem1 seat_g 1 cg rfl (by simp [Closed, ClosedL]) (by simp [Closed, ClosedL]) (by simp [Closed, ClosedL, lv_closed]) rfl ?_; conv => whnf) | (refine CbH.told rfl hacc (by simp [Closed, ClosedL, ci_closed, ofCells]) ?_ ?_ <;> (conv => whnf)) | (refine CallH.mem1 seat_g 1 cm rfl (by simp [Closed, ClosedL]) (by simp [Closed, ClosedL]) (by simp [Closed, ClosedL, lv_closed]) rfl ?_; conv => whnf) | (refine WrapH.is 32 (by rw [h2]; rfl) ?_; conv => whnf) | (refine WrapH.is 108 rfl ?_; conv => whnf) | ((first | refine zq1 (by omega) ?_ | refine zq2 (by omega) ?_ | refine NumH.rem (by omega) ?_ | refine zq4 (by omega) ?_ | refine zq5 (by omega) ?_ | refine zq6 ?_ | refine Req.mk (by omega) ?_ | refine Req.mk (by dsimp only; omega) ?_ | refine Req.mk (show pendP _ _ by repeat' constructor) ?_ | (with_reducible first | refine brT (by assumption) ?_ | refine brF (by assumption) ?_ | refine brDT (by omega) ?_ | refine brDF (by omega) ?_ | refine brET (by omega) ?_ | refine brEF (by omega) ?_ | refine brNET (by omega) ?_ | refine brNEF (by omega) ?_ | refine brNot ?_)); conv => whnf))
                      · have hnd : nextC d = d := by
                          unfold nextC
                          rw [if_neg (fun h => h1 (by rw [h]; rfl)), if_neg (fun h => h2 (by rw [h]; rfl))]
                        rw [hnd] at hM
                        conv => whnf
                        repeat' (first | exact ⟨_, keepT_weak (maskOf 87 []) _, .inr (.inl ⟨rfl, rfl, _, _, rfl, hfinx⟩)⟩ | exact ⟨_, _, show s.length - p3 < s.length - p2 by omega, WeakL.of_eq rfl, m, d, p3, L2 ++ [(d, vals)], by omega, by omega, by omega, by rw [hll2]; omega, hM, rfl, rfl, by rw [← toldG_snoc]; rfl⟩ | (refine CallH.mem1 seat_g 1 cg rfl (by simp [Closed, ClosedL]) (by simp [Closed, ClosedL]) (by simp [Closed, ClosedL, lv_closed]) rfl ?_; conv => whnf) | (refine CbH.told rfl hacc (by simp [Closed, ClosedL, ci_closed, ofCells]) ?_ ?_ <;> (conv => whnf)) | (refine CallH.mem1 seat_g 1 cm rfl (by simp [Closed, ClosedL]) (by simp [Closed, ClosedL]) (by simp [Closed, ClosedL, lv_closed]) rfl ?_; conv => whnf) | ((first | refine zq1 (by omega) ?_ | refine zq2 (by omega) ?_ | refine NumH.rem (by omega) ?_ | refine zq4 (by omega) ?_ | refine zq5 (by omega) ?_ | refine zq6 ?_ | refine Req.mk (by omega) ?_ | refine Req.mk (by dsimp only; omega) ?_ | refine Req.mk (show pendP _ _ by repeat' constructor) ?_ | (with_reducible first | refine brT (by assumption) ?_ | refine brF (by assumption) ?_ | refine brDT (by omega) ?_ | refine brDF (by omega) ?_ | refine brET (by omega) ?_ | refine brEF (by omega) ?_ | refine brNET (by omega) ?_ | refine brNEF (by omega) ?_ | refine brNot ?_)); conv => whnf))
                · obtain ⟨rfl, rfl, rfl⟩ := e0 he
                  have ca2 := c_at s q
                  unfold rdr at cg ca2
                  conv => whnf
                  repeat' (first | exact ⟨_, keepT_weak (maskOf 87 [4, 5]) _, .inl ⟨rfl, ⟨_, _, rfl⟩, _, rfl⟩⟩ | (refine CallH.mem1 seat_g 1 cg rfl (by simp [Closed, ClosedL]) (by simp [Closed, ClosedL]) (by simp [Closed, ClosedL, lv_closed]) rfl ?_; conv => whnf) | (refine CallH.mem1 seat_g 1 ca2 rfl (by simp [Closed, ClosedL]) (by simp [Closed, ClosedL]) (by simp [Closed, ClosedL, lv_closed]) rfl ?_; conv => whnf) | ((first | refine zq1 (by omega) ?_ | refine zq2 (by omega) ?_ | refine NumH.rem (by omega) ?_ | refine zq4 (by omega) ?_ | refine zq5 (by omega) ?_ | refine zq6 ?_ | refine Req.mk (by omega) ?_ | refine Req.mk (by dsimp only; omega) ?_ | refine Req.mk (show pendP _ _ by repeat' constructor) ?_ | (with_reducible first | refine brT (by assumption) ?_ | refine brF (by assumption) ?_ | refine brDT (by omega) ?_ | refine brDF (by omega) ?_ | refine brET (by omega) ?_ | refine brEF (by omega) ?_ | refine brNET (by omega) ?_ | refine brNEF (by omega) ?_ | refine brNot ?_)); conv => whnf))
              · rintro _ _ _ (⟨rfl, ⟨a, b, rfl⟩, r2, rfl⟩ | ⟨rfl, rfl, seen, r2, rfl, hfinx⟩ | ⟨rfl, p3, L3, h1, h2, h3, h4, rfl, r2, rfl⟩)
                · conv => whnf
                  exact ⟨_, keepT_weak (maskOf 87 [4, 5]) _, ⟨_, _, _, rfl, G, [], (List.append_nil _).symm, rfl, fun _ => rfl⟩, .inl ⟨rfl, _, _, rfl⟩⟩
                · conv => whnf
                  exact ⟨_, keepT_weak (maskOf 87 []) _, ⟨_, _, _, rfl, hfinx⟩, .inr ⟨rfl, rfl⟩⟩
                · conv => whnf
                  exact ⟨_, _, show s.length - p3 < s.length - p by omega, WeakL.of_eq rfl, n, false, p3, L3, by omega, by omega, h3, h4, rfl, rfl, rfl⟩
    · have hpe : p = s.length := by omega
      obtain ⟨rfl, rfl⟩ := hF.fin (List.getElem?_eq_none (by omega))
      have hg0 : ¬ ((s.length : Int) - p > 0) := by omega
      clear hF hG
      unfold rdr at *
      conv => whnf
      repeat' (first | exact ⟨_, keepT_weak (maskOf 87 []) _, ⟨_, _, _, rfl, G, [], (List.append_nil _).symm, rfl, fun _ => rfl⟩, .inr ⟨rfl, rfl⟩⟩ | (refine CallH.mem1 seat_g 1 cl rfl (by simp [Closed, ClosedL]) (by simp [Closed, ClosedL]) (by simp [Closed, ClosedL, lv_closed]) rfl ?_; conv => whnf) | ((first | refine zq1 (by omega) ?_ | refine zq2 (by omega) ?_ | refine NumH.rem (by omega) ?_ | refine zq4 (by omega) ?_ | refine zq5 (by omega) ?_ | refine zq6 ?_ | refine Req.mk (by omega) ?_ | refine Req.mk (by dsimp only; omega) ?_ | refine Req.mk (show pendP _ _ by repeat' constructor) ?_ | (with_reducible first | refine brT (by assumption) ?_ | refine brF (by assumption) ?_ | refine brDT (by omega) ?_ | refine brDF (by omega) ?_ | refine brET (by omega) ?_ | refine brEF (by omega) ?_ | refine brNET (by omega) ?_ | refine brNEF (by omega) ?_ | refine brNot ?_)); conv => whnf))
  · rintro _ _ _ ⟨⟨seen, st, r, rfl, hfin⟩, ⟨rfl, a, b, rfl⟩ | ⟨rfl, rfl⟩⟩
    · conv => whnf
      exact ⟨⟨_, _, rfl⟩, seen, st, rfl, hfin⟩
    · conv => whnf
      exact ⟨⟨_, _, rfl⟩, seen, st, rfl, hfin⟩
end Go.Proofs.YtjpaapkdbohgeaaDoor
namespace Go.Proofs.YtjpaapkdbohgeaaDoor
open Go.Abs
theorem runR_pos (s : List UInt8) (hl : s.length ≤ 400) (args : List UInt8) (ha : args ≠ []) : ∀ (n : Nat) (c : UInt8) (p : Nat), p ≤ s.length → (runR s args n c p).1.length + p ≤ (runR s args n c p).2.2 ∧ (runR s args n c p).2.2 ≤ s.length
  | 0, _, p, hp => by simp [runR, hp]
  | n + 1, c, p, hp => by
    have ih := fun c p hp => runR_pos s hl args ha n c p hp
    have hg := grpR_bd s hl args 0 p [] hp
    rw [runR]
    dsimp only
    split
    · exact ⟨by simp only [List.length_nil]; omega, hg.1.2⟩
    · rename_i he
      have hq := hg.2 ha (Classical.not_not.1 he)
      have hm := more_bd s (args.head? == some 110) _ hg.1.2
      split
      · have h1 := ih (nextC c) _ hm.2
        exact ⟨by simp only [List.length_cons]; omega, h1.2⟩
      · exact ⟨by simp only [List.length_cons, List.length_nil]; omega, hm.2⟩
theorem walkR_pos (s : List UInt8) (hl : s.length ≤ 400) : ∀ (n : Nat) (f : Bool) (p : Nat), p ≤ s.length → (walkR s n f p).1.length + p ≤ s.length
  | 0, _, p, hp => by simp [walkR, hp]
  | n + 1, f, p, hp => by
    have ih := fun f p hp => walkR_pos s hl n f p hp
    rw [walkR]
    cases hc : s[p]? with
    | none => simpa using hp
    | some c =>
      have hps : p < s.length := (List.getElem?_eq_some_iff.1 hc).1
      have hb := blk_in s (p + 1) (by omega)
      simp only
      cases ho : ofN c.toNat with
      | none => simpa using hp
      | some y =>
        simp only
        split
        · simpa using hp
        · split
          · have h1 := ih false _ hb
            simp only [List.length_cons]; omega
          · rename_i hy
            have hr := runR_pos s hl y.2 hy (s.length + 1) c _ hb
            split
            · simp only; omega
            · have h1 := ih false _ hr.2
              simp only [List.length_append]; omega
theorem pathR_pos (s : List UInt8) (hl : s.length ≤ 400) : (pathR s).1.length ≤ s.length := by
  have h1 := blk_in s 0 (by omega)
  rw [Nat.zero_add, List.drop_zero] at h1
  have := walkR_pos s hl (s.length + 1) true (blk s) h1
  unfold pathR; omega
theorem c_all (s : List UInt8) : ACalls seat 30 [.str s] [] (fun x _ => x = .ret (.fn 49 [] [.iptr [.str s]])) := by
  have h : ACalls seat 30 [.str s] [] (fun x h' => x = .ret (.fn 49 [] [.ptr 0 0]) ∧ h' = [.var [.str s] 9]) := by
    refine ACalls.body seat_ok Tryd.func30 rfl rfl ?_
    conv => whnf
    exact ⟨rfl, rfl⟩
  exact (h.seal 0 rfl (SealV.fn (SealL.refl []) (SealL.setAt 0 rfl SealV.ptr))).mono fun _ _ h => h.1
theorem c_allT (s : List UInt8) (hl : s.length ≤ 400) (G : List (UInt8 × List Int)) (e : Int) (q : Nat) (hG : pathR s = (G, e, q)) :
    ACalls seat 49 [.cb 0, .iptr [.str s]] [.cb (accG G) [] false] (fun x h => (∃ v, x = .ret v) ∧ ∃ seen st, h[0]? = some (.cb (accG G) seen st) ∧ finG G seen st) := by
  refine ACalls.body seat_ok Tryd.func49 rfl rfl ?_
  have cw := c_walkA s hl G e q hG
  have g : (s.length : Int) ≤ 65536 := by omega
  conv => whnf
  repeat' ((first | refine zq1 (by omega) ?_ | refine zq2 (by omega) ?_ | refine NumH.rem (by omega) ?_ | refine zq4 (by omega) ?_ | refine zq5 (by omega) ?_ | refine zq6 ?_ | refine Req.mk (by omega) ?_ | refine Req.mk (by dsimp only; omega) ?_ | refine Req.mk (show pendP _ _ by repeat' constructor) ?_ | (with_reducible first | refine brT (by assumption) ?_ | refine brF (by assumption) ?_ | refine brDT (by omega) ?_ | refine brDF (by omega) ?_ | refine brET (by omega) ?_ | refine brEF (by omega) ?_ | refine brNET (by omega) ?_ | refine brNEF (by omega) ?_ | refine brNot ?_)); conv => whnf)
  refine ⟨cw.mono ?_⟩
  rintro _ h' ⟨⟨a, b, rfl⟩, seen, st, h1, h2⟩
  conv => whnf
  exact ⟨⟨_, rfl⟩, seen, st, h1, h2⟩
theorem told_takeG {P L : List (UInt8 × List Int)} {L0 R : List (UInt8 × List Int)} {e : AExit} {seen : List (List AV)} {most : Nat} (hP : P = L0 ++ R) (hs0 : seen = toldG L0) (hst : stopOf e = false → R = []) (hL : L.length ≤ most) (h : (e = .normal ∧ seen = toldG L) ∨ (e = .exit 0 ∧ L.length = most ∧ ∃ x, seen = toldG (L ++ [x]))) : P.take most = L := by
  subst hs0
  rcases h with ⟨rfl, h⟩ | ⟨rfl, hl, x, h⟩
  · obtain rfl := toldG_inj h
    obtain rfl := hst rfl
    rw [hP, List.append_nil, List.take_of_length_le hL]
  · obtain rfl := toldG_inj h
    rw [hP, ← hl, List.append_assoc, List.take_left]
def toldH (most : Nat) (L : List (UInt8 × List Int)) : Heap := [.var [.int .i64 most] 3, .var [.vec (cs cmdC L) L.length (some 2)] 23, .tok L.length 38 2]
def toldI (most : Nat) (seen : List (List AV)) (e : AExit) (h : Heap) : Prop := ∃ L : List (UInt8 × List Int), h = toldH most L ∧ L.length ≤ most ∧
      ((e = .normal ∧ seen = toldG L) ∨ (e = .exit 0 ∧ L.length = most ∧ ∃ x, seen = toldG (L ++ [x])))
theorem toldH_ids (most : Nat) (L : List (UInt8 × List Int)) : IdsH (· < 3) (toldH most L) := by simp [toldH, IdsH, IdsC, IdsL, Ids, cmd_ids]
set_option maxRecDepth 20000 in
theorem c_told (s : List UInt8) (hl : s.length ≤ 400) (G : List (UInt8 × List Int)) (e : Int) (q : Nat) (hG : pathR s = (G, e, q)) (most : Nat) (hm : most ≤ 1000000) : ACalls seat 14 [.str s, .int .i64 most] [] (fun x _ => x = .ret (cmdV (G.take most))) := by
  refine ACalls.weakR ?_
  refine ACalls.body seat_ok Tryd.func14 rfl rfl ?_
  have c1 := c_all s
  have c2 := c_allT s hl G e q hG
  clear hG
  conv => whnf
  repeat' (first | (refine CallH.lift seat_g c1 (by simp [Closed, ClosedL]) (by simp [Closed, ClosedL]) ?_; conv => whnf) | ((first | refine zq1 (by omega) ?_ | refine zq2 (by omega) ?_ | refine NumH.rem (by omega) ?_ | refine zq4 (by omega) ?_ | refine zq5 (by omega) ?_ | refine zq6 ?_ | refine Req.mk (by omega) ?_ | refine Req.mk (by dsimp only; omega) ?_ | refine Req.mk (show pendP _ _ by repeat' constructor) ?_ | (with_reducible first | refine brT (by assumption) ?_ | refine brF (by assumption) ?_ | refine brDT (by omega) ?_ | refine brDF (by omega) ?_ | refine brET (by omega) ?_ | refine brEF (by omega) ?_ | refine brNET (by omega) ?_ | refine brNEF (by omega) ?_ | refine brNot ?_)); conv => whnf))
  refine Sat.nilTokH 1 0 38 2 rfl rfl ?_
  refine Sat.range seat_ok seat_g (f := 49) (first := []) (caps := [.iptr [.str s]]) rfl trivial (by simp [Closed, ClosedL]) rfl rfl rfl (accG G)
    (toldI most) (finG G) c2 ⟨[], rfl, by simp, .inl ⟨rfl, rfl⟩⟩ ?_ ?_
  · rintro seen args h1 ⟨L0, x, R, hP, hs0, rfl⟩ ⟨L, rfl, hL, ⟨-, rfl⟩ | ⟨he, -⟩⟩
    rotate_left
    · cases he
    obtain rfl := toldG_inj hs0
    refine ⟨rfl, codeR_sound seat_ok _ _ _ _ ?_⟩
    have hlen := cmd_length L
    by_cases g : L.length < most
    · conv => whnf
      refine ⟨rfl, codeR_sound seat_ok _ _ _ _ ?_⟩
      conv => whnf
      repeat' (first | (refine Req.mk ⟨rfl, rfl, rfl, hlen, rfl, by simp [okCell, lv, ofCell, cmdC], by dsimp only; omega, by omega, by decide⟩ ?_; conv => whnf) | ((first | refine zq1 (by omega) ?_ | refine zq2 (by omega) ?_ | refine NumH.rem (by omega) ?_ | refine zq4 (by omega) ?_ | refine zq5 (by omega) ?_ | refine zq6 ?_ | refine Req.mk (by omega) ?_ | refine Req.mk (by dsimp only; omega) ?_ | refine Req.mk (show pendP _ _ by repeat' constructor) ?_ | (with_reducible first | refine brT (by assumption) ?_ | refine brF (by assumption) ?_ | refine brDT (by omega) ?_ | refine brDF (by omega) ?_ | refine brET (by omega) ?_ | refine brEF (by omega) ?_ | refine brNET (by omega) ?_ | refine brNEF (by omega) ?_ | refine brNot ?_)); conv => whnf))
      refine roundEnd (toldH most (L ++ [x])) ?_ ⟨L ++ [x], rfl, by simp; omega, .inl ⟨rfl, toldG_snoc L x⟩⟩ (toldH_ids _ _)
      unfold toldH; rw [cmd_snoc, show (L ++ [x]).length = L.length + 1 by simp]; rfl
    · conv => whnf
      refine ⟨rfl, codeR_sound seat_ok _ _ _ _ ?_⟩
      conv => whnf
      repeat' ((first | refine zq1 (by omega) ?_ | refine zq2 (by omega) ?_ | refine NumH.rem (by omega) ?_ | refine zq4 (by omega) ?_ | refine zq5 (by omega) ?_ | refine zq6 ?_ | refine Req.mk (by omega) ?_ | refine Req.mk (by dsimp only; omega) ?_ | refine Req.mk (show pendP _ _ by repeat' constructor) ?_ | (with_reducible first | refine brT (by assumption) ?_ | refine brF (by assumption) ?_ | refine brDT (by omega) ?_ | refine brDF (by omega) ?_ | refine brET (by omega) ?_ | refine brEF (by omega) ?_ | refine brNET (by omega) ?_ | refine brNEF (by omega) ?_ | refine brNot ?_)); conv => whnf)
      exact roundEnd (toldH most L) rfl ⟨L, rfl, hL, .inr ⟨rfl, by omega, x, toldG_snoc L x⟩⟩ (toldH_ids _ _)
  · rintro seen e h1 ⟨L0, R, hP, hs0, hst⟩ ⟨L, rfl, hL, h⟩
    have hr : G.take most = L := told_takeG hP hs0 hst hL h
    rw [hr]
    rcases h with ⟨rfl, -⟩ | ⟨rfl, -⟩
    · conv => whnf
      exact .inl ⟨_, _, rfl, Weak.tok, rfl⟩
    · conv => whnf
      exact .inl ⟨_, _, rfl, Weak.tok, rfl⟩
end Go.Proofs.YtjpaapkdbohgeaaDoor
