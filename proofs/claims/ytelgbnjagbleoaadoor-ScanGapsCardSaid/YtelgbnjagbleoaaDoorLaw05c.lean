/- The law ScanGaps answers true. No condition. -/
import Derived.Test.YtelgbnjagbleoaaDoorLaw05a
import Derived.Test.YtelgbnjagbleoaaDoorGapsL
set_option linter.unusedSimpArgs false
set_option linter.unusedVariables false
set_option linter.deprecated false
namespace Go.Proofs.YtelgbnjagbleoaaDoor
open Go.Abs
def ch (a : Int) : UInt8 := ([32, 9, 10, 13, 44] : List UInt8)[(a % 5).toNat]?.getD 44
theorem ch_at {a : Int} (h : 0 ≤ a) : ([32, 9, 10, 13, 44] : List UInt8)[(a % 5).toNat]? = some (ch a) := by
  unfold ch
  have : a % 5 = 0 ∨ a % 5 = 1 ∨ a % 5 = 2 ∨ a % 5 = 3 ∨ a % 5 = 4 := by omega
  rcases this with h | h | h | h | h <;> rw [h] <;> rfl
theorem ch_kind (a : Int) (h : 0 ≤ a) : blankN (ch a).toNat = true ∨ ch a = 44 := by
  unfold ch
  have : a % 5 = 0 ∨ a % 5 = 1 ∨ a % 5 = 2 ∨ a % 5 = 3 ∨ a % 5 = 4 := by omega
  rcases this with h | h | h | h | h <;> rw [h] <;> decide
theorem ch_txt (l : List Int) (hl : ∀ a ∈ l, 0 ≤ a ∧ a < 256) : Txt (l.map ch ++ [120]) (l.map ch).length where
  len := by simp
  last := by rw [List.getElem?_append_right (Nat.le_refl _), Nat.sub_self]; rfl
  mid i b hi hb := by
    rw [List.getElem?_append_left hi, List.getElem?_map] at hb
    cases ha : l[i]? with
    | none => rw [ha] at hb; cases hb
    | some a =>
      rw [ha] at hb; cases hb
      exact ch_kind a (hl a (List.mem_of_getElem? ha)).1
set_option maxRecDepth 20000 in
set_option maxHeartbeats 2000000 in
theorem l_scanGaps (l : List Int) (hl8 : ∀ a ∈ l, 0 ≤ a ∧ a < 256) : ACalls seat 4 [u8v l] [] (fun x _ => x = .ret (.bool true)) := by
  refine ACalls.body seat_ok Tryd.func4 rfl rfl ?_
  unfold u8v
  by_cases g2 : l.length ≤ 100
  · have g2' : ¬ ((l.length : Int) > 100) := by omega
    conv => whnf
    refine CallH.lift seat_g c_wakes trivial (by simp [Closed]) ?_
    conv => whnf
    repeat' ((first | refine zq1 (by omega) ?_ | refine zq2 (by omega) ?_ | refine NumH.rem (by omega) ?_ | refine zq4 (by omega) ?_ | refine zq5 (by omega) ?_ | refine zq6 ?_ | refine Req.mk (by omega) ?_ | refine Req.mk (by dsimp only; omega) ?_ | refine Req.mk ⟨rfl, rfl, rfl, by simp [ci_length, *], rfl, by simp [okCell], by dsimp only; omega, by omega, by decide⟩ ?_ | refine Req.mk (show pendP _ _ by repeat' constructor) ?_ | (with_reducible refine brT ?_ ?_; next => assumption) | (with_reducible refine brF ?_ ?_; next => assumption) | (with_reducible refine brDT ?_ ?_; next => omega) | (with_reducible refine brDF ?_ ?_; next => omega) | (with_reducible refine brET ?_ ?_; next => omega) | (with_reducible refine brEF ?_ ?_; next => omega) | (with_reducible refine brNET ?_ ?_; next => omega) | (with_reducible refine brNEF ?_ ?_; next => omega) | with_reducible refine brNot ?_); conv => whnf)
    refine Sat.cut (fun x t h => x = .exit 0 ∧ t = (uu :: uu :: uu :: .str (l.map ch) :: .int .i64 ((l.map ch).count 44 : Nat) :: uu :: uu :: uu :: uu :: uu :: uu :: uu :: uu :: uu :: uu :: uu :: uu :: uu :: uu :: uu :: uu :: uu :: uu :: uu :: uu :: uu :: uu :: uu :: uu :: uu :: uu :: uu :: uu :: uu :: uu :: uu :: uu :: uu :: uu :: uu :: uu :: uu :: uu :: uu :: uu :: uu :: uu :: uu :: uu :: uu :: uu :: uu :: uu :: uu :: uu :: uu :: uu :: uu :: uu :: uu :: uu :: uu :: uu :: uu :: uu :: uu :: uu :: uu :: uu :: uu :: uu :: uu :: uu :: uu :: uu :: uu :: uu :: uu :: uu :: uu :: uu :: uu :: uu :: uu :: uu :: []) ∧ h = []) ?_ ?_
    · refine Sat.invP seat_ok seat_g (maskOf 85 [3, 4, 17, 18, 19]) 0 (fun μ t h => ∃ (i : Nat) (z c : Int), z = i ∧ i ≤ l.length ∧ c = (((l.take i).map ch).count 44 : Nat) ∧ μ = l.length - i ∧ t = (uu :: uu :: uu :: .str ((l.take i).map ch) :: .int .i64 c :: uu :: uu :: uu :: uu :: uu :: uu :: uu :: uu :: uu :: uu :: uu :: uu :: .vec (ci .u8 l) l.length none :: .int .i64 l.length :: .int .i64 z :: uu :: uu :: uu :: uu :: uu :: uu :: uu :: uu :: uu :: uu :: uu :: uu :: uu :: uu :: uu :: uu :: uu :: uu :: uu :: uu :: uu :: uu :: uu :: uu :: uu :: uu :: uu :: uu :: uu :: uu :: uu :: uu :: uu :: uu :: uu :: uu :: uu :: uu :: uu :: uu :: uu :: uu :: uu :: uu :: uu :: uu :: uu :: uu :: uu :: uu :: uu :: uu :: uu :: uu :: uu :: uu :: uu :: uu :: uu :: uu :: uu :: uu :: uu :: uu :: uu :: []) ∧ h = [])
        ?_ ⟨_, _, WeakL.of_eq rfl, 0, 0, 0, rfl, by omega, rfl, rfl, rfl, rfl⟩ ?_
      · rintro _ _ _ ⟨i, z, c, -, -, -, -, rfl, rfl⟩
        exact ⟨rfl, (by simp [IdsL, Ids, IdsH, IdsC, lv_ids, ci_ids]), (by simp [IdsL, Ids, IdsH, IdsC, lv_ids, ci_ids])⟩
      rintro _ _ _ ⟨i, z, c, hz, hi, hc, rfl, rfl, rfl⟩
      by_cases g : i < l.length
      · obtain ⟨a, ha⟩ : ∃ a, l[z.toNat]? = some a := ⟨_, List.getElem?_eq_getElem (by omega)⟩
        have hab := hl8 a (List.mem_of_getElem? ha)
        have gz : z < l.length := by omega
        have hld := ci_sub .u8 ha
        have hch := ch_at hab.1
        have hai : l[i]? = some a := by rw [← ha]; congr 1; omega
        have htk : (l.take (i + 1)).map ch = (l.take i).map ch ++ [ch a] := by
          rw [List.take_succ_eq_append_getElem g, List.map_append, (List.getElem?_eq_some_iff.1 hai).2]; rfl
        have hcl : (((l.take i).map ch).count 44) ≤ 100 := Nat.le_trans List.count_le_length (by rw [List.length_map, List.length_take]; omega)
        have hll : ((l.take i).map ch).length ≤ 100 := by rw [List.length_map, List.length_take]; omega
        have hb8 := (ch a).toNat_lt
        have hun : UInt8.ofNat (((ch a).toNat : Int)).toNat = ch a := by rw [Int.toNat_natCast]; exact UInt8.ofNat_toNat
        have htk2 : (l.take (i + 1)).map ch = (l.take i).map ch ++ [UInt8.ofNat (((ch a).toNat : Int)).toNat] := by rw [htk, hun]
        by_cases h44 : ((ch a).toNat : Int) = 44
        · have e44 : ch a = 44 := UInt8.toNat_inj.1 (by show (ch a).toNat = 44; omega)
          have hcn : (((l.take (i + 1)).map ch).count 44) = ((l.take i).map ch).count 44 + 1 := by rw [htk, List.count_append, e44]; rfl
          conv => whnf
          repeat' (first | exact ⟨_, _, Nat.sub_lt_sub_left g (Nat.lt_succ_self i), WeakL.of_eq rfl, i + 1, z + 1, c + 1, by omega, by omega, by omega, rfl, by rw [htk2]; rfl, rfl⟩ | (refine ldI _ hld ?_; conv => whnf) | (refine ldI _ hch ?_; conv => whnf) | (refine Req.mk (by simp only [List.length_cons, List.length_nil]; omega) ?_; conv => whnf) | ((first | refine zq1 (by omega) ?_ | refine zq2 (by omega) ?_ | refine NumH.rem (by omega) ?_ | refine zq4 (by omega) ?_ | refine zq5 (by omega) ?_ | refine zq6 ?_ | refine Req.mk (by omega) ?_ | refine Req.mk (by dsimp only; omega) ?_ | refine Req.mk ⟨rfl, rfl, rfl, by simp [ci_length, *], rfl, by simp [okCell], by dsimp only; omega, by omega, by decide⟩ ?_ | refine Req.mk (show pendP _ _ by repeat' constructor) ?_ | (with_reducible refine brT ?_ ?_; next => assumption) | (with_reducible refine brF ?_ ?_; next => assumption) | (with_reducible refine brDT ?_ ?_; next => omega) | (with_reducible refine brDF ?_ ?_; next => omega) | (with_reducible refine brET ?_ ?_; next => omega) | (with_reducible refine brEF ?_ ?_; next => omega) | (with_reducible refine brNET ?_ ?_; next => omega) | (with_reducible refine brNEF ?_ ?_; next => omega) | with_reducible refine brNot ?_); conv => whnf))
        · have e44 : ch a ≠ 44 := fun h => h44 (by rw [h]; rfl)
          have hcn : (((l.take (i + 1)).map ch).count 44) = ((l.take i).map ch).count 44 := by rw [htk, List.count_append]; simp [e44]
          conv => whnf
          repeat' (first | exact ⟨_, _, Nat.sub_lt_sub_left g (Nat.lt_succ_self i), WeakL.of_eq rfl, i + 1, z + 1, c, by omega, by omega, by omega, rfl, by rw [htk2]; rfl, rfl⟩ | (refine ldI _ hld ?_; conv => whnf) | (refine ldI _ hch ?_; conv => whnf) | (refine Req.mk (by simp only [List.length_cons, List.length_nil]; omega) ?_; conv => whnf) | ((first | refine zq1 (by omega) ?_ | refine zq2 (by omega) ?_ | refine NumH.rem (by omega) ?_ | refine zq4 (by omega) ?_ | refine zq5 (by omega) ?_ | refine zq6 ?_ | refine Req.mk (by omega) ?_ | refine Req.mk (by dsimp only; omega) ?_ | refine Req.mk ⟨rfl, rfl, rfl, by simp [ci_length, *], rfl, by simp [okCell], by dsimp only; omega, by omega, by decide⟩ ?_ | refine Req.mk (show pendP _ _ by repeat' constructor) ?_ | (with_reducible refine brT ?_ ?_; next => assumption) | (with_reducible refine brF ?_ ?_; next => assumption) | (with_reducible refine brDT ?_ ?_; next => omega) | (with_reducible refine brDF ?_ ?_; next => omega) | (with_reducible refine brET ?_ ?_; next => omega) | (with_reducible refine brEF ?_ ?_; next => omega) | (with_reducible refine brNET ?_ ?_; next => omega) | (with_reducible refine brNEF ?_ ?_; next => omega) | with_reducible refine brNot ?_); conv => whnf))
      · obtain rfl : i = l.length := by omega
        have gz : ¬ (z < l.length) := by omega
        rw [List.take_length] at *
        rw [← hc]
        conv => whnf
        repeat' ((first | refine zq1 (by omega) ?_ | refine zq2 (by omega) ?_ | refine NumH.rem (by omega) ?_ | refine zq4 (by omega) ?_ | refine zq5 (by omega) ?_ | refine zq6 ?_ | refine Req.mk (by omega) ?_ | refine Req.mk (by dsimp only; omega) ?_ | refine Req.mk ⟨rfl, rfl, rfl, by simp [ci_length, *], rfl, by simp [okCell], by dsimp only; omega, by omega, by decide⟩ ?_ | refine Req.mk (show pendP _ _ by repeat' constructor) ?_ | (with_reducible refine brT ?_ ?_; next => assumption) | (with_reducible refine brF ?_ ?_; next => assumption) | (with_reducible refine brDT ?_ ?_; next => omega) | (with_reducible refine brDF ?_ ?_; next => omega) | (with_reducible refine brET ?_ ?_; next => omega) | (with_reducible refine brEF ?_ ?_; next => omega) | (with_reducible refine brNET ?_ ?_; next => omega) | (with_reducible refine brNEF ?_ ?_; next => omega) | with_reducible refine brNot ?_); conv => whnf)
        exact ⟨_, keepT_weak (maskOf 85 [3, 4]) _, rfl, rfl, rfl⟩
    · rintro _ _ _ ⟨rfl, rfl, rfl⟩
      have hT := ch_txt l hl8
      have hSl : (l.map ch).length ≤ 100 := by rw [List.length_map]; omega
      have hcnt : ((l.map ch ++ [120]).take (l.map ch).length).count 44 = (l.map ch).count 44 := by rw [List.take_left]
      generalize l.map ch = S at *
      have hTl : (S ++ [120]).length = S.length + 1 := by simp
      conv => whnf
      repeat' (first | (refine CallH.body seat_ok Tryd.func9 rfl rfl ?_; conv => whnf) | (refine Req.mk (by simp only [List.toList_toArray, List.length_cons, List.length_nil]; omega) ?_; conv => whnf) | ((first | refine zq1 (by omega) ?_ | refine zq2 (by omega) ?_ | refine NumH.rem (by omega) ?_ | refine zq4 (by omega) ?_ | refine zq5 (by omega) ?_ | refine zq6 ?_ | refine Req.mk (by omega) ?_ | refine Req.mk (by dsimp only; omega) ?_ | refine Req.mk ⟨rfl, rfl, rfl, by simp [ci_length, *], rfl, by simp [okCell], by dsimp only; omega, by omega, by decide⟩ ?_ | refine Req.mk (show pendP _ _ by repeat' constructor) ?_ | (with_reducible refine brT ?_ ?_; next => assumption) | (with_reducible refine brF ?_ ?_; next => assumption) | (with_reducible refine brDT ?_ ?_; next => omega) | (with_reducible refine brDF ?_ ?_; next => omega) | (with_reducible refine brET ?_ ?_; next => omega) | (with_reducible refine brEF ?_ ?_; next => omega) | (with_reducible refine brNET ?_ ?_; next => omega) | (with_reducible refine brNEF ?_ ?_; next => omega) | with_reducible refine brNot ?_); conv => whnf))
      refine Sat.cut (fun x t h => x = .exit 2 ∧ ∃ (n : Nat), (0 < S.count 44 → n = S.count 44) ∧ (S.count 44 = 0 → n = min S.length 1) ∧ gapN ((S ++ [120]).drop S.length) = 0 ∧ t = (uu :: uu :: uu :: .str S :: .int .i64 (S.count 44 : Nat) :: uu :: uu :: uu :: .ptr 0 0 :: .int .i64 (n : Nat) :: uu :: uu :: uu :: uu :: uu :: uu :: uu :: uu :: uu :: uu :: uu :: uu :: uu :: uu :: uu :: uu :: uu :: uu :: uu :: uu :: uu :: uu :: uu :: uu :: uu :: uu :: uu :: uu :: uu :: uu :: uu :: uu :: uu :: uu :: uu :: uu :: uu :: uu :: uu :: uu :: uu :: uu :: uu :: uu :: uu :: uu :: uu :: uu :: uu :: uu :: uu :: uu :: uu :: uu :: uu :: uu :: uu :: uu :: uu :: uu :: uu :: uu :: uu :: uu :: uu :: uu :: uu :: uu :: uu :: uu :: uu :: uu :: uu :: uu :: uu :: []) ∧ h = [.var (rdr (S ++ [120]) S.length) 51]) ?_ ?_
      · refine Sat.invP seat_ok seat_g (maskOf 85 [3, 4, 8, 9]) 1 (fun μ t h => ∃ (p n : Nat) (z : Int), z = n ∧ n ≤ p ∧ Jg (S ++ [120]) S.length p n ∧ μ = S.length + 1 - p ∧ t = (uu :: uu :: uu :: .str S :: .int .i64 (S.count 44 : Nat) :: uu :: uu :: uu :: .ptr 0 0 :: .int .i64 z :: uu :: uu :: uu :: uu :: uu :: uu :: uu :: uu :: uu :: uu :: uu :: uu :: uu :: uu :: uu :: uu :: uu :: uu :: uu :: uu :: uu :: uu :: uu :: uu :: uu :: uu :: uu :: uu :: uu :: uu :: uu :: uu :: uu :: uu :: uu :: uu :: uu :: uu :: uu :: uu :: uu :: uu :: uu :: uu :: uu :: uu :: uu :: uu :: uu :: uu :: uu :: uu :: uu :: uu :: uu :: uu :: uu :: uu :: uu :: uu :: uu :: uu :: uu :: uu :: uu :: uu :: uu :: uu :: uu :: uu :: uu :: uu :: uu :: uu :: uu :: []) ∧ h = [.var (rdr (S ++ [120]) p) 51])
          ?_ ⟨_, _, WeakL.of_eq rfl, 0, 0, 0, rfl, by omega, ⟨by omega, .inl ⟨rfl, rfl⟩⟩, rfl, rfl, rfl⟩ ?_
        · rintro _ _ _ ⟨p, n, z, -, -, -, -, rfl, rfl⟩
          exact ⟨rfl, (by simp [IdsL, Ids, IdsH, IdsC, lv_ids, ci_ids]), by simp [rdr, IdsH, IdsC, IdsL, Ids]⟩
        rintro _ _ _ ⟨p, n, z, hz, hnp, hJ, rfl, rfl, rfl⟩
        have hp := hJ.1
        have cg := c_gap (S ++ [120]) p (by omega) (by omega)
        by_cases gg : 0 < gapN ((S ++ [120]).drop p)
        · have hJ2 := gap_step hT hJ gg
          have hp2 := hJ2.1
          rw [decide_eq_true gg] at cg
          generalize hq : p + gapN ((S ++ [120]).drop p) = q at *
          have hpq : p < q := by omega
          clear hq gg
          unfold rdr at *
          conv => whnf
          repeat' (first | exact ⟨_, _, show S.length + 1 - q < S.length + 1 - p by omega, WeakL.of_eq rfl, q, n + 1, z + 1, by omega, by omega, hJ2, rfl, rfl, rfl⟩ | (refine CallH.mem1 seat_g 0 cg rfl (by simp [Closed, ClosedL]) (by simp [Closed, ClosedL]) (by simp [Closed, ClosedL]) rfl ?_; conv => whnf) | ((first | refine zq1 (by omega) ?_ | refine zq2 (by omega) ?_ | refine NumH.rem (by omega) ?_ | refine zq4 (by omega) ?_ | refine zq5 (by omega) ?_ | refine zq6 ?_ | refine Req.mk (by omega) ?_ | refine Req.mk (by dsimp only; omega) ?_ | refine Req.mk ⟨rfl, rfl, rfl, by simp [ci_length, *], rfl, by simp [okCell], by dsimp only; omega, by omega, by decide⟩ ?_ | refine Req.mk (show pendP _ _ by repeat' constructor) ?_ | (with_reducible refine brT ?_ ?_; next => assumption) | (with_reducible refine brF ?_ ?_; next => assumption) | (with_reducible refine brDT ?_ ?_; next => omega) | (with_reducible refine brDF ?_ ?_; next => omega) | (with_reducible refine brET ?_ ?_; next => omega) | (with_reducible refine brEF ?_ ?_; next => omega) | (with_reducible refine brNET ?_ ?_; next => omega) | (with_reducible refine brNEF ?_ ?_; next => omega) | with_reducible refine brNot ?_); conv => whnf))
        · have h0 : gapN ((S ++ [120]).drop p) = 0 := by omega
          obtain ⟨e1, e2, e3⟩ := gap_end hT hJ h0
          rw [hcnt] at e2 e3
          rw [decide_eq_false gg, h0, Nat.add_zero] at cg
          subst e1
          rw [hz]
          unfold rdr at *
          conv => whnf
          repeat' (first | exact ⟨_, keepT_weak (maskOf 85 [3, 4, 8, 9]) _, rfl, n, e2, e3, h0, rfl, rfl⟩ | (refine CallH.mem1 seat_g 0 cg rfl (by simp [Closed, ClosedL]) (by simp [Closed, ClosedL]) (by simp [Closed, ClosedL]) rfl ?_; conv => whnf) | ((first | refine zq1 (by omega) ?_ | refine zq2 (by omega) ?_ | refine NumH.rem (by omega) ?_ | refine zq4 (by omega) ?_ | refine zq5 (by omega) ?_ | refine zq6 ?_ | refine Req.mk (by omega) ?_ | refine Req.mk (by dsimp only; omega) ?_ | refine Req.mk ⟨rfl, rfl, rfl, by simp [ci_length, *], rfl, by simp [okCell], by dsimp only; omega, by omega, by decide⟩ ?_ | refine Req.mk (show pendP _ _ by repeat' constructor) ?_ | (with_reducible refine brT ?_ ?_; next => assumption) | (with_reducible refine brF ?_ ?_; next => assumption) | (with_reducible refine brDT ?_ ?_; next => omega) | (with_reducible refine brDF ?_ ?_; next => omega) | (with_reducible refine brET ?_ ?_; next => omega) | (with_reducible refine brEF ?_ ?_; next => omega) | (with_reducible refine brNET ?_ ?_; next => omega) | (with_reducible refine brNEF ?_ ?_; next => omega) | with_reducible refine brNot ?_); conv => whnf))
      · rintro _ _ _ ⟨rfl, n, e2, e3, h0, rfl, rfl⟩
        have cg := c_gap (S ++ [120]) S.length (by omega) (by omega)
        rw [h0, Nat.add_zero, show decide (0 < 0) = false from rfl] at cg
        have cp := c_peekS (S ++ [120]) S.length 120 hT.last (by omega)
        have ca := c_at (S ++ [120]) S.length
        have hA : (((S.length : Nat) : Int) == (S.length : Nat)) = true := by simp
        have hmin : (if (1 : Int) < (S.length : Nat) then (1 : Int) else (S.length : Nat)) = ((min S.length 1 : Nat) : Int) := by split <;> omega
        generalize S.count 44 = c at *
        unfold rdr at *
        by_cases hc : 0 < c
        · have hn := e2 hc
          have hc' : (c : Int) > 0 := by omega
          conv => whnf
          repeat' (first | exact congrArg (fun b => AEnd.ret (.bool b)) hA | (refine CallH.mem1 seat_g 0 cp rfl (by simp [Closed, ClosedL]) (by simp [Closed, ClosedL]) (by simp [Closed, ClosedL]) rfl ?_; conv => whnf) | (refine CallH.mem1 seat_g 0 cg rfl (by simp [Closed, ClosedL]) (by simp [Closed, ClosedL]) (by simp [Closed, ClosedL]) rfl ?_; conv => whnf) | (refine CallH.mem1 seat_g 0 ca rfl (by simp [Closed, ClosedL]) (by simp [Closed, ClosedL]) (by simp [Closed, ClosedL]) rfl ?_; conv => whnf) | ((first | refine zq1 (by omega) ?_ | refine zq2 (by omega) ?_ | refine NumH.rem (by omega) ?_ | refine zq4 (by omega) ?_ | refine zq5 (by omega) ?_ | refine zq6 ?_ | refine Req.mk (by omega) ?_ | refine Req.mk (by dsimp only; omega) ?_ | refine Req.mk ⟨rfl, rfl, rfl, by simp [ci_length, *], rfl, by simp [okCell], by dsimp only; omega, by omega, by decide⟩ ?_ | refine Req.mk (show pendP _ _ by repeat' constructor) ?_ | (with_reducible refine brT ?_ ?_; next => assumption) | (with_reducible refine brF ?_ ?_; next => assumption) | (with_reducible refine brDT ?_ ?_; next => omega) | (with_reducible refine brDF ?_ ?_; next => omega) | (with_reducible refine brET ?_ ?_; next => omega) | (with_reducible refine brEF ?_ ?_; next => omega) | (with_reducible refine brNET ?_ ?_; next => omega) | (with_reducible refine brNEF ?_ ?_; next => omega) | with_reducible refine brNot ?_); conv => whnf))
        · have hn := e3 (by omega)
          have hc' : ¬ ((c : Int) > 0) := by omega
          have hc0 : (c : Int) = 0 := by omega
          conv => whnf
          repeat' (first | exact congrArg (fun b => AEnd.ret (.bool b)) hA | (refine CallH.mem1 seat_g 0 cp rfl (by simp [Closed, ClosedL]) (by simp [Closed, ClosedL]) (by simp [Closed, ClosedL]) rfl ?_; conv => whnf) | (refine CallH.mem1 seat_g 0 cg rfl (by simp [Closed, ClosedL]) (by simp [Closed, ClosedL]) (by simp [Closed, ClosedL]) rfl ?_; conv => whnf) | (refine CallH.mem1 seat_g 0 ca rfl (by simp [Closed, ClosedL]) (by simp [Closed, ClosedL]) (by simp [Closed, ClosedL]) rfl ?_; conv => whnf) | (refine brF (by rw [hmin, ← hn]; simp) ?_; conv => whnf) | ((first | refine zq1 (by omega) ?_ | refine zq2 (by omega) ?_ | refine NumH.rem (by omega) ?_ | refine zq4 (by omega) ?_ | refine zq5 (by omega) ?_ | refine zq6 ?_ | refine Req.mk (by omega) ?_ | refine Req.mk (by dsimp only; omega) ?_ | refine Req.mk ⟨rfl, rfl, rfl, by simp [ci_length, *], rfl, by simp [okCell], by dsimp only; omega, by omega, by decide⟩ ?_ | refine Req.mk (show pendP _ _ by repeat' constructor) ?_ | (with_reducible refine brT ?_ ?_; next => assumption) | (with_reducible refine brF ?_ ?_; next => assumption) | (with_reducible refine brDT ?_ ?_; next => omega) | (with_reducible refine brDF ?_ ?_; next => omega) | (with_reducible refine brET ?_ ?_; next => omega) | (with_reducible refine brEF ?_ ?_; next => omega) | (with_reducible refine brNET ?_ ?_; next => omega) | (with_reducible refine brNEF ?_ ?_; next => omega) | with_reducible refine brNot ?_); conv => whnf))
  · have g2' : (l.length : Int) > 100 := by omega
    conv => whnf
    refine CallH.lift seat_g c_wakes trivial (by simp [Closed]) ?_
    conv => whnf
    repeat' ((first | refine zq1 (by omega) ?_ | refine zq2 (by omega) ?_ | refine NumH.rem (by omega) ?_ | refine zq4 (by omega) ?_ | refine zq5 (by omega) ?_ | refine zq6 ?_ | refine Req.mk (by omega) ?_ | refine Req.mk (by dsimp only; omega) ?_ | refine Req.mk ⟨rfl, rfl, rfl, by simp [ci_length, *], rfl, by simp [okCell], by dsimp only; omega, by omega, by decide⟩ ?_ | refine Req.mk (show pendP _ _ by repeat' constructor) ?_ | (with_reducible refine brT ?_ ?_; next => assumption) | (with_reducible refine brF ?_ ?_; next => assumption) | (with_reducible refine brDT ?_ ?_; next => omega) | (with_reducible refine brDF ?_ ?_; next => omega) | (with_reducible refine brET ?_ ?_; next => omega) | (with_reducible refine brEF ?_ ?_; next => omega) | (with_reducible refine brNET ?_ ?_; next => omega) | (with_reducible refine brNEF ?_ ?_; next => omega) | with_reducible refine brNot ?_); conv => whnf)
    rfl
end Go.Proofs.YtelgbnjagbleoaaDoor
