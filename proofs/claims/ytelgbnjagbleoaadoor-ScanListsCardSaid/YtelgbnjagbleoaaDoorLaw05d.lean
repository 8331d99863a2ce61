/- The law ScanLists answers true. No condition. -/
import Derived.Test.YtelgbnjagbleoaaDoorLaw05a
import Derived.Test.YtelgbnjagbleoaaDoorListsL
import Derived.Test.YtelgbnjagbleoaaDoorPrintW
set_option linter.unusedSimpArgs false
set_option linter.unusedVariables false
set_option linter.deprecated false
namespace Go.Proofs.YtelgbnjagbleoaaDoor
open Go.Abs
theorem gstr_ld {a : Int} (h : 0 ≤ a) : sub [AV.str [32], .str [44], .str [32, 44, 32], .str [9]] ((a % 4).toNat * 1) 1 = some [.str (gstr a)] := by
  rcases gstr_cases h with ⟨h4, e⟩ | ⟨h4, e⟩ | ⟨h4, e⟩ | ⟨h4, e⟩ <;> rw [h4, e] <;> rfl
set_option maxRecDepth 20000 in
set_option maxHeartbeats 2000000 in
theorem l_scanLists (l gp : List Int) (hl8 : ∀ a ∈ l, -2147483648 ≤ a ∧ a ≤ 2147483647) (hg8 : ∀ a ∈ gp, 0 ≤ a ∧ a < 256) : ACalls seat 3 [.vec (ci .i32 l) l.length none, u8v gp] [] (fun x _ => x = .ret (.bool true)) := by
  refine ACalls.body seat_ok Tryd.func3 rfl rfl ?_
  unfold u8v
  by_cases g1 : l.length ≤ 30
  · by_cases g2 : gp.length = 0
    · have g1' : ¬ ((l.length : Int) > 30) := by omega
      have g2' : (gp.length : Int) = 0 := by omega
      conv => whnf
      refine CallH.lift seat_g c_wakes trivial (by simp [Closed]) ?_
      conv => whnf
      repeat' ((first | refine zq1 (by omega) ?_ | refine zq2 (by omega) ?_ | refine NumH.rem (by omega) ?_ | refine zq4 (by omega) ?_ | refine zq5 (by omega) ?_ | refine zq6 ?_ | refine Req.mk (by omega) ?_ | refine Req.mk (by dsimp only; omega) ?_ | refine Req.mk ⟨rfl, rfl, rfl, by simp [ci_length, *], rfl, by simp [okCell], by dsimp only; omega, by omega, by decide⟩ ?_ | refine Req.mk (show pendP _ _ by repeat' constructor) ?_ | (with_reducible refine brT ?_ ?_; next => assumption) | (with_reducible refine brF ?_ ?_; next => assumption) | (with_reducible refine brDT ?_ ?_; next => omega) | (with_reducible refine brDF ?_ ?_; next => omega) | (with_reducible refine brET ?_ ?_; next => omega) | (with_reducible refine brEF ?_ ?_; next => omega) | (with_reducible refine brNET ?_ ?_; next => omega) | (with_reducible refine brNEF ?_ ?_; next => omega) | with_reducible refine brNot ?_); conv => whnf)
      rfl
    · by_cases g3 : gp.length ≤ 30
      · have g1' : ¬ ((l.length : Int) > 30) := by omega
        have g2' : (gp.length : Int) ≠ 0 := by omega
        have g3' : ¬ ((gp.length : Int) > 30) := by omega
        have hl9 : ∀ a ∈ l, -4294967296 < a ∧ a < 4294967296 := fun a h => by have := hl8 a h; omega
        have hg9 : ∀ a ∈ gp, 0 ≤ a := fun a h => (hg8 a h).1
        have hbl := bT_len l gp hl9 hg9
        conv => whnf
        refine CallH.lift seat_g c_wakes trivial (by simp [Closed]) ?_
        conv => whnf
        repeat' ((first | refine zq1 (by omega) ?_ | refine zq2 (by omega) ?_ | refine NumH.rem (by omega) ?_ | refine zq4 (by omega) ?_ | refine zq5 (by omega) ?_ | refine zq6 ?_ | refine Req.mk (by omega) ?_ | refine Req.mk (by dsimp only; omega) ?_ | refine Req.mk ⟨rfl, rfl, rfl, by simp [ci_length, *], rfl, by simp [okCell], by dsimp only; omega, by omega, by decide⟩ ?_ | refine Req.mk (show pendP _ _ by repeat' constructor) ?_ | (with_reducible refine brT ?_ ?_; next => assumption) | (with_reducible refine brF ?_ ?_; next => assumption) | (with_reducible refine brDT ?_ ?_; next => omega) | (with_reducible refine brDF ?_ ?_; next => omega) | (with_reducible refine brET ?_ ?_; next => omega) | (with_reducible refine brEF ?_ ?_; next => omega) | (with_reducible refine brNET ?_ ?_; next => omega) | (with_reducible refine brNEF ?_ ?_; next => omega) | with_reducible refine brNot ?_); conv => whnf)
        refine Sat.cut (fun x t h => x = .exit 0 ∧ t = (.vec (ci .i32 l) l.length none :: uu :: uu :: uu :: uu :: .str (bT l gp l.length) :: uu :: uu :: uu :: uu :: uu :: uu :: uu :: uu :: uu :: uu :: uu :: uu :: uu :: uu :: uu :: uu :: uu :: uu :: uu :: uu :: uu :: uu :: uu :: uu :: uu :: uu :: uu :: uu :: uu :: uu :: uu :: uu :: uu :: uu :: uu :: uu :: uu :: uu :: uu :: uu :: uu :: uu :: uu :: uu :: uu :: uu :: uu :: uu :: uu :: uu :: uu :: uu :: uu :: uu :: uu :: uu :: uu :: uu :: uu :: uu :: uu :: uu :: uu :: uu :: uu :: uu :: uu :: uu :: uu :: uu :: uu :: uu :: uu :: uu :: uu :: uu :: uu :: uu :: uu :: uu :: uu :: uu :: uu :: uu :: uu :: []) ∧ h = []) ?_ ?_
        · refine Sat.invP seat_ok seat_g (maskOf 91 [0, 1, 5, 28, 29, 30]) 0 (fun μ t h => ∃ (i : Nat) (z : Int), z = i ∧ i ≤ l.length ∧ μ = l.length - i ∧ t = (.vec (ci .i32 l) l.length none :: .vec (ci .u8 gp) gp.length none :: uu :: uu :: uu :: .str (bT l gp i) :: uu :: uu :: uu :: uu :: uu :: uu :: uu :: uu :: uu :: uu :: uu :: uu :: uu :: uu :: uu :: uu :: uu :: uu :: uu :: uu :: uu :: uu :: .vec (ci .i32 l) l.length none :: .int .i64 l.length :: .int .i64 z :: uu :: uu :: uu :: uu :: uu :: uu :: uu :: uu :: uu :: uu :: uu :: uu :: uu :: uu :: uu :: uu :: uu :: uu :: uu :: uu :: uu :: uu :: uu :: uu :: uu :: uu :: uu :: uu :: uu :: uu :: uu :: uu :: uu :: uu :: uu :: uu :: uu :: uu :: uu :: uu :: uu :: uu :: uu :: uu :: uu :: uu :: uu :: uu :: uu :: uu :: uu :: uu :: uu :: uu :: uu :: uu :: uu :: uu :: uu :: uu :: []) ∧ h = [])
            ?_ ⟨_, _, WeakL.of_eq rfl, 0, 0, rfl, by omega, rfl, rfl, rfl⟩ ?_
          · rintro _ _ _ ⟨i, z, -, -, -, rfl, rfl⟩
            exact ⟨rfl, (by simp [IdsL, Ids, IdsH, IdsC, lv_ids, ci_ids]), (by simp [IdsL, Ids, IdsH, IdsC, lv_ids, ci_ids])⟩
          rintro _ _ _ ⟨i, z, hz, hi, rfl, rfl, rfl⟩
          by_cases g : i < l.length
          · obtain ⟨n, hn⟩ : ∃ n, l[z.toNat]? = some n := ⟨_, List.getElem?_eq_getElem (by omega)⟩
            have hnb := hl8 n (List.mem_of_getElem? hn)
            have gz : z < l.length := by omega
            have hld := ci_sub .i32 hn
            have hit : itm l i = n := by unfold itm; rw [show i = z.toNat by omega, hn]; rfl
            have cp := c_rprint n (show I64 n by unfold I64; omega)
            have hpl := prD_len (n := n) (by omega)
            have hbi := hbl i
            by_cases hi0 : 0 < i
            · have hL : (0 : Int) < gp.length := by omega
              have hm0 := Int.emod_nonneg z (b := (gp.length : Int)) (by omega)
              have hm1 := Int.emod_lt_of_pos z hL
              obtain ⟨a, ha⟩ : ∃ a, gp[(z % (gp.length : Int)).toNat]? = some a := ⟨_, List.getElem?_eq_getElem (by omega)⟩
              have hmn : (z % (gp.length : Int)).toNat = i % gp.length := by rw [hz, ← Int.natCast_emod, Int.toNat_natCast]
              have hab := hg8 a (List.mem_of_getElem? ha)
              have hld2 := ci_sub .u8 ha
              have hst := gstr_ld hab.1
              have hgl : (gstr a).length ≤ 3 := by rcases gstr_cases hab.1 with ⟨-, e⟩ | ⟨-, e⟩ | ⟨-, e⟩ | ⟨-, e⟩ <;> rw [e] <;> decide
              have hbt : bT l gp (i + 1) = (bT l gp i ++ gstr a) ++ prD n := by
                rw [bT, pc, hit, gapI, if_pos hi0, ← hmn, ha, ← List.append_assoc]; rfl
              have gz0 : z > 0 := by omega
              clear hbl
              conv => whnf
              repeat' (first | exact ⟨_, _, Nat.sub_lt_sub_left g (Nat.lt_succ_self i), WeakL.of_eq rfl, i + 1, z + 1, by omega, by omega, rfl, by rw [hbt]; rfl, rfl⟩ | (refine ldI _ hld ?_; conv => whnf) | (refine ldI _ hld2 ?_; conv => whnf) | (refine ldI _ hst ?_; conv => whnf) | (refine CallH.lift seat_g cp (by simp [Closed, ClosedL]) (by simp [Closed]) ?_; conv => whnf) | (refine Req.mk (by simp only [List.length_append]; omega) ?_; conv => whnf) | ((first | refine zq1 (by omega) ?_ | refine zq2 (by omega) ?_ | refine NumH.rem (by omega) ?_ | refine zq4 (by omega) ?_ | refine zq5 (by omega) ?_ | refine zq6 ?_ | refine Req.mk (by omega) ?_ | refine Req.mk (by dsimp only; omega) ?_ | refine Req.mk ⟨rfl, rfl, rfl, by simp [ci_length, *], rfl, by simp [okCell], by dsimp only; omega, by omega, by decide⟩ ?_ | refine Req.mk (show pendP _ _ by repeat' constructor) ?_ | (with_reducible refine brT ?_ ?_; next => assumption) | (with_reducible refine brF ?_ ?_; next => assumption) | (with_reducible refine brDT ?_ ?_; next => omega) | (with_reducible refine brDF ?_ ?_; next => omega) | (with_reducible refine brET ?_ ?_; next => omega) | (with_reducible refine brEF ?_ ?_; next => omega) | (with_reducible refine brNET ?_ ?_; next => omega) | (with_reducible refine brNEF ?_ ?_; next => omega) | with_reducible refine brNot ?_); conv => whnf))
            · have hbt : bT l gp (i + 1) = bT l gp i ++ prD n := by
                rw [bT, pc, hit, gapI, if_neg hi0]; rfl
              have gz0 : ¬ (z > 0) := by omega
              clear hbl
              conv => whnf
              repeat' (first | exact ⟨_, _, Nat.sub_lt_sub_left g (Nat.lt_succ_self i), WeakL.of_eq rfl, i + 1, z + 1, by omega, by omega, rfl, by rw [hbt]; rfl, rfl⟩ | (refine ldI _ hld ?_; conv => whnf) | (refine CallH.lift seat_g cp (by simp [Closed, ClosedL]) (by simp [Closed]) ?_; conv => whnf) | (refine Req.mk (by simp only [List.length_append]; omega) ?_; conv => whnf) | ((first | refine zq1 (by omega) ?_ | refine zq2 (by omega) ?_ | refine NumH.rem (by omega) ?_ | refine zq4 (by omega) ?_ | refine zq5 (by omega) ?_ | refine zq6 ?_ | refine Req.mk (by omega) ?_ | refine Req.mk (by dsimp only; omega) ?_ | refine Req.mk ⟨rfl, rfl, rfl, by simp [ci_length, *], rfl, by simp [okCell], by dsimp only; omega, by omega, by decide⟩ ?_ | refine Req.mk (show pendP _ _ by repeat' constructor) ?_ | (with_reducible refine brT ?_ ?_; next => assumption) | (with_reducible refine brF ?_ ?_; next => assumption) | (with_reducible refine brDT ?_ ?_; next => omega) | (with_reducible refine brDF ?_ ?_; next => omega) | (with_reducible refine brET ?_ ?_; next => omega) | (with_reducible refine brEF ?_ ?_; next => omega) | (with_reducible refine brNET ?_ ?_; next => omega) | (with_reducible refine brNEF ?_ ?_; next => omega) | with_reducible refine brNot ?_); conv => whnf))
          · obtain rfl : i = l.length := by omega
            have gz : ¬ (z < l.length) := by omega
            conv => whnf
            repeat' ((first | refine zq1 (by omega) ?_ | refine zq2 (by omega) ?_ | refine NumH.rem (by omega) ?_ | refine zq4 (by omega) ?_ | refine zq5 (by omega) ?_ | refine zq6 ?_ | refine Req.mk (by omega) ?_ | refine Req.mk (by dsimp only; omega) ?_ | refine Req.mk ⟨rfl, rfl, rfl, by simp [ci_length, *], rfl, by simp [okCell], by dsimp only; omega, by omega, by decide⟩ ?_ | refine Req.mk (show pendP _ _ by repeat' constructor) ?_ | (with_reducible refine brT ?_ ?_; next => assumption) | (with_reducible refine brF ?_ ?_; next => assumption) | (with_reducible refine brDT ?_ ?_; next => omega) | (with_reducible refine brDF ?_ ?_; next => omega) | (with_reducible refine brET ?_ ?_; next => omega) | (with_reducible refine brEF ?_ ?_; next => omega) | (with_reducible refine brNET ?_ ?_; next => omega) | (with_reducible refine brNEF ?_ ?_; next => omega) | with_reducible refine brNot ?_); conv => whnf)
            exact ⟨_, keepT_weak (maskOf 91 [0, 5]) _, rfl, rfl, rfl⟩
        · rintro _ _ _ ⟨rfl, rfl, rfl⟩
          obtain ⟨T, hT⟩ : ∃ T, T = bT l gp l.length := ⟨_, rfl⟩
          have hTl : T.length ≤ 1200 := by rw [hT]; have := hbl l.length; omega
          rw [← hT]
          conv => whnf
          repeat' (first | (refine CallH.body seat_ok Tryd.func9 rfl rfl ?_; conv => whnf) | ((first | refine zq1 (by omega) ?_ | refine zq2 (by omega) ?_ | refine NumH.rem (by omega) ?_ | refine zq4 (by omega) ?_ | refine zq5 (by omega) ?_ | refine zq6 ?_ | refine Req.mk (by omega) ?_ | refine Req.mk (by dsimp only; omega) ?_ | refine Req.mk ⟨rfl, rfl, rfl, by simp [ci_length, *], rfl, by simp [okCell], by dsimp only; omega, by omega, by decide⟩ ?_ | refine Req.mk (show pendP _ _ by repeat' constructor) ?_ | (with_reducible refine brT ?_ ?_; next => assumption) | (with_reducible refine brF ?_ ?_; next => assumption) | (with_reducible refine brDT ?_ ?_; next => omega) | (with_reducible refine brDF ?_ ?_; next => omega) | (with_reducible refine brET ?_ ?_; next => omega) | (with_reducible refine brEF ?_ ?_; next => omega) | (with_reducible refine brNET ?_ ?_; next => omega) | (with_reducible refine brNEF ?_ ?_; next => omega) | with_reducible refine brNot ?_); conv => whnf))
          refine Sat.cut (fun x t h => x = .exit 2 ∧ t = (uu :: uu :: uu :: uu :: uu :: uu :: uu :: uu :: .ptr 0 0 :: uu :: uu :: uu :: uu :: uu :: uu :: uu :: uu :: uu :: uu :: uu :: uu :: uu :: uu :: uu :: uu :: uu :: uu :: uu :: uu :: uu :: uu :: uu :: uu :: uu :: uu :: uu :: uu :: uu :: uu :: uu :: uu :: uu :: uu :: uu :: uu :: uu :: uu :: uu :: uu :: uu :: uu :: uu :: uu :: uu :: uu :: uu :: uu :: uu :: uu :: uu :: uu :: uu :: uu :: uu :: uu :: uu :: uu :: uu :: uu :: uu :: uu :: uu :: uu :: uu :: uu :: uu :: uu :: uu :: uu :: uu :: uu :: uu :: uu :: uu :: uu :: uu :: uu :: uu :: uu :: uu :: uu :: []) ∧ h = [.var (rdr T T.length) 51]) ?_ ?_
          · refine Sat.invP seat_ok seat_g (maskOf 91 [8, 60, 61, 62]) 1 (fun μ t h => ∃ (i p : Nat) (z : Int), z = i ∧ i ≤ l.length ∧ p = (bT l gp i).length ∧ p ≤ T.length ∧ μ = l.length - i ∧ t = (uu :: uu :: uu :: uu :: uu :: uu :: uu :: uu :: .ptr 0 0 :: uu :: uu :: uu :: uu :: uu :: uu :: uu :: uu :: uu :: uu :: uu :: uu :: uu :: uu :: uu :: uu :: uu :: uu :: uu :: uu :: uu :: uu :: uu :: uu :: uu :: uu :: uu :: uu :: uu :: uu :: uu :: uu :: uu :: uu :: uu :: uu :: uu :: uu :: uu :: uu :: uu :: uu :: uu :: uu :: uu :: uu :: uu :: uu :: uu :: uu :: uu :: .vec (ci .i32 l) l.length none :: .int .i64 l.length :: .int .i64 z :: uu :: uu :: uu :: uu :: uu :: uu :: uu :: uu :: uu :: uu :: uu :: uu :: uu :: uu :: uu :: uu :: uu :: uu :: uu :: uu :: uu :: uu :: uu :: uu :: uu :: uu :: uu :: uu :: []) ∧ h = [.var (rdr T p) 51])
              ?_ ⟨_, _, WeakL.of_eq rfl, 0, 0, 0, rfl, by omega, rfl, by omega, rfl, rfl, rfl⟩ ?_
            · rintro _ _ _ ⟨i, p, z, -, -, -, -, -, rfl, rfl⟩
              exact ⟨rfl, (by simp [IdsL, Ids, IdsH, IdsC, lv_ids, ci_ids]), by simp [rdr, IdsH, IdsC, IdsL, Ids]⟩
            rintro _ _ _ ⟨i, p, z, hz, hi, hpp, hp, rfl, rfl, rfl⟩
            by_cases g : i < l.length
            · obtain ⟨n, hn⟩ : ∃ n, l[z.toNat]? = some n := ⟨_, List.getElem?_eq_getElem (by omega)⟩
              have hnb := hl8 n (List.mem_of_getElem? hn)
              have gz : z < l.length := by omega
              have hld := ci_sub .i32 hn
              have hit : itm l i = n := by unfold itm; rw [show i = z.toNat by omega, hn]; rfl
              have hdr : T.drop p = gapI gp i ++ (prD n ++ rF l gp (l.length - (i + 1)) (i + 1)) := by
                rw [hT, hpp, bT_drop l gp hi, show l.length - i = (l.length - (i + 1)) + 1 by omega, rF, pc, hit, List.append_assoc]
              have hkd := kd_rF l gp hg9 (l.length - (i + 1)) (i + 1) (by omega)
              have hdl := congrArg List.length hdr
              rw [List.length_drop, List.length_append, List.length_append] at hdl
              have hb1 : (bT l gp (i + 1)).length = p + (gapI gp i).length + (prD n).length := by
                rw [bT, pc, hit, List.length_append, List.length_append, ← hpp]; omega
              have hdr2 : T.drop (p + (gapI gp i).length) = prD n ++ rF l gp (l.length - (i + 1)) (i + 1) := by
                rw [← List.drop_drop, hdr, List.drop_left]
              have cn := num_pr T (p + (gapI gp i).length) n _ hdr2 hkd (by omega) (by omega) (by omega)
              by_cases hi0 : 0 < i
              · have hga : 0 ≤ gp[i % gp.length]?.getD 0 := by
                  cases h : gp[i % gp.length]? with
                  | none => simp
                  | some a => exact hg9 a (List.mem_of_getElem? h)
                have hgi : gapI gp i = gstr (gp[i % gp.length]?.getD 0) := if_pos hi0
                obtain ⟨hgap, hgp⟩ := gap_str hga (begN_pr n (rF l gp (l.length - (i + 1)) (i + 1)))
                rw [← hgi] at hgap hgp
                have cg := c_gap T p hp (by omega)
                rw [hdr, hgap, decide_eq_true hgp] at cg
                have gz0 : z > 0 := by omega
                have hq2 : p + (gapI gp i).length + (prD n).length ≤ T.length := by omega
                generalize hq : p + (gapI gp i).length + (prD n).length = q at *
                generalize p + (gapI gp i).length = p2 at *
                clear hdr hdr2 hbl
                unfold rdr at *
                conv => whnf
                repeat' (first | exact ⟨_, _, Nat.sub_lt_sub_left g (Nat.lt_succ_self i), WeakL.of_eq rfl, i + 1, q, z + 1, by omega, by omega, hb1.symm, hq2, rfl, rfl, rfl⟩ | (refine ldI _ hld ?_; conv => whnf) | (refine CallH.mem1 seat_g 0 cg rfl (by simp [Closed, ClosedL]) (by simp [Closed, ClosedL]) (by simp [Closed, ClosedL]) rfl ?_; conv => whnf) | (refine CallH.mem1 seat_g 0 cn rfl (by simp [Closed, ClosedL]) (by simp [Closed, ClosedL]) (by simp [Closed, ClosedL]) rfl ?_; conv => whnf) | ((first | refine zq1 (by omega) ?_ | refine zq2 (by omega) ?_ | refine NumH.rem (by omega) ?_ | refine zq4 (by omega) ?_ | refine zq5 (by omega) ?_ | refine zq6 ?_ | refine Req.mk (by omega) ?_ | refine Req.mk (by dsimp only; omega) ?_ | refine Req.mk ⟨rfl, rfl, rfl, by simp [ci_length, *], rfl, by simp [okCell], by dsimp only; omega, by omega, by decide⟩ ?_ | refine Req.mk (show pendP _ _ by repeat' constructor) ?_ | (with_reducible refine brT ?_ ?_; next => assumption) | (with_reducible refine brF ?_ ?_; next => assumption) | (with_reducible refine brDT ?_ ?_; next => omega) | (with_reducible refine brDF ?_ ?_; next => omega) | (with_reducible refine brET ?_ ?_; next => omega) | (with_reducible refine brEF ?_ ?_; next => omega) | (with_reducible refine brNET ?_ ?_; next => omega) | (with_reducible refine brNEF ?_ ?_; next => omega) | with_reducible refine brNot ?_); conv => whnf))
              · have hgi : gapI gp i = [] := if_neg hi0
                rw [hgi, List.length_nil, Nat.add_zero] at hb1 cn
                have gz0 : ¬ (z > 0) := by omega
                rw [hgi, List.length_nil] at hdl
                generalize hq : p + (prD n).length = q at *
                have hq2 : q ≤ T.length := by omega
                clear hdr hdr2 hbl
                unfold rdr at *
                conv => whnf
                repeat' (first | exact ⟨_, _, Nat.sub_lt_sub_left g (Nat.lt_succ_self i), WeakL.of_eq rfl, i + 1, q, z + 1, by omega, by omega, hb1.symm, hq2, rfl, rfl, rfl⟩ | (refine ldI _ hld ?_; conv => whnf) | (refine CallH.mem1 seat_g 0 cn rfl (by simp [Closed, ClosedL]) (by simp [Closed, ClosedL]) (by simp [Closed, ClosedL]) rfl ?_; conv => whnf) | ((first | refine zq1 (by omega) ?_ | refine zq2 (by omega) ?_ | refine NumH.rem (by omega) ?_ | refine zq4 (by omega) ?_ | refine zq5 (by omega) ?_ | refine zq6 ?_ | refine Req.mk (by omega) ?_ | refine Req.mk (by dsimp only; omega) ?_ | refine Req.mk ⟨rfl, rfl, rfl, by simp [ci_length, *], rfl, by simp [okCell], by dsimp only; omega, by omega, by decide⟩ ?_ | refine Req.mk (show pendP _ _ by repeat' constructor) ?_ | (with_reducible refine brT ?_ ?_; next => assumption) | (with_reducible refine brF ?_ ?_; next => assumption) | (with_reducible refine brDT ?_ ?_; next => omega) | (with_reducible refine brDF ?_ ?_; next => omega) | (with_reducible refine brET ?_ ?_; next => omega) | (with_reducible refine brEF ?_ ?_; next => omega) | (with_reducible refine brNET ?_ ?_; next => omega) | (with_reducible refine brNEF ?_ ?_; next => omega) | with_reducible refine brNot ?_); conv => whnf))
            · obtain rfl : i = l.length := by omega
              have gz : ¬ (z < l.length) := by omega
              have hpT : p = T.length := by rw [hpp, hT]
              subst hpT
              conv => whnf
              repeat' ((first | refine zq1 (by omega) ?_ | refine zq2 (by omega) ?_ | refine NumH.rem (by omega) ?_ | refine zq4 (by omega) ?_ | refine zq5 (by omega) ?_ | refine zq6 ?_ | refine Req.mk (by omega) ?_ | refine Req.mk (by dsimp only; omega) ?_ | refine Req.mk ⟨rfl, rfl, rfl, by simp [ci_length, *], rfl, by simp [okCell], by dsimp only; omega, by omega, by decide⟩ ?_ | refine Req.mk (show pendP _ _ by repeat' constructor) ?_ | (with_reducible refine brT ?_ ?_; next => assumption) | (with_reducible refine brF ?_ ?_; next => assumption) | (with_reducible refine brDT ?_ ?_; next => omega) | (with_reducible refine brDF ?_ ?_; next => omega) | (with_reducible refine brET ?_ ?_; next => omega) | (with_reducible refine brEF ?_ ?_; next => omega) | (with_reducible refine brNET ?_ ?_; next => omega) | (with_reducible refine brNEF ?_ ?_; next => omega) | with_reducible refine brNot ?_); conv => whnf)
              exact ⟨_, keepT_weak (maskOf 91 [8]) _, rfl, rfl, rfl⟩
          · rintro _ _ _ ⟨rfl, rfl, rfl⟩
            have cl := c_left T T.length (by omega) (Nat.le_refl _)
            have hA : (((T.length : Int) - (T.length : Nat)) == 0) = true := by simp
            unfold rdr at *
            conv => whnf
            repeat' (first | exact congrArg (fun b => AEnd.ret (.bool b)) hA | (refine CallH.mem1 seat_g 0 cl rfl (by simp [Closed, ClosedL]) (by simp [Closed, ClosedL]) (by simp [Closed, ClosedL]) rfl ?_; conv => whnf) | ((first | refine zq1 (by omega) ?_ | refine zq2 (by omega) ?_ | refine NumH.rem (by omega) ?_ | refine zq4 (by omega) ?_ | refine zq5 (by omega) ?_ | refine zq6 ?_ | refine Req.mk (by omega) ?_ | refine Req.mk (by dsimp only; omega) ?_ | refine Req.mk ⟨rfl, rfl, rfl, by simp [ci_length, *], rfl, by simp [okCell], by dsimp only; omega, by omega, by decide⟩ ?_ | refine Req.mk (show pendP _ _ by repeat' constructor) ?_ | (with_reducible refine brT ?_ ?_; next => assumption) | (with_reducible refine brF ?_ ?_; next => assumption) | (with_reducible refine brDT ?_ ?_; next => omega) | (with_reducible refine brDF ?_ ?_; next => omega) | (with_reducible refine brET ?_ ?_; next => omega) | (with_reducible refine brEF ?_ ?_; next => omega) | (with_reducible refine brNET ?_ ?_; next => omega) | (with_reducible refine brNEF ?_ ?_; next => omega) | with_reducible refine brNot ?_); conv => whnf))
      · have g1' : ¬ ((l.length : Int) > 30) := by omega
        have g2' : (gp.length : Int) ≠ 0 := by omega
        have g3' : (gp.length : Int) > 30 := by omega
        conv => whnf
        refine CallH.lift seat_g c_wakes trivial (by simp [Closed]) ?_
        conv => whnf
        repeat' ((first | refine zq1 (by omega) ?_ | refine zq2 (by omega) ?_ | refine NumH.rem (by omega) ?_ | refine zq4 (by omega) ?_ | refine zq5 (by omega) ?_ | refine zq6 ?_ | refine Req.mk (by omega) ?_ | refine Req.mk (by dsimp only; omega) ?_ | refine Req.mk ⟨rfl, rfl, rfl, by simp [ci_length, *], rfl, by simp [okCell], by dsimp only; omega, by omega, by decide⟩ ?_ | refine Req.mk (show pendP _ _ by repeat' constructor) ?_ | (with_reducible refine brT ?_ ?_; next => assumption) | (with_reducible refine brF ?_ ?_; next => assumption) | (with_reducible refine brDT ?_ ?_; next => omega) | (with_reducible refine brDF ?_ ?_; next => omega) | (with_reducible refine brET ?_ ?_; next => omega) | (with_reducible refine brEF ?_ ?_; next => omega) | (with_reducible refine brNET ?_ ?_; next => omega) | (with_reducible refine brNEF ?_ ?_; next => omega) | with_reducible refine brNot ?_); conv => whnf)
        rfl
  · have g1' : (l.length : Int) > 30 := by omega
    conv => whnf
    refine CallH.lift seat_g c_wakes trivial (by simp [Closed]) ?_
    conv => whnf
    repeat' ((first | refine zq1 (by omega) ?_ | refine zq2 (by omega) ?_ | refine NumH.rem (by omega) ?_ | refine zq4 (by omega) ?_ | refine zq5 (by omega) ?_ | refine zq6 ?_ | refine Req.mk (by omega) ?_ | refine Req.mk (by dsimp only; omega) ?_ | refine Req.mk ⟨rfl, rfl, rfl, by simp [ci_length, *], rfl, by simp [okCell], by dsimp only; omega, by omega, by decide⟩ ?_ | refine Req.mk (show pendP _ _ by repeat' constructor) ?_ | (with_reducible refine brT ?_ ?_; next => assumption) | (with_reducible refine brF ?_ ?_; next => assumption) | (with_reducible refine brDT ?_ ?_; next => omega) | (with_reducible refine brDF ?_ ?_; next => omega) | (with_reducible refine brET ?_ ?_; next => omega) | (with_reducible refine brEF ?_ ?_; next => omega) | (with_reducible refine brNET ?_ ?_; next => omega) | (with_reducible refine brNEF ?_ ?_; next => omega) | with_reducible refine brNot ?_); conv => whnf)
    rfl
end Go.Proofs.YtelgbnjagbleoaaDoor
