/- Definitions and lemmas for the law, part 8. No condition beyond those in each statement. -/
import Derived.Test.YtjpaapkdbohgeaaDoorL7
set_option linter.unusedSimpArgs false
set_option linter.unusedVariables false
set_option linter.deprecated false
namespace Go.Proofs.YtjpaapkdbohgeaaDoor
open Go.Abs
theorem rdStep_dig {r : RS} (b : UInt8) (h : ∀ x ∈ r.ds, 0 ≤ x ∧ x ≤ 9) : ∀ x ∈ (rdStep r b).ds, 0 ≤ x ∧ x ≤ 9 := by
  unfold rdStep
  split
  · rename_i hk
    intro x hx
    have hc := kindN_cases b.toNat
    simp only [dsF] at hx
    split at hx
    · rcases List.mem_append.1 hx with hx | hx
      · exact h x hx
      · simp only [List.mem_singleton] at hx; omega
    · exact h x hx
  · split
    · exact h
    · split <;> exact h
theorem rdM_dig (M : List UInt8) : ∀ x ∈ (rdM M).ds, 0 ≤ x ∧ x ≤ 9 := by
  have : ∀ (l : List UInt8) (r : RS), (∀ x ∈ r.ds, 0 ≤ x ∧ x ≤ 9) → ∀ x ∈ (l.foldl rdStep r).ds, 0 ≤ x ∧ x ≤ 9 := by
    intro l
    induction l with
    | nil => intro r h; exact h
    | cons b l ih => intro r h; exact ih _ (rdStep_dig b h)
  exact this M _ (by simp)
theorem stripL_mem {l : List Int} {x : Int} (h : x ∈ stripL l) : x ∈ l := by
  unfold stripL at h
  rw [List.mem_reverse] at h
  have := (List.dropWhile_sublist _).subset h
  simpa using this
theorem stripL_len (l : List Int) : (stripL l).length ≤ l.length := by
  unfold stripL
  rw [List.length_reverse]
  have := (List.dropWhile_sublist (fun x : Int => x == 0) (l := l.reverse)).length_le
  simpa using this
theorem c_dparseE (s : List UInt8) (hl : s.length ≤ 1000000) (h : ¬ (endsT (dfa true 0 s).2 = true ∧ (dfa true 0 s).1 = s.length)) : ACalls seat 78 [.str s] [] (fun x _ => x = .ret (.tup [.int .i64 0, .int .i64 3])) := by
  refine ACalls.body seat_ok Tryd.func78 rfl rfl ?_
  have c := c_dscan s 0 true (by omega)
  rw [if_neg (by omega)] at c
  have hle := (dfa_le true s 0 (by omega)).1
  simp only [Int.toNat_zero, List.drop_zero, Int.zero_add] at c
  generalize (dfa true 0 s).1 = n at *
  generalize endsT (dfa true 0 s).2 = f at *
  cases f with
  | false =>
    conv => whnf
    refine CallH.lift seat_g c (by simp [Closed, ClosedL]) (by simp [Closed, ClosedL]) ?_
    conv => whnf
    repeat' ((first | refine zq1 (by omega) ?_ | refine zq2 (by omega) ?_ | refine NumH.rem (by omega) ?_ | refine zq4 (by omega) ?_ | refine zq5 (by omega) ?_ | refine zq6 ?_ | refine Req.mk (by omega) ?_ | refine Req.mk (by dsimp only; omega) ?_ | refine Req.mk (show pendP _ _ by repeat' constructor) ?_ | (with_reducible first | refine brT (by assumption) ?_ | refine brF (by assumption) ?_ | refine brDT (by omega) ?_ | refine brDF (by omega) ?_ | refine brET (by omega) ?_ | refine brEF (by omega) ?_ | refine brNET (by omega) ?_ | refine brNEF (by omega) ?_ | refine brNot ?_)); conv => whnf)
    rfl
  | true =>
    have hn : n < s.length := by simp at h; omega
    conv => whnf
    refine CallH.lift seat_g c (by simp [Closed, ClosedL]) (by simp [Closed, ClosedL]) ?_
    conv => whnf
    repeat' ((first | refine zq1 (by omega) ?_ | refine zq2 (by omega) ?_ | refine NumH.rem (by omega) ?_ | refine zq4 (by omega) ?_ | refine zq5 (by omega) ?_ | refine zq6 ?_ | refine Req.mk (by omega) ?_ | refine Req.mk (by dsimp only; omega) ?_ | refine Req.mk (show pendP _ _ by repeat' constructor) ?_ | (with_reducible first | refine brT (by assumption) ?_ | refine brF (by assumption) ?_ | refine brDT (by omega) ?_ | refine brDF (by omega) ?_ | refine brET (by omega) ?_ | refine brEF (by omega) ?_ | refine brNET (by omega) ?_ | refine brNEF (by omega) ?_ | refine brNot ?_)); conv => whnf)
    rfl
set_option maxRecDepth 20000 in
set_option maxHeartbeats 2000000 in
theorem c_dparseV (M : List UInt8) (ex : Option (UInt8 × List UInt8 × List UInt8)) (hM : ∀ b ∈ M, kindN b.toNat ≠ 2) (hex : exOK ex) (hl : (M ++ expB ex).length ≤ 1000000)
    (h1 : (dfa true 0 (M ++ expB ex)).1 = (M ++ expB ex).length) (h2 : endsT (dfa true 0 (M ++ expB ex)).2 = true) :
    ACalls seat 78 [.str (M ++ expB ex)] [] (fun x _ => x = .ret (decR (rdM M).below (stripL (rdM M).ds) ((rdM M).pt + if exDown ex then 0 - exPow 1099511627776 ex else exPow 1099511627776 ex))) := by
  refine ACalls.body seat_ok Tryd.func78 rfl rfl ?_
  have c := c_dscan (M ++ expB ex) 0 true (by omega)
  rw [if_neg (by omega)] at c
  simp only [Int.toNat_zero, List.drop_zero, Int.zero_add] at c
  rw [h1, h2] at c
  have cr := c_dread M ex hM hex hl
  unfold numV at cr
  have hdig : ∀ x ∈ stripL (rdM M).ds, 0 ≤ x ∧ x ≤ 9 := fun x hx => rdM_dig M x (stripL_mem hx)
  have hbd := rdM_bd M.length M rfl
  have hpw : 0 ≤ exPow 1099511627776 ex ∧ exPow 1099511627776 ex ≤ 1099511627776 := by
    cases ex with
    | none => simp [exPow]
    | some x => exact powF_bd (by decide) _ _ rfl hex.2.2.2
  have hlM : M.length ≤ 1000000 := by rw [List.length_append] at hl; omega
  have hdl : (stripL (rdM M).ds).length ≤ 1000000 := Nat.le_trans (stripL_len _) (by omega)
  have hpp : -2000000000000 ≤ (rdM M).pt + (if exDown ex then 0 - exPow 1099511627776 ex else exPow 1099511627776 ex) ∧ (rdM M).pt + (if exDown ex then 0 - exPow 1099511627776 ex else exPow 1099511627776 ex) ≤ 2000000000000 := by split <;> omega
  generalize (rdM M).pt + (if exDown ex then 0 - exPow 1099511627776 ex else exPow 1099511627776 ex) = p at *
  generalize stripL (rdM M).ds = d at *
  generalize (rdM M).below = bl at *
  generalize M ++ expB ex = s at *
  clear h1 h2 hbd hpw hM hex hlM
  by_cases g1 : p > 5
  · by_cases g2 : 0 < d.length
    · have e : decR bl d p = .tup [.int .i64 0, .int .i64 2] := if_pos ⟨g1, g2⟩
      rw [e]
      have g2' : (0 : Int) < d.length := by omega
      conv => whnf
      refine CallH.lift seat_g c (by simp [Closed, ClosedL]) (by simp [Closed, ClosedL]) ?_
      conv => whnf
      repeat' ((first | refine zq1 (by omega) ?_ | refine zq2 (by omega) ?_ | refine NumH.rem (by omega) ?_ | refine zq4 (by omega) ?_ | refine zq5 (by omega) ?_ | refine zq6 ?_ | refine Req.mk (by omega) ?_ | refine Req.mk (by dsimp only; omega) ?_ | refine Req.mk (show pendP _ _ by repeat' constructor) ?_ | (with_reducible first | refine brT (by assumption) ?_ | refine brF (by assumption) ?_ | refine brDT (by omega) ?_ | refine brDF (by omega) ?_ | refine brET (by omega) ?_ | refine brEF (by omega) ?_ | refine brNET (by omega) ?_ | refine brNEF (by omega) ?_ | refine brNot ?_)); conv => whnf)
      refine CallH.lift seat_g cr (by simp [Closed, ClosedL]) (nmV_closed bl d p) ?_
      conv => whnf
      repeat' ((first | refine zq1 (by omega) ?_ | refine zq2 (by omega) ?_ | refine NumH.rem (by omega) ?_ | refine zq4 (by omega) ?_ | refine zq5 (by omega) ?_ | refine zq6 ?_ | refine Req.mk (by omega) ?_ | refine Req.mk (by dsimp only; omega) ?_ | refine Req.mk (show pendP _ _ by repeat' constructor) ?_ | (with_reducible first | refine brT (by assumption) ?_ | refine brF (by assumption) ?_ | refine brDT (by omega) ?_ | refine brDF (by omega) ?_ | refine brET (by omega) ?_ | refine brEF (by omega) ?_ | refine brNET (by omega) ?_ | refine brNEF (by omega) ?_ | refine brNot ?_)); conv => whnf)
      rfl
    · have g2' : ¬ ((0 : Int) < d.length) := by omega
      have g0 : ¬ (p > 5 ∧ 0 < d.length) := fun h => g2 h.2
      conv => whnf
      refine CallH.lift seat_g c (by simp [Closed, ClosedL]) (by simp [Closed, ClosedL]) ?_
      conv => whnf
      repeat' ((first | refine zq1 (by omega) ?_ | refine zq2 (by omega) ?_ | refine NumH.rem (by omega) ?_ | refine zq4 (by omega) ?_ | refine zq5 (by omega) ?_ | refine zq6 ?_ | refine Req.mk (by omega) ?_ | refine Req.mk (by dsimp only; omega) ?_ | refine Req.mk (show pendP _ _ by repeat' constructor) ?_ | (with_reducible first | refine brT (by assumption) ?_ | refine brF (by assumption) ?_ | refine brDT (by omega) ?_ | refine brDF (by omega) ?_ | refine brET (by omega) ?_ | refine brEF (by omega) ?_ | refine brNET (by omega) ?_ | refine brNEF (by omega) ?_ | refine brNot ?_)); conv => whnf)
      refine CallH.lift seat_g cr (by simp [Closed, ClosedL]) (nmV_closed bl d p) ?_
      conv => whnf
      repeat' ((first | refine zq1 (by omega) ?_ | refine zq2 (by omega) ?_ | refine NumH.rem (by omega) ?_ | refine zq4 (by omega) ?_ | refine zq5 (by omega) ?_ | refine zq6 ?_ | refine Req.mk (by omega) ?_ | refine Req.mk (by dsimp only; omega) ?_ | refine Req.mk (show pendP _ _ by repeat' constructor) ?_ | (with_reducible first | refine brT (by assumption) ?_ | refine brF (by assumption) ?_ | refine brDT (by omega) ?_ | refine brDF (by omega) ?_ | refine brET (by omega) ?_ | refine brEF (by omega) ?_ | refine brNET (by omega) ?_ | refine brNEF (by omega) ?_ | refine brNot ?_)); conv => whnf)
      refine Sat.cut (fun x t h => x = .exit 0 ∧ t = (uu::uu::uu::uu::uu::uu::.ptr 0 0::.int .u64 (accZ d p (-4) 5)::uu::uu::uu::uu::uu::uu::uu::uu::uu::uu::uu::uu::uu::uu::uu::uu::uu::uu::uu::uu::uu::uu::uu::uu::uu::uu::uu::uu::uu::uu::uu::uu::uu::uu::uu::uu::uu::uu::uu::uu::uu::uu::uu::uu::uu::uu::uu::uu::uu::uu::uu::uu::uu::uu::uu::uu::uu::uu::uu::uu::uu::uu::uu::uu::uu::uu::uu::uu::uu::uu::uu::uu::uu::uu::uu::uu::uu::uu::uu::uu::uu::uu::uu::uu::uu::uu::uu::uu::uu::uu::uu::uu::uu::uu::uu::uu::uu::uu::uu::uu::uu::uu::uu::uu::uu::uu::[]) ∧ h = [.var [.bool bl, .vec (ci .u8 d) d.length none, .int .i64 p] 136]) ?_ ?_
      · refine Sat.invP seat_ok seat_g (maskOf 114 [6, 7, 8]) 1 (fun μ t h => ∃ (j : Nat) (i : Int), j ≤ 5 ∧ i = -4 + j ∧ μ = 5 - j ∧ t = (uu::uu::uu::uu::uu::uu::.ptr 0 0::.int .u64 (accZ d p (-4) j)::.int .i64 i::uu::uu::uu::uu::uu::uu::uu::uu::uu::uu::uu::uu::uu::uu::uu::uu::uu::uu::uu::uu::uu::uu::uu::uu::uu::uu::uu::uu::uu::uu::uu::uu::uu::uu::uu::uu::uu::uu::uu::uu::uu::uu::uu::uu::uu::uu::uu::uu::uu::uu::uu::uu::uu::uu::uu::uu::uu::uu::uu::uu::uu::uu::uu::uu::uu::uu::uu::uu::uu::uu::uu::uu::uu::uu::uu::uu::uu::uu::uu::uu::uu::uu::uu::uu::uu::uu::uu::uu::uu::uu::uu::uu::uu::uu::uu::uu::uu::uu::uu::uu::uu::uu::uu::uu::uu::[]) ∧ h = [.var [.bool bl, .vec (ci .u8 d) d.length none, .int .i64 p] 136]) ?_ ⟨_, _, WeakL.of_eq rfl, 0, -4, by omega, by omega, rfl, rfl, rfl⟩ ?_
        · rintro _ _ _ ⟨j, i, -, -, -, rfl, rfl⟩
          exact ⟨rfl, (by simp [IdsL, Ids, IdsH, IdsC, lv_ids, ci_ids]), (by simp [IdsL, Ids, IdsH, IdsC, lv_ids, ci_ids])⟩
        rintro _ _ _ ⟨j, i, hj, hi, rfl, rfl, rfl⟩
        have cd := c_digit bl d p i hdig (by omega) (by omega)
        have hst : accZ d p (-4) (j + 1) = 10 * accZ d p (-4) j + digZ d p i := by rw [hi]; rfl
        have hb1 := accZ17 hdig p (-4) (n := j) (by omega)
        have hb2 := digZ_bd hdig p i
        generalize digZ d p i = z at *
        by_cases gj : j < 5
        · generalize accZ d p (-4) j = acc at *
          conv => whnf
          repeat' (first | exact ⟨_, _, Nat.sub_lt_sub_left gj (Nat.lt_succ_self j), WeakL.of_eq rfl, j + 1, i + 1, by omega, by omega, rfl, by rw [hst]; rfl, rfl⟩ | (refine CallH.lift seat_g cd ⟨nmV_closed bl d p, by simp [Closed], trivial⟩ (by simp [Closed]) ?_; conv => whnf) | ((first | refine zq1 (by omega) ?_ | refine zq2 (by omega) ?_ | refine NumH.rem (by omega) ?_ | refine zq4 (by omega) ?_ | refine zq5 (by omega) ?_ | refine zq6 ?_ | refine Req.mk (by omega) ?_ | refine Req.mk (by dsimp only; omega) ?_ | refine Req.mk (show pendP _ _ by repeat' constructor) ?_ | (with_reducible first | refine brT (by assumption) ?_ | refine brF (by assumption) ?_ | refine brDT (by omega) ?_ | refine brDF (by omega) ?_ | refine brET (by omega) ?_ | refine brEF (by omega) ?_ | refine brNET (by omega) ?_ | refine brNEF (by omega) ?_ | refine brNot ?_)); conv => whnf))
        · obtain rfl : j = 5 := by omega
          conv => whnf
          repeat' ((first | refine zq1 (by omega) ?_ | refine zq2 (by omega) ?_ | refine NumH.rem (by omega) ?_ | refine zq4 (by omega) ?_ | refine zq5 (by omega) ?_ | refine zq6 ?_ | refine Req.mk (by omega) ?_ | refine Req.mk (by dsimp only; omega) ?_ | refine Req.mk (show pendP _ _ by repeat' constructor) ?_ | (with_reducible first | refine brT (by assumption) ?_ | refine brF (by assumption) ?_ | refine brDT (by omega) ?_ | refine brDF (by omega) ?_ | refine brET (by omega) ?_ | refine brEF (by omega) ?_ | refine brNET (by omega) ?_ | refine brNEF (by omega) ?_ | refine brNot ?_)); conv => whnf)
          exact ⟨_, keepT_weak (maskOf 114 [6, 7]) _, rfl, rfl, rfl⟩
      rintro _ _ _ ⟨rfl, rfl, rfl⟩
      have hup := accZ_bd hdig p (-4) 5
      obtain ⟨up, eup⟩ : ∃ up, up = accZ d p (-4) 5 := ⟨_, rfl⟩
      rw [← eup] at hup ⊢
      rw [show ((10 : Int) ^ 5) = 100000 by decide] at hup
      conv => whnf
      refine Sat.cut (fun x t h => x = .exit 2 ∧ t = (uu::uu::uu::uu::uu::uu::.ptr 0 0::.int .u64 up::uu::.int .u64 (accZ d p 1 17)::uu::uu::uu::uu::uu::uu::uu::uu::uu::uu::uu::uu::uu::uu::uu::uu::uu::uu::uu::uu::uu::uu::uu::uu::uu::uu::uu::uu::uu::uu::uu::uu::uu::uu::uu::uu::uu::uu::uu::uu::uu::uu::uu::uu::uu::uu::uu::uu::uu::uu::uu::uu::uu::uu::uu::uu::uu::uu::uu::uu::uu::uu::uu::uu::uu::uu::uu::uu::uu::uu::uu::uu::uu::uu::uu::uu::uu::uu::uu::uu::uu::uu::uu::uu::uu::uu::uu::uu::uu::uu::uu::uu::uu::uu::uu::uu::uu::uu::uu::uu::uu::uu::uu::uu::[]) ∧ h = [.var [.bool bl, .vec (ci .u8 d) d.length none, .int .i64 p] 136]) ?_ ?_
      · refine Sat.invP seat_ok seat_g (maskOf 114 [6, 7, 9, 10]) 1 (fun μ t h => ∃ (j : Nat) (i : Int), j ≤ 17 ∧ i = 1 + j ∧ μ = 17 - j ∧ t = (uu::uu::uu::uu::uu::uu::.ptr 0 0::.int .u64 up::uu::.int .u64 (accZ d p 1 j)::.int .i64 i::uu::uu::uu::uu::uu::uu::uu::uu::uu::uu::uu::uu::uu::uu::uu::uu::uu::uu::uu::uu::uu::uu::uu::uu::uu::uu::uu::uu::uu::uu::uu::uu::uu::uu::uu::uu::uu::uu::uu::uu::uu::uu::uu::uu::uu::uu::uu::uu::uu::uu::uu::uu::uu::uu::uu::uu::uu::uu::uu::uu::uu::uu::uu::uu::uu::uu::uu::uu::uu::uu::uu::uu::uu::uu::uu::uu::uu::uu::uu::uu::uu::uu::uu::uu::uu::uu::uu::uu::uu::uu::uu::uu::uu::uu::uu::uu::uu::uu::uu::uu::uu::uu::uu::[]) ∧ h = [.var [.bool bl, .vec (ci .u8 d) d.length none, .int .i64 p] 136]) ?_ ⟨_, _, WeakL.of_eq rfl, 0, 1, by omega, by omega, rfl, rfl, rfl⟩ ?_
        · rintro _ _ _ ⟨j, i, -, -, -, rfl, rfl⟩
          exact ⟨rfl, (by simp [IdsL, Ids, IdsH, IdsC, lv_ids, ci_ids]), (by simp [IdsL, Ids, IdsH, IdsC, lv_ids, ci_ids])⟩
        rintro _ _ _ ⟨j, i, hj, hi, rfl, rfl, rfl⟩
        have cd := c_digit bl d p i hdig (by omega) (by omega)
        have hst : accZ d p 1 (j + 1) = 10 * accZ d p 1 j + digZ d p i := by rw [hi]; rfl
        have hb1 := accZ17 hdig p 1 (n := j) (by omega)
        have hb2 := digZ_bd hdig p i
        generalize digZ d p i = z at *
        by_cases gj : j < 17
        · generalize accZ d p 1 j = acc at *
          conv => whnf
          repeat' (first | exact ⟨_, _, Nat.sub_lt_sub_left gj (Nat.lt_succ_self j), WeakL.of_eq rfl, j + 1, i + 1, by omega, by omega, rfl, by rw [hst]; rfl, rfl⟩ | (refine CallH.lift seat_g cd ⟨nmV_closed bl d p, by simp [Closed], trivial⟩ (by simp [Closed]) ?_; conv => whnf) | ((first | refine zq1 (by omega) ?_ | refine zq2 (by omega) ?_ | refine NumH.rem (by omega) ?_ | refine zq4 (by omega) ?_ | refine zq5 (by omega) ?_ | refine zq6 ?_ | refine Req.mk (by omega) ?_ | refine Req.mk (by dsimp only; omega) ?_ | refine Req.mk (show pendP _ _ by repeat' constructor) ?_ | (with_reducible first | refine brT (by assumption) ?_ | refine brF (by assumption) ?_ | refine brDT (by omega) ?_ | refine brDF (by omega) ?_ | refine brET (by omega) ?_ | refine brEF (by omega) ?_ | refine brNET (by omega) ?_ | refine brNEF (by omega) ?_ | refine brNot ?_)); conv => whnf))
        · obtain rfl : j = 17 := by omega
          conv => whnf
          repeat' ((first | refine zq1 (by omega) ?_ | refine zq2 (by omega) ?_ | refine NumH.rem (by omega) ?_ | refine zq4 (by omega) ?_ | refine zq5 (by omega) ?_ | refine zq6 ?_ | refine Req.mk (by omega) ?_ | refine Req.mk (by dsimp only; omega) ?_ | refine Req.mk (show pendP _ _ by repeat' constructor) ?_ | (with_reducible first | refine brT (by assumption) ?_ | refine brF (by assumption) ?_ | refine brDT (by omega) ?_ | refine brDF (by omega) ?_ | refine brET (by omega) ?_ | refine brEF (by omega) ?_ | refine brNET (by omega) ?_ | refine brNEF (by omega) ?_ | refine brNot ?_)); conv => whnf)
          exact ⟨_, keepT_weak (maskOf 114 [6, 7, 9]) _, rfl, rfl, rfl⟩
      rintro _ _ _ ⟨rfl, rfl, rfl⟩
      have hbh := accZ17 hdig p 1 (n := 17) (by omega)
      have hvz : vZ bl d p = up * 65536 + accZ d p 1 17 * 65536 / 100000000000000000 + rndZ bl (moreB d p) (accZ d p 1 17) := by rw [eup]; rfl
      generalize accZ d p 1 17 = b at *
      have cm := c_mul64 b 65536 ⟨by omega, by omega⟩ ⟨by omega, by omega⟩
      have cd := c_div17 (b * 65536 / 18446744073709551616) (b * 65536 % 18446744073709551616) (by omega) ⟨by omega, by omega⟩
      rw [show b * 65536 / 18446744073709551616 * 18446744073709551616 + b * 65536 % 18446744073709551616 = b * 65536 by omega] at cd
      have hq : 0 ≤ b * 65536 / 100000000000000000 ∧ b * 65536 / 100000000000000000 < 65536 := by omega
      unfold rndZ at hvz
      generalize b * 65536 / 100000000000000000 = q at *
      generalize b * 65536 % 100000000000000000 = r at *
      clear c cr
      by_cases m1 : 0 < d.length
      · exact absurd m1 g2
      · have m1' : ¬ ((0 : Int) < d.length) := by omega
        have hmm : moreB d p = false := by simp [moreB]; omega
        cases bl with
        | false =>
          by_cases r1 : r > 50000000000000000
          · have hv : vZ false d p = up * 65536 + q + 1 := by rw [hvz, if_pos (by simp [hmm]; omega)]
            by_cases gv : up * 65536 + q + 1 ≥ 4294967296
            · have hdec : decR false d p = .tup [.int .i64 0, .int .i64 2] := by rw [decR, if_neg g0, hv, if_pos gv]
              rw [hdec]
              clear hdec hv hvz eup
              conv => whnf
              repeat' (first | exact rfl | (refine CallH.lift seat_g cm (by simp [Closed, ClosedL]) (by simp [Closed, ClosedL]) ?_; conv => whnf) | (refine CallH.lift seat_g cd (by simp [Closed, ClosedL]) (by simp [Closed, ClosedL]) ?_; conv => whnf) | (refine Req.mk (by decide) ?_; refine WrapH.is (up * 65536) (wrap_u64 (n := up * 65536) (by omega) (by omega)) ?_; conv => whnf) | ((first | refine zq1 (by omega) ?_ | refine zq2 (by omega) ?_ | refine NumH.rem (by omega) ?_ | refine zq4 (by omega) ?_ | refine zq5 (by omega) ?_ | refine zq6 ?_ | refine Req.mk (by omega) ?_ | refine Req.mk (by dsimp only; omega) ?_ | refine Req.mk (show pendP _ _ by repeat' constructor) ?_ | (with_reducible first | refine brT (by assumption) ?_ | refine brF (by assumption) ?_ | refine brDT (by omega) ?_ | refine brDF (by omega) ?_ | refine brET (by omega) ?_ | refine brEF (by omega) ?_ | refine brNET (by omega) ?_ | refine brNEF (by omega) ?_ | refine brNot ?_)); conv => whnf))
            · have hdec : decR false d p = .tup [.int .i64 (up * 65536 + q + 1), .int .i64 0] := by rw [decR, if_neg g0, hv, if_neg gv, if_neg (by decide)]
              rw [hdec]
              clear hdec hv hvz eup
              conv => whnf
              repeat' (first | exact rfl | (refine CallH.lift seat_g cm (by simp [Closed, ClosedL]) (by simp [Closed, ClosedL]) ?_; conv => whnf) | (refine CallH.lift seat_g cd (by simp [Closed, ClosedL]) (by simp [Closed, ClosedL]) ?_; conv => whnf) | (refine Req.mk (by decide) ?_; refine WrapH.is (up * 65536) (wrap_u64 (n := up * 65536) (by omega) (by omega)) ?_; conv => whnf) | ((first | refine zq1 (by omega) ?_ | refine zq2 (by omega) ?_ | refine NumH.rem (by omega) ?_ | refine zq4 (by omega) ?_ | refine zq5 (by omega) ?_ | refine zq6 ?_ | refine Req.mk (by omega) ?_ | refine Req.mk (by dsimp only; omega) ?_ | refine Req.mk (show pendP _ _ by repeat' constructor) ?_ | (with_reducible first | refine brT (by assumption) ?_ | refine brF (by assumption) ?_ | refine brDT (by omega) ?_ | refine brDF (by omega) ?_ | refine brET (by omega) ?_ | refine brEF (by omega) ?_ | refine brNET (by omega) ?_ | refine brNEF (by omega) ?_ | refine brNot ?_)); conv => whnf))
          by_cases r2 : r = 50000000000000000
          · have hv : vZ false d p = up * 65536 + q + 1 := by rw [hvz, if_pos (by simp [hmm]; omega)]
            by_cases gv : up * 65536 + q + 1 ≥ 4294967296
            · have hdec : decR false d p = .tup [.int .i64 0, .int .i64 2] := by rw [decR, if_neg g0, hv, if_pos gv]
              rw [hdec]
              clear hdec hv hvz eup
              conv => whnf
              repeat' (first | exact rfl | (refine CallH.lift seat_g cm (by simp [Closed, ClosedL]) (by simp [Closed, ClosedL]) ?_; conv => whnf) | (refine CallH.lift seat_g cd (by simp [Closed, ClosedL]) (by simp [Closed, ClosedL]) ?_; conv => whnf) | (refine Req.mk (by decide) ?_; refine WrapH.is (up * 65536) (wrap_u64 (n := up * 65536) (by omega) (by omega)) ?_; conv => whnf) | ((first | refine zq1 (by omega) ?_ | refine zq2 (by omega) ?_ | refine NumH.rem (by omega) ?_ | refine zq4 (by omega) ?_ | refine zq5 (by omega) ?_ | refine zq6 ?_ | refine Req.mk (by omega) ?_ | refine Req.mk (by dsimp only; omega) ?_ | refine Req.mk (show pendP _ _ by repeat' constructor) ?_ | (with_reducible first | refine brT (by assumption) ?_ | refine brF (by assumption) ?_ | refine brDT (by omega) ?_ | refine brDF (by omega) ?_ | refine brET (by omega) ?_ | refine brEF (by omega) ?_ | refine brNET (by omega) ?_ | refine brNEF (by omega) ?_ | refine brNot ?_)); conv => whnf))
            · have hdec : decR false d p = .tup [.int .i64 (up * 65536 + q + 1), .int .i64 0] := by rw [decR, if_neg g0, hv, if_neg gv, if_neg (by decide)]
              rw [hdec]
              clear hdec hv hvz eup
              conv => whnf
              repeat' (first | exact rfl | (refine CallH.lift seat_g cm (by simp [Closed, ClosedL]) (by simp [Closed, ClosedL]) ?_; conv => whnf) | (refine CallH.lift seat_g cd (by simp [Closed, ClosedL]) (by simp [Closed, ClosedL]) ?_; conv => whnf) | (refine Req.mk (by decide) ?_; refine WrapH.is (up * 65536) (wrap_u64 (n := up * 65536) (by omega) (by omega)) ?_; conv => whnf) | ((first | refine zq1 (by omega) ?_ | refine zq2 (by omega) ?_ | refine NumH.rem (by omega) ?_ | refine zq4 (by omega) ?_ | refine zq5 (by omega) ?_ | refine zq6 ?_ | refine Req.mk (by omega) ?_ | refine Req.mk (by dsimp only; omega) ?_ | refine Req.mk (show pendP _ _ by repeat' constructor) ?_ | (with_reducible first | refine brT (by assumption) ?_ | refine brF (by assumption) ?_ | refine brDT (by omega) ?_ | refine brDF (by omega) ?_ | refine brET (by omega) ?_ | refine brEF (by omega) ?_ | refine brNET (by omega) ?_ | refine brNEF (by omega) ?_ | refine brNot ?_)); conv => whnf))
          have hv : vZ false d p = up * 65536 + q := by rw [hvz, if_neg (by simp [hmm]; omega), Int.add_zero]
          by_cases gv : up * 65536 + q ≥ 4294967296
          · have hdec : decR false d p = .tup [.int .i64 0, .int .i64 2] := by rw [decR, if_neg g0, hv, if_pos gv]
            rw [hdec]
            clear hdec hv hvz eup
            conv => whnf
            repeat' (first | exact rfl | (refine CallH.lift seat_g cm (by simp [Closed, ClosedL]) (by simp [Closed, ClosedL]) ?_; conv => whnf) | (refine CallH.lift seat_g cd (by simp [Closed, ClosedL]) (by simp [Closed, ClosedL]) ?_; conv => whnf) | (refine Req.mk (by decide) ?_; refine WrapH.is (up * 65536) (wrap_u64 (n := up * 65536) (by omega) (by omega)) ?_; conv => whnf) | ((first | refine zq1 (by omega) ?_ | refine zq2 (by omega) ?_ | refine NumH.rem (by omega) ?_ | refine zq4 (by omega) ?_ | refine zq5 (by omega) ?_ | refine zq6 ?_ | refine Req.mk (by omega) ?_ | refine Req.mk (by dsimp only; omega) ?_ | refine Req.mk (show pendP _ _ by repeat' constructor) ?_ | (with_reducible first | refine brT (by assumption) ?_ | refine brF (by assumption) ?_ | refine brDT (by omega) ?_ | refine brDF (by omega) ?_ | refine brET (by omega) ?_ | refine brEF (by omega) ?_ | refine brNET (by omega) ?_ | refine brNEF (by omega) ?_ | refine brNot ?_)); conv => whnf))
          · have hdec : decR false d p = .tup [.int .i64 (up * 65536 + q), .int .i64 0] := by rw [decR, if_neg g0, hv, if_neg gv, if_neg (by decide)]
            rw [hdec]
            clear hdec hv hvz eup
            conv => whnf
            repeat' (first | exact rfl | (refine CallH.lift seat_g cm (by simp [Closed, ClosedL]) (by simp [Closed, ClosedL]) ?_; conv => whnf) | (refine CallH.lift seat_g cd (by simp [Closed, ClosedL]) (by simp [Closed, ClosedL]) ?_; conv => whnf) | (refine Req.mk (by decide) ?_; refine WrapH.is (up * 65536) (wrap_u64 (n := up * 65536) (by omega) (by omega)) ?_; conv => whnf) | ((first | refine zq1 (by omega) ?_ | refine zq2 (by omega) ?_ | refine NumH.rem (by omega) ?_ | refine zq4 (by omega) ?_ | refine zq5 (by omega) ?_ | refine zq6 ?_ | refine Req.mk (by omega) ?_ | refine Req.mk (by dsimp only; omega) ?_ | refine Req.mk (show pendP _ _ by repeat' constructor) ?_ | (with_reducible first | refine brT (by assumption) ?_ | refine brF (by assumption) ?_ | refine brDT (by omega) ?_ | refine brDF (by omega) ?_ | refine brET (by omega) ?_ | refine brEF (by omega) ?_ | refine brNET (by omega) ?_ | refine brNEF (by omega) ?_ | refine brNot ?_)); conv => whnf))
        | true =>
          by_cases r1 : r > 50000000000000000
          · have hv : vZ true d p = up * 65536 + q + 1 := by rw [hvz, if_pos (by simp [hmm]; omega)]
            by_cases gv : up * 65536 + q + 1 ≥ 4294967296
            · have hdec : decR true d p = .tup [.int .i64 0, .int .i64 2] := by rw [decR, if_neg g0, hv, if_pos gv]
              rw [hdec]
              clear hdec hv hvz eup
              conv => whnf
              repeat' (first | exact rfl | (refine CallH.lift seat_g cm (by simp [Closed, ClosedL]) (by simp [Closed, ClosedL]) ?_; conv => whnf) | (refine CallH.lift seat_g cd (by simp [Closed, ClosedL]) (by simp [Closed, ClosedL]) ?_; conv => whnf) | (refine Req.mk (by decide) ?_; refine WrapH.is (up * 65536) (wrap_u64 (n := up * 65536) (by omega) (by omega)) ?_; conv => whnf) | ((first | refine zq1 (by omega) ?_ | refine zq2 (by omega) ?_ | refine NumH.rem (by omega) ?_ | refine zq4 (by omega) ?_ | refine zq5 (by omega) ?_ | refine zq6 ?_ | refine Req.mk (by omega) ?_ | refine Req.mk (by dsimp only; omega) ?_ | refine Req.mk (show pendP _ _ by repeat' constructor) ?_ | (with_reducible first | refine brT (by assumption) ?_ | refine brF (by assumption) ?_ | refine brDT (by omega) ?_ | refine brDF (by omega) ?_ | refine brET (by omega) ?_ | refine brEF (by omega) ?_ | refine brNET (by omega) ?_ | refine brNEF (by omega) ?_ | refine brNot ?_)); conv => whnf))
            · have hdec : decR true d p = .tup [.int .i64 (0 - (up * 65536 + q + 1)), .int .i64 0] := by rw [decR, if_neg g0, hv, if_neg gv, if_pos rfl]
              rw [hdec]
              clear hdec hv hvz eup
              conv => whnf
              repeat' (first | exact rfl | (refine CallH.lift seat_g cm (by simp [Closed, ClosedL]) (by simp [Closed, ClosedL]) ?_; conv => whnf) | (refine CallH.lift seat_g cd (by simp [Closed, ClosedL]) (by simp [Closed, ClosedL]) ?_; conv => whnf) | (refine Req.mk (by decide) ?_; refine WrapH.is (up * 65536) (wrap_u64 (n := up * 65536) (by omega) (by omega)) ?_; conv => whnf) | ((first | refine zq1 (by omega) ?_ | refine zq2 (by omega) ?_ | refine NumH.rem (by omega) ?_ | refine zq4 (by omega) ?_ | refine zq5 (by omega) ?_ | refine zq6 ?_ | refine Req.mk (by omega) ?_ | refine Req.mk (by dsimp only; omega) ?_ | refine Req.mk (show pendP _ _ by repeat' constructor) ?_ | (with_reducible first | refine brT (by assumption) ?_ | refine brF (by assumption) ?_ | refine brDT (by omega) ?_ | refine brDF (by omega) ?_ | refine brET (by omega) ?_ | refine brEF (by omega) ?_ | refine brNET (by omega) ?_ | refine brNEF (by omega) ?_ | refine brNot ?_)); conv => whnf))
          by_cases r2 : r = 50000000000000000
          · have hv : vZ true d p = up * 65536 + q := by rw [hvz, if_neg (by simp [hmm]; omega), Int.add_zero]
            by_cases gv : up * 65536 + q ≥ 4294967296
            · have hdec : decR true d p = .tup [.int .i64 0, .int .i64 2] := by rw [decR, if_neg g0, hv, if_pos gv]
              rw [hdec]
              clear hdec hv hvz eup
              conv => whnf
              repeat' (first | exact rfl | (refine CallH.lift seat_g cm (by simp [Closed, ClosedL]) (by simp [Closed, ClosedL]) ?_; conv => whnf) | (refine CallH.lift seat_g cd (by simp [Closed, ClosedL]) (by simp [Closed, ClosedL]) ?_; conv => whnf) | (refine Req.mk (by decide) ?_; refine WrapH.is (up * 65536) (wrap_u64 (n := up * 65536) (by omega) (by omega)) ?_; conv => whnf) | ((first | refine zq1 (by omega) ?_ | refine zq2 (by omega) ?_ | refine NumH.rem (by omega) ?_ | refine zq4 (by omega) ?_ | refine zq5 (by omega) ?_ | refine zq6 ?_ | refine Req.mk (by omega) ?_ | refine Req.mk (by dsimp only; omega) ?_ | refine Req.mk (show pendP _ _ by repeat' constructor) ?_ | (with_reducible first | refine brT (by assumption) ?_ | refine brF (by assumption) ?_ | refine brDT (by omega) ?_ | refine brDF (by omega) ?_ | refine brET (by omega) ?_ | refine brEF (by omega) ?_ | refine brNET (by omega) ?_ | refine brNEF (by omega) ?_ | refine brNot ?_)); conv => whnf))
            · have hdec : decR true d p = .tup [.int .i64 (0 - (up * 65536 + q)), .int .i64 0] := by rw [decR, if_neg g0, hv, if_neg gv, if_pos rfl]
              rw [hdec]
              clear hdec hv hvz eup
              conv => whnf
              repeat' (first | exact rfl | (refine CallH.lift seat_g cm (by simp [Closed, ClosedL]) (by simp [Closed, ClosedL]) ?_; conv => whnf) | (refine CallH.lift seat_g cd (by simp [Closed, ClosedL]) (by simp [Closed, ClosedL]) ?_; conv => whnf) | (refine Req.mk (by decide) ?_; refine WrapH.is (up * 65536) (wrap_u64 (n := up * 65536) (by omega) (by omega)) ?_; conv => whnf) | ((first | refine zq1 (by omega) ?_ | refine zq2 (by omega) ?_ | refine NumH.rem (by omega) ?_ | refine zq4 (by omega) ?_ | refine zq5 (by omega) ?_ | refine zq6 ?_ | refine Req.mk (by omega) ?_ | refine Req.mk (by dsimp only; omega) ?_ | refine Req.mk (show pendP _ _ by repeat' constructor) ?_ | (with_reducible first | refine brT (by assumption) ?_ | refine brF (by assumption) ?_ | refine brDT (by omega) ?_ | refine brDF (by omega) ?_ | refine brET (by omega) ?_ | refine brEF (by omega) ?_ | refine brNET (by omega) ?_ | refine brNEF (by omega) ?_ | refine brNot ?_)); conv => whnf))
          have hv : vZ true d p = up * 65536 + q := by rw [hvz, if_neg (by simp [hmm]; omega), Int.add_zero]
          by_cases gv : up * 65536 + q ≥ 4294967296
          · have hdec : decR true d p = .tup [.int .i64 0, .int .i64 2] := by rw [decR, if_neg g0, hv, if_pos gv]
            rw [hdec]
            clear hdec hv hvz eup
            conv => whnf
            repeat' (first | exact rfl | (refine CallH.lift seat_g cm (by simp [Closed, ClosedL]) (by simp [Closed, ClosedL]) ?_; conv => whnf) | (refine CallH.lift seat_g cd (by simp [Closed, ClosedL]) (by simp [Closed, ClosedL]) ?_; conv => whnf) | (refine Req.mk (by decide) ?_; refine WrapH.is (up * 65536) (wrap_u64 (n := up * 65536) (by omega) (by omega)) ?_; conv => whnf) | ((first | refine zq1 (by omega) ?_ | refine zq2 (by omega) ?_ | refine NumH.rem (by omega) ?_ | refine zq4 (by omega) ?_ | refine zq5 (by omega) ?_ | refine zq6 ?_ | refine Req.mk (by omega) ?_ | refine Req.mk (by dsimp only; omega) ?_ | refine Req.mk (show pendP _ _ by repeat' constructor) ?_ | (with_reducible first | refine brT (by assumption) ?_ | refine brF (by assumption) ?_ | refine brDT (by omega) ?_ | refine brDF (by omega) ?_ | refine brET (by omega) ?_ | refine brEF (by omega) ?_ | refine brNET (by omega) ?_ | refine brNEF (by omega) ?_ | refine brNot ?_)); conv => whnf))
          · have hdec : decR true d p = .tup [.int .i64 (0 - (up * 65536 + q)), .int .i64 0] := by rw [decR, if_neg g0, hv, if_neg gv, if_pos rfl]
            rw [hdec]
            clear hdec hv hvz eup
            conv => whnf
            repeat' (first | exact rfl | (refine CallH.lift seat_g cm (by simp [Closed, ClosedL]) (by simp [Closed, ClosedL]) ?_; conv => whnf) | (refine CallH.lift seat_g cd (by simp [Closed, ClosedL]) (by simp [Closed, ClosedL]) ?_; conv => whnf) | (refine Req.mk (by decide) ?_; refine WrapH.is (up * 65536) (wrap_u64 (n := up * 65536) (by omega) (by omega)) ?_; conv => whnf) | ((first | refine zq1 (by omega) ?_ | refine zq2 (by omega) ?_ | refine NumH.rem (by omega) ?_ | refine zq4 (by omega) ?_ | refine zq5 (by omega) ?_ | refine zq6 ?_ | refine Req.mk (by omega) ?_ | refine Req.mk (by dsimp only; omega) ?_ | refine Req.mk (show pendP _ _ by repeat' constructor) ?_ | (with_reducible first | refine brT (by assumption) ?_ | refine brF (by assumption) ?_ | refine brDT (by omega) ?_ | refine brDF (by omega) ?_ | refine brET (by omega) ?_ | refine brEF (by omega) ?_ | refine brNET (by omega) ?_ | refine brNEF (by omega) ?_ | refine brNot ?_)); conv => whnf))
  · have g0 : ¬ (p > 5 ∧ 0 < d.length) := fun h => g1 h.1
    conv => whnf
    refine CallH.lift seat_g c (by simp [Closed, ClosedL]) (by simp [Closed, ClosedL]) ?_
    conv => whnf
    repeat' ((first | refine zq1 (by omega) ?_ | refine zq2 (by omega) ?_ | refine NumH.rem (by omega) ?_ | refine zq4 (by omega) ?_ | refine zq5 (by omega) ?_ | refine zq6 ?_ | refine Req.mk (by omega) ?_ | refine Req.mk (by dsimp only; omega) ?_ | refine Req.mk (show pendP _ _ by repeat' constructor) ?_ | (with_reducible first | refine brT (by assumption) ?_ | refine brF (by assumption) ?_ | refine brDT (by omega) ?_ | refine brDF (by omega) ?_ | refine brET (by omega) ?_ | refine brEF (by omega) ?_ | refine brNET (by omega) ?_ | refine brNEF (by omega) ?_ | refine brNot ?_)); conv => whnf)
    refine CallH.lift seat_g cr (by simp [Closed, ClosedL]) (nmV_closed bl d p) ?_
    conv => whnf
    repeat' ((first | refine zq1 (by omega) ?_ | refine zq2 (by omega) ?_ | refine NumH.rem (by omega) ?_ | refine zq4 (by omega) ?_ | refine zq5 (by omega) ?_ | refine zq6 ?_ | refine Req.mk (by omega) ?_ | refine Req.mk (by dsimp only; omega) ?_ | refine Req.mk (show pendP _ _ by repeat' constructor) ?_ | (with_reducible first | refine brT (by assumption) ?_ | refine brF (by assumption) ?_ | refine brDT (by omega) ?_ | refine brDF (by omega) ?_ | refine brET (by omega) ?_ | refine brEF (by omega) ?_ | refine brNET (by omega) ?_ | refine brNEF (by omega) ?_ | refine brNot ?_)); conv => whnf)
    refine Sat.cut (fun x t h => x = .exit 0 ∧ t = (uu::uu::uu::uu::uu::uu::.ptr 0 0::.int .u64 (accZ d p (-4) 5)::uu::uu::uu::uu::uu::uu::uu::uu::uu::uu::uu::uu::uu::uu::uu::uu::uu::uu::uu::uu::uu::uu::uu::uu::uu::uu::uu::uu::uu::uu::uu::uu::uu::uu::uu::uu::uu::uu::uu::uu::uu::uu::uu::uu::uu::uu::uu::uu::uu::uu::uu::uu::uu::uu::uu::uu::uu::uu::uu::uu::uu::uu::uu::uu::uu::uu::uu::uu::uu::uu::uu::uu::uu::uu::uu::uu::uu::uu::uu::uu::uu::uu::uu::uu::uu::uu::uu::uu::uu::uu::uu::uu::uu::uu::uu::uu::uu::uu::uu::uu::uu::uu::uu::uu::uu::uu::[]) ∧ h = [.var [.bool bl, .vec (ci .u8 d) d.length none, .int .i64 p] 136]) ?_ ?_
    · refine Sat.invP seat_ok seat_g (maskOf 114 [6, 7, 8]) 1 (fun μ t h => ∃ (j : Nat) (i : Int), j ≤ 5 ∧ i = -4 + j ∧ μ = 5 - j ∧ t = (uu::uu::uu::uu::uu::uu::.ptr 0 0::.int .u64 (accZ d p (-4) j)::.int .i64 i::uu::uu::uu::uu::uu::uu::uu::uu::uu::uu::uu::uu::uu::uu::uu::uu::uu::uu::uu::uu::uu::uu::uu::uu::uu::uu::uu::uu::uu::uu::uu::uu::uu::uu::uu::uu::uu::uu::uu::uu::uu::uu::uu::uu::uu::uu::uu::uu::uu::uu::uu::uu::uu::uu::uu::uu::uu::uu::uu::uu::uu::uu::uu::uu::uu::uu::uu::uu::uu::uu::uu::uu::uu::uu::uu::uu::uu::uu::uu::uu::uu::uu::uu::uu::uu::uu::uu::uu::uu::uu::uu::uu::uu::uu::uu::uu::uu::uu::uu::uu::uu::uu::uu::uu::uu::[]) ∧ h = [.var [.bool bl, .vec (ci .u8 d) d.length none, .int .i64 p] 136]) ?_ ⟨_, _, WeakL.of_eq rfl, 0, -4, by omega, by omega, rfl, rfl, rfl⟩ ?_
      · rintro _ _ _ ⟨j, i, -, -, -, rfl, rfl⟩
        exact ⟨rfl, (by simp [IdsL, Ids, IdsH, IdsC, lv_ids, ci_ids]), (by simp [IdsL, Ids, IdsH, IdsC, lv_ids, ci_ids])⟩
      rintro _ _ _ ⟨j, i, hj, hi, rfl, rfl, rfl⟩
      have cd := c_digit bl d p i hdig (by omega) (by omega)
      have hst : accZ d p (-4) (j + 1) = 10 * accZ d p (-4) j + digZ d p i := by rw [hi]; rfl
      have hb1 := accZ17 hdig p (-4) (n := j) (by omega)
      have hb2 := digZ_bd hdig p i
      generalize digZ d p i = z at *
      by_cases gj : j < 5
      · generalize accZ d p (-4) j = acc at *
        conv => whnf
        repeat' (first | exact ⟨_, _, Nat.sub_lt_sub_left gj (Nat.lt_succ_self j), WeakL.of_eq rfl, j + 1, i + 1, by omega, by omega, rfl, by rw [hst]; rfl, rfl⟩ | (refine CallH.lift seat_g cd ⟨nmV_closed bl d p, by simp [Closed], trivial⟩ (by simp [Closed]) ?_; conv => whnf) | ((first | refine zq1 (by omega) ?_ | refine zq2 (by omega) ?_ | refine NumH.rem (by omega) ?_ | refine zq4 (by omega) ?_ | refine zq5 (by omega) ?_ | refine zq6 ?_ | refine Req.mk (by omega) ?_ | refine Req.mk (by dsimp only; omega) ?_ | refine Req.mk (show pendP _ _ by repeat' constructor) ?_ | (with_reducible first | refine brT (by assumption) ?_ | refine brF (by assumption) ?_ | refine brDT (by omega) ?_ | refine brDF (by omega) ?_ | refine brET (by omega) ?_ | refine brEF (by omega) ?_ | refine brNET (by omega) ?_ | refine brNEF (by omega) ?_ | refine brNot ?_)); conv => whnf))
      · obtain rfl : j = 5 := by omega
        conv => whnf
        repeat' ((first | refine zq1 (by omega) ?_ | refine zq2 (by omega) ?_ | refine NumH.rem (by omega) ?_ | refine zq4 (by omega) ?_ | refine zq5 (by omega) ?_ | refine zq6 ?_ | refine Req.mk (by omega) ?_ | refine Req.mk (by dsimp only; omega) ?_ | refine Req.mk (show pendP _ _ by repeat' constructor) ?_ | (with_reducible first | refine brT (by assumption) ?_ | refine brF (by assumption) ?_ | refine brDT (by omega) ?_ | refine brDF (by omega) ?_ | refine brET (by omega) ?_ | refine brEF (by omega) ?_ | refine brNET (by omega) ?_ | refine brNEF (by omega) ?_ | refine brNot ?_)); conv => whnf)
        exact ⟨_, keepT_weak (maskOf 114 [6, 7]) _, rfl, rfl, rfl⟩
    rintro _ _ _ ⟨rfl, rfl, rfl⟩
    have hup := accZ_bd hdig p (-4) 5
    obtain ⟨up, eup⟩ : ∃ up, up = accZ d p (-4) 5 := ⟨_, rfl⟩
    rw [← eup] at hup ⊢
    rw [show ((10 : Int) ^ 5) = 100000 by decide] at hup
    conv => whnf
    refine Sat.cut (fun x t h => x = .exit 2 ∧ t = (uu::uu::uu::uu::uu::uu::.ptr 0 0::.int .u64 up::uu::.int .u64 (accZ d p 1 17)::uu::uu::uu::uu::uu::uu::uu::uu::uu::uu::uu::uu::uu::uu::uu::uu::uu::uu::uu::uu::uu::uu::uu::uu::uu::uu::uu::uu::uu::uu::uu::uu::uu::uu::uu::uu::uu::uu::uu::uu::uu::uu::uu::uu::uu::uu::uu::uu::uu::uu::uu::uu::uu::uu::uu::uu::uu::uu::uu::uu::uu::uu::uu::uu::uu::uu::uu::uu::uu::uu::uu::uu::uu::uu::uu::uu::uu::uu::uu::uu::uu::uu::uu::uu::uu::uu::uu::uu::uu::uu::uu::uu::uu::uu::uu::uu::uu::uu::uu::uu::uu::uu::uu::uu::[]) ∧ h = [.var [.bool bl, .vec (ci .u8 d) d.length none, .int .i64 p] 136]) ?_ ?_
    · refine Sat.invP seat_ok seat_g (maskOf 114 [6, 7, 9, 10]) 1 (fun μ t h => ∃ (j : Nat) (i : Int), j ≤ 17 ∧ i = 1 + j ∧ μ = 17 - j ∧ t = (uu::uu::uu::uu::uu::uu::.ptr 0 0::.int .u64 up::uu::.int .u64 (accZ d p 1 j)::.int .i64 i::uu::uu::uu::uu::uu::uu::uu::uu::uu::uu::uu::uu::uu::uu::uu::uu::uu::uu::uu::uu::uu::uu::uu::uu::uu::uu::uu::uu::uu::uu::uu::uu::uu::uu::uu::uu::uu::uu::uu::uu::uu::uu::uu::uu::uu::uu::uu::uu::uu::uu::uu::uu::uu::uu::uu::uu::uu::uu::uu::uu::uu::uu::uu::uu::uu::uu::uu::uu::uu::uu::uu::uu::uu::uu::uu::uu::uu::uu::uu::uu::uu::uu::uu::uu::uu::uu::uu::uu::uu::uu::uu::uu::uu::uu::uu::uu::uu::uu::uu::uu::uu::uu::uu::[]) ∧ h = [.var [.bool bl, .vec (ci .u8 d) d.length none, .int .i64 p] 136]) ?_ ⟨_, _, WeakL.of_eq rfl, 0, 1, by omega, by omega, rfl, rfl, rfl⟩ ?_
      · rintro _ _ _ ⟨j, i, -, -, -, rfl, rfl⟩
        exact ⟨rfl, (by simp [IdsL, Ids, IdsH, IdsC, lv_ids, ci_ids]), (by simp [IdsL, Ids, IdsH, IdsC, lv_ids, ci_ids])⟩
      rintro _ _ _ ⟨j, i, hj, hi, rfl, rfl, rfl⟩
      have cd := c_digit bl d p i hdig (by omega) (by omega)
      have hst : accZ d p 1 (j + 1) = 10 * accZ d p 1 j + digZ d p i := by rw [hi]; rfl
      have hb1 := accZ17 hdig p 1 (n := j) (by omega)
      have hb2 := digZ_bd hdig p i
      generalize digZ d p i = z at *
      by_cases gj : j < 17
      · generalize accZ d p 1 j = acc at *
        conv => whnf
        repeat' (first | exact ⟨_, _, Nat.sub_lt_sub_left gj (Nat.lt_succ_self j), WeakL.of_eq rfl, j + 1, i + 1, by omega, by omega, rfl, by rw [hst]; rfl, rfl⟩ | (refine CallH.lift seat_g cd ⟨nmV_closed bl d p, by simp [Closed], trivial⟩ (by simp [Closed]) ?_; conv => whnf) | ((first | refine zq1 (by omega) ?_ | refine zq2 (by omega) ?_ | refine NumH.rem (by omega) ?_ | refine zq4 (by omega) ?_ | refine zq5 (by omega) ?_ | refine zq6 ?_ | refine Req.mk (by omega) ?_ | refine Req.mk (by dsimp only; omega) ?_ | refine Req.mk (show pendP _ _ by repeat' constructor) ?_ | (with_reducible first | refine brT (by assumption) ?_ | refine brF (by assumption) ?_ | refine brDT (by omega) ?_ | refine brDF (by omega) ?_ | refine brET (by omega) ?_ | refine brEF (by omega) ?_ | refine brNET (by omega) ?_ | refine brNEF (by omega) ?_ | refine brNot ?_)); conv => whnf))
      · obtain rfl : j = 17 := by omega
        conv => whnf
        repeat' ((first | refine zq1 (by omega) ?_ | refine zq2 (by omega) ?_ | refine NumH.rem (by omega) ?_ | refine zq4 (by omega) ?_ | refine zq5 (by omega) ?_ | refine zq6 ?_ | refine Req.mk (by omega) ?_ | refine Req.mk (by dsimp only; omega) ?_ | refine Req.mk (show pendP _ _ by repeat' constructor) ?_ | (with_reducible first | refine brT (by assumption) ?_ | refine brF (by assumption) ?_ | refine brDT (by omega) ?_ | refine brDF (by omega) ?_ | refine brET (by omega) ?_ | refine brEF (by omega) ?_ | refine brNET (by omega) ?_ | refine brNEF (by omega) ?_ | refine brNot ?_)); conv => whnf)
        exact ⟨_, keepT_weak (maskOf 114 [6, 7, 9]) _, rfl, rfl, rfl⟩
    rintro _ _ _ ⟨rfl, rfl, rfl⟩
    have hbh := accZ17 hdig p 1 (n := 17) (by omega)
    have hvz : vZ bl d p = up * 65536 + accZ d p 1 17 * 65536 / 100000000000000000 + rndZ bl (moreB d p) (accZ d p 1 17) := by rw [eup]; rfl
    generalize accZ d p 1 17 = b at *
    have cm := c_mul64 b 65536 ⟨by omega, by omega⟩ ⟨by omega, by omega⟩
    have cd := c_div17 (b * 65536 / 18446744073709551616) (b * 65536 % 18446744073709551616) (by omega) ⟨by omega, by omega⟩
    rw [show b * 65536 / 18446744073709551616 * 18446744073709551616 + b * 65536 % 18446744073709551616 = b * 65536 by omega] at cd
    have hq : 0 ≤ b * 65536 / 100000000000000000 ∧ b * 65536 / 100000000000000000 < 65536 := by omega
    unfold rndZ at hvz
    generalize b * 65536 / 100000000000000000 = q at *
    generalize b * 65536 % 100000000000000000 = r at *
    clear c cr
    by_cases m1 : 0 < d.length
    · have m1' : (0 : Int) < d.length := by omega
      by_cases m2 : p + 17 < d.length
      · have hmm : moreB d p = true := by simp [moreB, m1, m2]
        cases bl with
        | false =>
          by_cases r1 : r > 50000000000000000
          · have hv : vZ false d p = up * 65536 + q + 1 := by rw [hvz, if_pos (by simp [hmm]; omega)]
            by_cases gv : up * 65536 + q + 1 ≥ 4294967296
            · have hdec : decR false d p = .tup [.int .i64 0, .int .i64 2] := by rw [decR, if_neg g0, hv, if_pos gv]
              rw [hdec]
              clear hdec hv hvz eup
              conv => whnf
              repeat' (first | exact rfl | (refine CallH.lift seat_g cm (by simp [Closed, ClosedL]) (by simp [Closed, ClosedL]) ?_; conv => whnf) | (refine CallH.lift seat_g cd (by simp [Closed, ClosedL]) (by simp [Closed, ClosedL]) ?_; conv => whnf) | (refine Req.mk (by decide) ?_; refine WrapH.is (up * 65536) (wrap_u64 (n := up * 65536) (by omega) (by omega)) ?_; conv => whnf) | ((first | refine zq1 (by omega) ?_ | refine zq2 (by omega) ?_ | refine NumH.rem (by omega) ?_ | refine zq4 (by omega) ?_ | refine zq5 (by omega) ?_ | refine zq6 ?_ | refine Req.mk (by omega) ?_ | refine Req.mk (by dsimp only; omega) ?_ | refine Req.mk (show pendP _ _ by repeat' constructor) ?_ | (with_reducible first | refine brT (by assumption) ?_ | refine brF (by assumption) ?_ | refine brDT (by omega) ?_ | refine brDF (by omega) ?_ | refine brET (by omega) ?_ | refine brEF (by omega) ?_ | refine brNET (by omega) ?_ | refine brNEF (by omega) ?_ | refine brNot ?_)); conv => whnf))
            · have hdec : decR false d p = .tup [.int .i64 (up * 65536 + q + 1), .int .i64 0] := by rw [decR, if_neg g0, hv, if_neg gv, if_neg (by decide)]
              rw [hdec]
              clear hdec hv hvz eup
              conv => whnf
              repeat' (first | exact rfl | (refine CallH.lift seat_g cm (by simp [Closed, ClosedL]) (by simp [Closed, ClosedL]) ?_; conv => whnf) | (refine CallH.lift seat_g cd (by simp [Closed, ClosedL]) (by simp [Closed, ClosedL]) ?_; conv => whnf) | (refine Req.mk (by decide) ?_; refine WrapH.is (up * 65536) (wrap_u64 (n := up * 65536) (by omega) (by omega)) ?_; conv => whnf) | ((first | refine zq1 (by omega) ?_ | refine zq2 (by omega) ?_ | refine NumH.rem (by omega) ?_ | refine zq4 (by omega) ?_ | refine zq5 (by omega) ?_ | refine zq6 ?_ | refine Req.mk (by omega) ?_ | refine Req.mk (by dsimp only; omega) ?_ | refine Req.mk (show pendP _ _ by repeat' constructor) ?_ | (with_reducible first | refine brT (by assumption) ?_ | refine brF (by assumption) ?_ | refine brDT (by omega) ?_ | refine brDF (by omega) ?_ | refine brET (by omega) ?_ | refine brEF (by omega) ?_ | refine brNET (by omega) ?_ | refine brNEF (by omega) ?_ | refine brNot ?_)); conv => whnf))
          by_cases r2 : r = 50000000000000000
          · have hv : vZ false d p = up * 65536 + q + 1 := by rw [hvz, if_pos (by simp [hmm]; omega)]
            by_cases gv : up * 65536 + q + 1 ≥ 4294967296
            · have hdec : decR false d p = .tup [.int .i64 0, .int .i64 2] := by rw [decR, if_neg g0, hv, if_pos gv]
              rw [hdec]
              clear hdec hv hvz eup
              conv => whnf
              repeat' (first | exact rfl | (refine CallH.lift seat_g cm (by simp [Closed, ClosedL]) (by simp [Closed, ClosedL]) ?_; conv => whnf) | (refine CallH.lift seat_g cd (by simp [Closed, ClosedL]) (by simp [Closed, ClosedL]) ?_; conv => whnf) | (refine Req.mk (by decide) ?_; refine WrapH.is (up * 65536) (wrap_u64 (n := up * 65536) (by omega) (by omega)) ?_; conv => whnf) | ((first | refine zq1 (by omega) ?_ | refine zq2 (by omega) ?_ | refine NumH.rem (by omega) ?_ | refine zq4 (by omega) ?_ | refine zq5 (by omega) ?_ | refine zq6 ?_ | refine Req.mk (by omega) ?_ | refine Req.mk (by dsimp only; omega) ?_ | refine Req.mk (show pendP _ _ by repeat' constructor) ?_ | (with_reducible first | refine brT (by assumption) ?_ | refine brF (by assumption) ?_ | refine brDT (by omega) ?_ | refine brDF (by omega) ?_ | refine brET (by omega) ?_ | refine brEF (by omega) ?_ | refine brNET (by omega) ?_ | refine brNEF (by omega) ?_ | refine brNot ?_)); conv => whnf))
            · have hdec : decR false d p = .tup [.int .i64 (up * 65536 + q + 1), .int .i64 0] := by rw [decR, if_neg g0, hv, if_neg gv, if_neg (by decide)]
              rw [hdec]
              clear hdec hv hvz eup
              conv => whnf
              repeat' (first | exact rfl | (refine CallH.lift seat_g cm (by simp [Closed, ClosedL]) (by simp [Closed, ClosedL]) ?_; conv => whnf) | (refine CallH.lift seat_g cd (by simp [Closed, ClosedL]) (by simp [Closed, ClosedL]) ?_; conv => whnf) | (refine Req.mk (by decide) ?_; refine WrapH.is (up * 65536) (wrap_u64 (n := up * 65536) (by omega) (by omega)) ?_; conv => whnf) | ((first | refine zq1 (by omega) ?_ | refine zq2 (by omega) ?_ | refine NumH.rem (by omega) ?_ | refine zq4 (by omega) ?_ | refine zq5 (by omega) ?_ | refine zq6 ?_ | refine Req.mk (by omega) ?_ | refine Req.mk (by dsimp only; omega) ?_ | refine Req.mk (show pendP _ _ by repeat' constructor) ?_ | (with_reducible first | refine brT (by assumption) ?_ | refine brF (by assumption) ?_ | refine brDT (by omega) ?_ | refine brDF (by omega) ?_ | refine brET (by omega) ?_ | refine brEF (by omega) ?_ | refine brNET (by omega) ?_ | refine brNEF (by omega) ?_ | refine brNot ?_)); conv => whnf))
          have hv : vZ false d p = up * 65536 + q := by rw [hvz, if_neg (by simp [hmm]; omega), Int.add_zero]
          by_cases gv : up * 65536 + q ≥ 4294967296
          · have hdec : decR false d p = .tup [.int .i64 0, .int .i64 2] := by rw [decR, if_neg g0, hv, if_pos gv]
            rw [hdec]
            clear hdec hv hvz eup
            conv => whnf
            repeat' (first | exact rfl | (refine CallH.lift seat_g cm (by simp [Closed, ClosedL]) (by simp [Closed, ClosedL]) ?_; conv => whnf) | (refine CallH.lift seat_g cd (by simp [Closed, ClosedL]) (by simp [Closed, ClosedL]) ?_; conv => whnf) | (refine Req.mk (by decide) ?_; refine WrapH.is (up * 65536) (wrap_u64 (n := up * 65536) (by omega) (by omega)) ?_; conv => whnf) | ((first | refine zq1 (by omega) ?_ | refine zq2 (by omega) ?_ | refine NumH.rem (by omega) ?_ | refine zq4 (by omega) ?_ | refine zq5 (by omega) ?_ | refine zq6 ?_ | refine Req.mk (by omega) ?_ | refine Req.mk (by dsimp only; omega) ?_ | refine Req.mk (show pendP _ _ by repeat' constructor) ?_ | (with_reducible first | refine brT (by assumption) ?_ | refine brF (by assumption) ?_ | refine brDT (by omega) ?_ | refine brDF (by omega) ?_ | refine brET (by omega) ?_ | refine brEF (by omega) ?_ | refine brNET (by omega) ?_ | refine brNEF (by omega) ?_ | refine brNot ?_)); conv => whnf))
          · have hdec : decR false d p = .tup [.int .i64 (up * 65536 + q), .int .i64 0] := by rw [decR, if_neg g0, hv, if_neg gv, if_neg (by decide)]
            rw [hdec]
            clear hdec hv hvz eup
            conv => whnf
            repeat' (first | exact rfl | (refine CallH.lift seat_g cm (by simp [Closed, ClosedL]) (by simp [Closed, ClosedL]) ?_; conv => whnf) | (refine CallH.lift seat_g cd (by simp [Closed, ClosedL]) (by simp [Closed, ClosedL]) ?_; conv => whnf) | (refine Req.mk (by decide) ?_; refine WrapH.is (up * 65536) (wrap_u64 (n := up * 65536) (by omega) (by omega)) ?_; conv => whnf) | ((first | refine zq1 (by omega) ?_ | refine zq2 (by omega) ?_ | refine NumH.rem (by omega) ?_ | refine zq4 (by omega) ?_ | refine zq5 (by omega) ?_ | refine zq6 ?_ | refine Req.mk (by omega) ?_ | refine Req.mk (by dsimp only; omega) ?_ | refine Req.mk (show pendP _ _ by repeat' constructor) ?_ | (with_reducible first | refine brT (by assumption) ?_ | refine brF (by assumption) ?_ | refine brDT (by omega) ?_ | refine brDF (by omega) ?_ | refine brET (by omega) ?_ | refine brEF (by omega) ?_ | refine brNET (by omega) ?_ | refine brNEF (by omega) ?_ | refine brNot ?_)); conv => whnf))
        | true =>
          by_cases r1 : r > 50000000000000000
          · have hv : vZ true d p = up * 65536 + q + 1 := by rw [hvz, if_pos (by simp [hmm]; omega)]
            by_cases gv : up * 65536 + q + 1 ≥ 4294967296
            · have hdec : decR true d p = .tup [.int .i64 0, .int .i64 2] := by rw [decR, if_neg g0, hv, if_pos gv]
              rw [hdec]
              clear hdec hv hvz eup
              conv => whnf
              repeat' (first | exact rfl | (refine CallH.lift seat_g cm (by simp [Closed, ClosedL]) (by simp [Closed, ClosedL]) ?_; conv => whnf) | (refine CallH.lift seat_g cd (by simp [Closed, ClosedL]) (by simp [Closed, ClosedL]) ?_; conv => whnf) | (refine Req.mk (by decide) ?_; refine WrapH.is (up * 65536) (wrap_u64 (n := up * 65536) (by omega) (by omega)) ?_; conv => whnf) | ((first | refine zq1 (by omega) ?_ | refine zq2 (by omega) ?_ | refine NumH.rem (by omega) ?_ | refine zq4 (by omega) ?_ | refine zq5 (by omega) ?_ | refine zq6 ?_ | refine Req.mk (by omega) ?_ | refine Req.mk (by dsimp only; omega) ?_ | refine Req.mk (show pendP _ _ by repeat' constructor) ?_ | (with_reducible first | refine brT (by assumption) ?_ | refine brF (by assumption) ?_ | refine brDT (by omega) ?_ | refine brDF (by omega) ?_ | refine brET (by omega) ?_ | refine brEF (by omega) ?_ | refine brNET (by omega) ?_ | refine brNEF (by omega) ?_ | refine brNot ?_)); conv => whnf))
            · have hdec : decR true d p = .tup [.int .i64 (0 - (up * 65536 + q + 1)), .int .i64 0] := by rw [decR, if_neg g0, hv, if_neg gv, if_pos rfl]
              rw [hdec]
              clear hdec hv hvz eup
              conv => whnf
              repeat' (first | exact rfl | (refine CallH.lift seat_g cm (by simp [Closed, ClosedL]) (by simp [Closed, ClosedL]) ?_; conv => whnf) | (refine CallH.lift seat_g cd (by simp [Closed, ClosedL]) (by simp [Closed, ClosedL]) ?_; conv => whnf) | (refine Req.mk (by decide) ?_; refine WrapH.is (up * 65536) (wrap_u64 (n := up * 65536) (by omega) (by omega)) ?_; conv => whnf) | ((first | refine zq1 (by omega) ?_ | refine zq2 (by omega) ?_ | refine NumH.rem (by omega) ?_ | refine zq4 (by omega) ?_ | refine zq5 (by omega) ?_ | refine zq6 ?_ | refine Req.mk (by omega) ?_ | refine Req.mk (by dsimp only; omega) ?_ | refine Req.mk (show pendP _ _ by repeat' constructor) ?_ | (with_reducible first | refine brT (by assumption) ?_ | refine brF (by assumption) ?_ | refine brDT (by omega) ?_ | refine brDF (by omega) ?_ | refine brET (by omega) ?_ | refine brEF (by omega) ?_ | refine brNET (by omega) ?_ | refine brNEF (by omega) ?_ | refine brNot ?_)); conv => whnf))
          by_cases r2 : r = 50000000000000000
          · have hv : vZ true d p = up * 65536 + q + 1 := by rw [hvz, if_pos (by simp [hmm]; omega)]
            by_cases gv : up * 65536 + q + 1 ≥ 4294967296
            · have hdec : decR true d p = .tup [.int .i64 0, .int .i64 2] := by rw [decR, if_neg g0, hv, if_pos gv]
              rw [hdec]
              clear hdec hv hvz eup
              conv => whnf
              repeat' (first | exact rfl | (refine CallH.lift seat_g cm (by simp [Closed, ClosedL]) (by simp [Closed, ClosedL]) ?_; conv => whnf) | (refine CallH.lift seat_g cd (by simp [Closed, ClosedL]) (by simp [Closed, ClosedL]) ?_; conv => whnf) | (refine Req.mk (by decide) ?_; refine WrapH.is (up * 65536) (wrap_u64 (n := up * 65536) (by omega) (by omega)) ?_; conv => whnf) | ((first | refine zq1 (by omega) ?_ | refine zq2 (by omega) ?_ | refine NumH.rem (by omega) ?_ | refine zq4 (by omega) ?_ | refine zq5 (by omega) ?_ | refine zq6 ?_ | refine Req.mk (by omega) ?_ | refine Req.mk (by dsimp only; omega) ?_ | refine Req.mk (show pendP _ _ by repeat' constructor) ?_ | (with_reducible first | refine brT (by assumption) ?_ | refine brF (by assumption) ?_ | refine brDT (by omega) ?_ | refine brDF (by omega) ?_ | refine brET (by omega) ?_ | refine brEF (by omega) ?_ | refine brNET (by omega) ?_ | refine brNEF (by omega) ?_ | refine brNot ?_)); conv => whnf))
            · have hdec : decR true d p = .tup [.int .i64 (0 - (up * 65536 + q + 1)), .int .i64 0] := by rw [decR, if_neg g0, hv, if_neg gv, if_pos rfl]
              rw [hdec]
              clear hdec hv hvz eup
              conv => whnf
              repeat' (first | exact rfl | (refine CallH.lift seat_g cm (by simp [Closed, ClosedL]) (by simp [Closed, ClosedL]) ?_; conv => whnf) | (refine CallH.lift seat_g cd (by simp [Closed, ClosedL]) (by simp [Closed, ClosedL]) ?_; conv => whnf) | (refine Req.mk (by decide) ?_; refine WrapH.is (up * 65536) (wrap_u64 (n := up * 65536) (by omega) (by omega)) ?_; conv => whnf) | ((first | refine zq1 (by omega) ?_ | refine zq2 (by omega) ?_ | refine NumH.rem (by omega) ?_ | refine zq4 (by omega) ?_ | refine zq5 (by omega) ?_ | refine zq6 ?_ | refine Req.mk (by omega) ?_ | refine Req.mk (by dsimp only; omega) ?_ | refine Req.mk (show pendP _ _ by repeat' constructor) ?_ | (with_reducible first | refine brT (by assumption) ?_ | refine brF (by assumption) ?_ | refine brDT (by omega) ?_ | refine brDF (by omega) ?_ | refine brET (by omega) ?_ | refine brEF (by omega) ?_ | refine brNET (by omega) ?_ | refine brNEF (by omega) ?_ | refine brNot ?_)); conv => whnf))
          have hv : vZ true d p = up * 65536 + q := by rw [hvz, if_neg (by simp [hmm]; omega), Int.add_zero]
          by_cases gv : up * 65536 + q ≥ 4294967296
          · have hdec : decR true d p = .tup [.int .i64 0, .int .i64 2] := by rw [decR, if_neg g0, hv, if_pos gv]
            rw [hdec]
            clear hdec hv hvz eup
            conv => whnf
            repeat' (first | exact rfl | (refine CallH.lift seat_g cm (by simp [Closed, ClosedL]) (by simp [Closed, ClosedL]) ?_; conv => whnf) | (refine CallH.lift seat_g cd (by simp [Closed, ClosedL]) (by simp [Closed, ClosedL]) ?_; conv => whnf) | (refine Req.mk (by decide) ?_; refine WrapH.is (up * 65536) (wrap_u64 (n := up * 65536) (by omega) (by omega)) ?_; conv => whnf) | ((first | refine zq1 (by omega) ?_ | refine zq2 (by omega) ?_ | refine NumH.rem (by omega) ?_ | refine zq4 (by omega) ?_ | refine zq5 (by omega) ?_ | refine zq6 ?_ | refine Req.mk (by omega) ?_ | refine Req.mk (by dsimp only; omega) ?_ | refine Req.mk (show pendP _ _ by repeat' constructor) ?_ | (with_reducible first | refine brT (by assumption) ?_ | refine brF (by assumption) ?_ | refine brDT (by omega) ?_ | refine brDF (by omega) ?_ | refine brET (by omega) ?_ | refine brEF (by omega) ?_ | refine brNET (by omega) ?_ | refine brNEF (by omega) ?_ | refine brNot ?_)); conv => whnf))
          · have hdec : decR true d p = .tup [.int .i64 (0 - (up * 65536 + q)), .int .i64 0] := by rw [decR, if_neg g0, hv, if_neg gv, if_pos rfl]
            rw [hdec]
            clear hdec hv hvz eup
            conv => whnf
            repeat' (first | exact rfl | (refine CallH.lift seat_g cm (by simp [Closed, ClosedL]) (by simp [Closed, ClosedL]) ?_; conv => whnf) | (refine CallH.lift seat_g cd (by simp [Closed, ClosedL]) (by simp [Closed, ClosedL]) ?_; conv => whnf) | (refine Req.mk (by decide) ?_; refine WrapH.is (up * 65536) (wrap_u64 (n := up * 65536) (by omega) (by omega)) ?_; conv => whnf) | ((first | refine zq1 (by omega) ?_ | refine zq2 (by omega) ?_ | refine NumH.rem (by omega) ?_ | refine zq4 (by omega) ?_ | refine zq5 (by omega) ?_ | refine zq6 ?_ | refine Req.mk (by omega) ?_ | refine Req.mk (by dsimp only; omega) ?_ | refine Req.mk (show pendP _ _ by repeat' constructor) ?_ | (with_reducible first | refine brT (by assumption) ?_ | refine brF (by assumption) ?_ | refine brDT (by omega) ?_ | refine brDF (by omega) ?_ | refine brET (by omega) ?_ | refine brEF (by omega) ?_ | refine brNET (by omega) ?_ | refine brNEF (by omega) ?_ | refine brNot ?_)); conv => whnf))
      · have hmm : moreB d p = false := by simp [moreB, m1]; omega
        cases bl with
        | false =>
          by_cases r1 : r > 50000000000000000
          · have hv : vZ false d p = up * 65536 + q + 1 := by rw [hvz, if_pos (by simp [hmm]; omega)]
            by_cases gv : up * 65536 + q + 1 ≥ 4294967296
            · have hdec : decR false d p = .tup [.int .i64 0, .int .i64 2] := by rw [decR, if_neg g0, hv, if_pos gv]
              rw [hdec]
              clear hdec hv hvz eup
              conv => whnf
              repeat' (first | exact rfl | (refine CallH.lift seat_g cm (by simp [Closed, ClosedL]) (by simp [Closed, ClosedL]) ?_; conv => whnf) | (refine CallH.lift seat_g cd (by simp [Closed, ClosedL]) (by simp [Closed, ClosedL]) ?_; conv => whnf) | (refine Req.mk (by decide) ?_; refine WrapH.is (up * 65536) (wrap_u64 (n := up * 65536) (by omega) (by omega)) ?_; conv => whnf) | ((first | refine zq1 (by omega) ?_ | refine zq2 (by omega) ?_ | refine NumH.rem (by omega) ?_ | refine zq4 (by omega) ?_ | refine zq5 (by omega) ?_ | refine zq6 ?_ | refine Req.mk (by omega) ?_ | refine Req.mk (by dsimp only; omega) ?_ | refine Req.mk (show pendP _ _ by repeat' constructor) ?_ | (with_reducible first | refine brT (by assumption) ?_ | refine brF (by assumption) ?_ | refine brDT (by omega) ?_ | refine brDF (by omega) ?_ | refine brET (by omega) ?_ | refine brEF (by omega) ?_ | refine brNET (by omega) ?_ | refine brNEF (by omega) ?_ | refine brNot ?_)); conv => whnf))
            · have hdec : decR false d p = .tup [.int .i64 (up * 65536 + q + 1), .int .i64 0] := by rw [decR, if_neg g0, hv, if_neg gv, if_neg (by decide)]
              rw [hdec]
              clear hdec hv hvz eup
              conv => whnf
              repeat' (first | exact rfl | (refine CallH.lift seat_g cm (by simp [Closed, ClosedL]) (by simp [Closed, ClosedL]) ?_; conv => whnf) | (refine CallH.lift seat_g cd (by simp [Closed, ClosedL]) (by simp [Closed, ClosedL]) ?_; conv => whnf) | (refine Req.mk (by decide) ?_; refine WrapH.is (up * 65536) (wrap_u64 (n := up * 65536) (by omega) (by omega)) ?_; conv => whnf) | ((first | refine zq1 (by omega) ?_ | refine zq2 (by omega) ?_ | refine NumH.rem (by omega) ?_ | refine zq4 (by omega) ?_ | refine zq5 (by omega) ?_ | refine zq6 ?_ | refine Req.mk (by omega) ?_ | refine Req.mk (by dsimp only; omega) ?_ | refine Req.mk (show pendP _ _ by repeat' constructor) ?_ | (with_reducible first | refine brT (by assumption) ?_ | refine brF (by assumption) ?_ | refine brDT (by omega) ?_ | refine brDF (by omega) ?_ | refine brET (by omega) ?_ | refine brEF (by omega) ?_ | refine brNET (by omega) ?_ | refine brNEF (by omega) ?_ | refine brNot ?_)); conv => whnf))
          by_cases r2 : r = 50000000000000000
          · have hv : vZ false d p = up * 65536 + q + 1 := by rw [hvz, if_pos (by simp [hmm]; omega)]
            by_cases gv : up * 65536 + q + 1 ≥ 4294967296
            · have hdec : decR false d p = .tup [.int .i64 0, .int .i64 2] := by rw [decR, if_neg g0, hv, if_pos gv]
              rw [hdec]
              clear hdec hv hvz eup
              conv => whnf
              repeat' (first | exact rfl | (refine CallH.lift seat_g cm (by simp [Closed, ClosedL]) (by simp [Closed, ClosedL]) ?_; conv => whnf) | (refine CallH.lift seat_g cd (by simp [Closed, ClosedL]) (by simp [Closed, ClosedL]) ?_; conv => whnf) | (refine Req.mk (by decide) ?_; refine WrapH.is (up * 65536) (wrap_u64 (n := up * 65536) (by omega) (by omega)) ?_; conv => whnf) | ((first | refine zq1 (by omega) ?_ | refine zq2 (by omega) ?_ | refine NumH.rem (by omega) ?_ | refine zq4 (by omega) ?_ | refine zq5 (by omega) ?_ | refine zq6 ?_ | refine Req.mk (by omega) ?_ | refine Req.mk (by dsimp only; omega) ?_ | refine Req.mk (show pendP _ _ by repeat' constructor) ?_ | (with_reducible first | refine brT (by assumption) ?_ | refine brF (by assumption) ?_ | refine brDT (by omega) ?_ | refine brDF (by omega) ?_ | refine brET (by omega) ?_ | refine brEF (by omega) ?_ | refine brNET (by omega) ?_ | refine brNEF (by omega) ?_ | refine brNot ?_)); conv => whnf))
            · have hdec : decR false d p = .tup [.int .i64 (up * 65536 + q + 1), .int .i64 0] := by rw [decR, if_neg g0, hv, if_neg gv, if_neg (by decide)]
              rw [hdec]
              clear hdec hv hvz eup
              conv => whnf
              repeat' (first | exact rfl | (refine CallH.lift seat_g cm (by simp [Closed, ClosedL]) (by simp [Closed, ClosedL]) ?_; conv => whnf) | (refine CallH.lift seat_g cd (by simp [Closed, ClosedL]) (by simp [Closed, ClosedL]) ?_; conv => whnf) | (refine Req.mk (by decide) ?_; refine WrapH.is (up * 65536) (wrap_u64 (n := up * 65536) (by omega) (by omega)) ?_; conv => whnf) | ((first | refine zq1 (by omega) ?_ | refine zq2 (by omega) ?_ | refine NumH.rem (by omega) ?_ | refine zq4 (by omega) ?_ | refine zq5 (by omega) ?_ | refine zq6 ?_ | refine Req.mk (by omega) ?_ | refine Req.mk (by dsimp only; omega) ?_ | refine Req.mk (show pendP _ _ by repeat' constructor) ?_ | (with_reducible first | refine brT (by assumption) ?_ | refine brF (by assumption) ?_ | refine brDT (by omega) ?_ | refine brDF (by omega) ?_ | refine brET (by omega) ?_ | refine brEF (by omega) ?_ | refine brNET (by omega) ?_ | refine brNEF (by omega) ?_ | refine brNot ?_)); conv => whnf))
          have hv : vZ false d p = up * 65536 + q := by rw [hvz, if_neg (by simp [hmm]; omega), Int.add_zero]
          by_cases gv : up * 65536 + q ≥ 4294967296
          · have hdec : decR false d p = .tup [.int .i64 0, .int .i64 2] := by rw [decR, if_neg g0, hv, if_pos gv]
            rw [hdec]
            clear hdec hv hvz eup
            conv => whnf
            repeat' (first | exact rfl | (refine CallH.lift seat_g cm (by simp [Closed, ClosedL]) (by simp [Closed, ClosedL]) ?_; conv => whnf) | (refine CallH.lift seat_g cd (by simp [Closed, ClosedL]) (by simp [Closed, ClosedL]) ?_; conv => whnf) | (refine Req.mk (by decide) ?_; refine WrapH.is (up * 65536) (wrap_u64 (n := up * 65536) (by omega) (by omega)) ?_; conv => whnf) | ((first | refine zq1 (by omega) ?_ | refine zq2 (by omega) ?_ | refine NumH.rem (by omega) ?_ | refine zq4 (by omega) ?_ | refine zq5 (by omega) ?_ | refine zq6 ?_ | refine Req.mk (by omega) ?_ | refine Req.mk (by dsimp only; omega) ?_ | refine Req.mk (show pendP _ _ by repeat' constructor) ?_ | (with_reducible first | refine brT (by assumption) ?_ | refine brF (by assumption) ?_ | refine brDT (by omega) ?_ | refine brDF (by omega) ?_ | refine brET (by omega) ?_ | refine brEF (by omega) ?_ | refine brNET (by omega) ?_ | refine brNEF (by omega) ?_ | refine brNot ?_)); conv => whnf))
          · have hdec : decR false d p = .tup [.int .i64 (up * 65536 + q), .int .i64 0] := by rw [decR, if_neg g0, hv, if_neg gv, if_neg (by decide)]
            rw [hdec]
            clear hdec hv hvz eup
            conv => whnf
            repeat' (first | exact rfl | (refine CallH.lift seat_g cm (by simp [Closed, ClosedL]) (by simp [Closed, ClosedL]) ?_; conv => whnf) | (refine CallH.lift seat_g cd (by simp [Closed, ClosedL]) (by simp [Closed, ClosedL]) ?_; conv => whnf) | (refine Req.mk (by decide) ?_; refine WrapH.is (up * 65536) (wrap_u64 (n := up * 65536) (by omega) (by omega)) ?_; conv => whnf) | ((first | refine zq1 (by omega) ?_ | refine zq2 (by omega) ?_ | refine NumH.rem (by omega) ?_ | refine zq4 (by omega) ?_ | refine zq5 (by omega) ?_ | refine zq6 ?_ | refine Req.mk (by omega) ?_ | refine Req.mk (by dsimp only; omega) ?_ | refine Req.mk (show pendP _ _ by repeat' constructor) ?_ | (with_reducible first | refine brT (by assumption) ?_ | refine brF (by assumption) ?_ | refine brDT (by omega) ?_ | refine brDF (by omega) ?_ | refine brET (by omega) ?_ | refine brEF (by omega) ?_ | refine brNET (by omega) ?_ | refine brNEF (by omega) ?_ | refine brNot ?_)); conv => whnf))
        | true =>
          by_cases r1 : r > 50000000000000000
          · have hv : vZ true d p = up * 65536 + q + 1 := by rw [hvz, if_pos (by simp [hmm]; omega)]
            by_cases gv : up * 65536 + q + 1 ≥ 4294967296
            · have hdec : decR true d p = .tup [.int .i64 0, .int .i64 2] := by rw [decR, if_neg g0, hv, if_pos gv]
              rw [hdec]
              clear hdec hv hvz eup
              conv => whnf
              repeat' (first | exact rfl | (refine CallH.lift seat_g cm (by simp [Closed, ClosedL]) (by simp [Closed, ClosedL]) ?_; conv => whnf) | (refine CallH.lift seat_g cd (by simp [Closed, ClosedL]) (by simp [Closed, ClosedL]) ?_; conv => whnf) | (refine Req.mk (by decide) ?_; refine WrapH.is (up * 65536) (wrap_u64 (n := up * 65536) (by omega) (by omega)) ?_; conv => whnf) | ((first | refine zq1 (by omega) ?_ | refine zq2 (by omega) ?_ | refine NumH.rem (by omega) ?_ | refine zq4 (by omega) ?_ | refine zq5 (by omega) ?_ | refine zq6 ?_ | refine Req.mk (by omega) ?_ | refine Req.mk (by dsimp only; omega) ?_ | refine Req.mk (show pendP _ _ by repeat' constructor) ?_ | (with_reducible first | refine brT (by assumption) ?_ | refine brF (by assumption) ?_ | refine brDT (by omega) ?_ | refine brDF (by omega) ?_ | refine brET (by omega) ?_ | refine brEF (by omega) ?_ | refine brNET (by omega) ?_ | refine brNEF (by omega) ?_ | refine brNot ?_)); conv => whnf))
            · have hdec : decR true d p = .tup [.int .i64 (0 - (up * 65536 + q + 1)), .int .i64 0] := by rw [decR, if_neg g0, hv, if_neg gv, if_pos rfl]
              rw [hdec]
              clear hdec hv hvz eup
              conv => whnf
              repeat' (first | exact rfl | (refine CallH.lift seat_g cm (by simp [Closed, ClosedL]) (by simp [Closed, ClosedL]) ?_; conv => whnf) | (refine CallH.lift seat_g cd (by simp [Closed, ClosedL]) (by simp [Closed, ClosedL]) ?_; conv => whnf) | (refine Req.mk (by decide) ?_; refine WrapH.is (up * 65536) (wrap_u64 (n := up * 65536) (by omega) (by omega)) ?_; conv => whnf) | ((first | refine zq1 (by omega) ?_ | refine zq2 (by omega) ?_ | refine NumH.rem (by omega) ?_ | refine zq4 (by omega) ?_ | refine zq5 (by omega) ?_ | refine zq6 ?_ | refine Req.mk (by omega) ?_ | refine Req.mk (by dsimp only; omega) ?_ | refine Req.mk (show pendP _ _ by repeat' constructor) ?_ | (with_reducible first | refine brT (by assumption) ?_ | refine brF (by assumption) ?_ | refine brDT (by omega) ?_ | refine brDF (by omega) ?_ | refine brET (by omega) ?_ | refine brEF (by omega) ?_ | refine brNET (by omega) ?_ | refine brNEF (by omega) ?_ | refine brNot ?_)); conv => whnf))
          by_cases r2 : r = 50000000000000000
          · have hv : vZ true d p = up * 65536 + q := by rw [hvz, if_neg (by simp [hmm]; omega), Int.add_zero]
            by_cases gv : up * 65536 + q ≥ 4294967296
            · have hdec : decR true d p = .tup [.int .i64 0, .int .i64 2] := by rw [decR, if_neg g0, hv, if_pos gv]
              rw [hdec]
              clear hdec hv hvz eup
              conv => whnf
              repeat' (first | exact rfl | (refine CallH.lift seat_g cm (by simp [Closed, ClosedL]) (by simp [Closed, ClosedL]) ?_; conv => whnf) | (refine CallH.lift seat_g cd (by simp [Closed, ClosedL]) (by simp [Closed, ClosedL]) ?_; conv => whnf) | (refine Req.mk (by decide) ?_; refine WrapH.is (up * 65536) (wrap_u64 (n := up * 65536) (by omega) (by omega)) ?_; conv => whnf) | ((first | refine zq1 (by omega) ?_ | refine zq2 (by omega) ?_ | refine NumH.rem (by omega) ?_ | refine zq4 (by omega) ?_ | refine zq5 (by omega) ?_ | refine zq6 ?_ | refine Req.mk (by omega) ?_ | refine Req.mk (by dsimp only; omega) ?_ | refine Req.mk (show pendP _ _ by repeat' constructor) ?_ | (with_reducible first | refine brT (by assumption) ?_ | refine brF (by assumption) ?_ | refine brDT (by omega) ?_ | refine brDF (by omega) ?_ | refine brET (by omega) ?_ | refine brEF (by omega) ?_ | refine brNET (by omega) ?_ | refine brNEF (by omega) ?_ | refine brNot ?_)); conv => whnf))
            · have hdec : decR true d p = .tup [.int .i64 (0 - (up * 65536 + q)), .int .i64 0] := by rw [decR, if_neg g0, hv, if_neg gv, if_pos rfl]
              rw [hdec]
              clear hdec hv hvz eup
              conv => whnf
              repeat' (first | exact rfl | (refine CallH.lift seat_g cm (by simp [Closed, ClosedL]) (by simp [Closed, ClosedL]) ?_; conv => whnf) | (refine CallH.lift seat_g cd (by simp [Closed, ClosedL]) (by simp [Closed, ClosedL]) ?_; conv => whnf) | (refine Req.mk (by decide) ?_; refine WrapH.is (up * 65536) (wrap_u64 (n := up * 65536) (by omega) (by omega)) ?_; conv => whnf) | ((first | refine zq1 (by omega) ?_ | refine zq2 (by omega) ?_ | refine NumH.rem (by omega) ?_ | refine zq4 (by omega) ?_ | refine zq5 (by omega) ?_ | refine zq6 ?_ | refine Req.mk (by omega) ?_ | refine Req.mk (by dsimp only; omega) ?_ | refine Req.mk (show pendP _ _ by repeat' constructor) ?_ | (with_reducible first | refine brT (by assumption) ?_ | refine brF (by assumption) ?_ | refine brDT (by omega) ?_ | refine brDF (by omega) ?_ | refine brET (by omega) ?_ | refine brEF (by omega) ?_ | refine brNET (by omega) ?_ | refine brNEF (by omega) ?_ | refine brNot ?_)); conv => whnf))
          have hv : vZ true d p = up * 65536 + q := by rw [hvz, if_neg (by simp [hmm]; omega), Int.add_zero]
          by_cases gv : up * 65536 + q ≥ 4294967296
          · have hdec : decR true d p = .tup [.int .i64 0, .int .i64 2] := by rw [decR, if_neg g0, hv, if_pos gv]
            rw [hdec]
            clear hdec hv hvz eup
            conv => whnf
            repeat' (first | exact rfl | (refine CallH.lift seat_g cm (by simp [Closed, ClosedL]) (by simp [Closed, ClosedL]) ?_; conv => whnf) | (refine CallH.lift seat_g cd (by simp [Closed, ClosedL]) (by simp [Closed, ClosedL]) ?_; conv => whnf) | (refine Req.mk (by decide) ?_; refine WrapH.is (up * 65536) (wrap_u64 (n := up * 65536) (by omega) (by omega)) ?_; conv => whnf) | ((first | refine zq1 (by omega) ?_ | refine zq2 (by omega) ?_ | refine NumH.rem (by omega) ?_ | refine zq4 (by omega) ?_ | refine zq5 (by omega) ?_ | refine zq6 ?_ | refine Req.mk (by omega) ?_ | refine Req.mk (by dsimp only; omega) ?_ | refine Req.mk (show pendP _ _ by repeat' constructor) ?_ | (with_reducible first | refine brT (by assumption) ?_ | refine brF (by assumption) ?_ | refine brDT (by omega) ?_ | refine brDF (by omega) ?_ | refine brET (by omega) ?_ | refine brEF (by omega) ?_ | refine brNET (by omega) ?_ | refine brNEF (by omega) ?_ | refine brNot ?_)); conv => whnf))
          · have hdec : decR true d p = .tup [.int .i64 (0 - (up * 65536 + q)), .int .i64 0] := by rw [decR, if_neg g0, hv, if_neg gv, if_pos rfl]
            rw [hdec]
            clear hdec hv hvz eup
            conv => whnf
            repeat' (first | exact rfl | (refine CallH.lift seat_g cm (by simp [Closed, ClosedL]) (by simp [Closed, ClosedL]) ?_; conv => whnf) | (refine CallH.lift seat_g cd (by simp [Closed, ClosedL]) (by simp [Closed, ClosedL]) ?_; conv => whnf) | (refine Req.mk (by decide) ?_; refine WrapH.is (up * 65536) (wrap_u64 (n := up * 65536) (by omega) (by omega)) ?_; conv => whnf) | ((first | refine zq1 (by omega) ?_ | refine zq2 (by omega) ?_ | refine NumH.rem (by omega) ?_ | refine zq4 (by omega) ?_ | refine zq5 (by omega) ?_ | refine zq6 ?_ | refine Req.mk (by omega) ?_ | refine Req.mk (by dsimp only; omega) ?_ | refine Req.mk (show pendP _ _ by repeat' constructor) ?_ | (with_reducible first | refine brT (by assumption) ?_ | refine brF (by assumption) ?_ | refine brDT (by omega) ?_ | refine brDF (by omega) ?_ | refine brET (by omega) ?_ | refine brEF (by omega) ?_ | refine brNET (by omega) ?_ | refine brNEF (by omega) ?_ | refine brNot ?_)); conv => whnf))
    · have m1' : ¬ ((0 : Int) < d.length) := by omega
      have hmm : moreB d p = false := by simp [moreB]; omega
      cases bl with
      | false =>
        by_cases r1 : r > 50000000000000000
        · have hv : vZ false d p = up * 65536 + q + 1 := by rw [hvz, if_pos (by simp [hmm]; omega)]
          by_cases gv : up * 65536 + q + 1 ≥ 4294967296
          · have hdec : decR false d p = .tup [.int .i64 0, .int .i64 2] := by rw [decR, if_neg g0, hv, if_pos gv]
            rw [hdec]
            clear hdec hv hvz eup
            conv => whnf
            repeat' (first | exact rfl | (refine CallH.lift seat_g cm (by simp [Closed, ClosedL]) (by simp [Closed, ClosedL]) ?_; conv => whnf) | (refine CallH.lift seat_g cd (by simp [Closed, ClosedL]) (by simp [Closed, ClosedL]) ?_; conv => whnf) | (refine Req.mk (by decide) ?_; refine WrapH.is (up * 65536) (wrap_u64 (n := up * 65536) (by omega) (by omega)) ?_; conv => whnf) | ((first | refine zq1 (by omega) ?_ | refine zq2 (by omega) ?_ | refine NumH.rem (by omega) ?_ | refine zq4 (by omega) ?_ | refine zq5 (by omega) ?_ | refine zq6 ?_ | refine Req.mk (by omega) ?_ | refine Req.mk (by dsimp only; omega) ?_ | refine Req.mk (show pendP _ _ by repeat' constructor) ?_ | (with_reducible first | refine brT (by assumption) ?_ | refine brF (by assumption) ?_ | refine brDT (by omega) ?_ | refine brDF (by omega) ?_ | refine brET (by omega) ?_ | refine brEF (by omega) ?_ | refine brNET (by omega) ?_ | refine brNEF (by omega) ?_ | refine brNot ?_)); conv => whnf))
          · have hdec : decR false d p = .tup [.int .i64 (up * 65536 + q + 1), .int .i64 0] := by rw [decR, if_neg g0, hv, if_neg gv, if_neg (by decide)]
            rw [hdec]
            clear hdec hv hvz eup
            conv => whnf
            repeat' (first | exact rfl | (refine CallH.lift seat_g cm (by simp [Closed, ClosedL]) (by simp [Closed, ClosedL]) ?_; conv => whnf) | (refine CallH.lift seat_g cd (by simp [Closed, ClosedL]) (by simp [Closed, ClosedL]) ?_; conv => whnf) | (refine Req.mk (by decide) ?_; refine WrapH.is (up * 65536) (wrap_u64 (n := up * 65536) (by omega) (by omega)) ?_; conv => whnf) | ((first | refine zq1 (by omega) ?_ | refine zq2 (by omega) ?_ | refine NumH.rem (by omega) ?_ | refine zq4 (by omega) ?_ | refine zq5 (by omega) ?_ | refine zq6 ?_ | refine Req.mk (by omega) ?_ | refine Req.mk (by dsimp only; omega) ?_ | refine Req.mk (show pendP _ _ by repeat' constructor) ?_ | (with_reducible first | refine brT (by assumption) ?_ | refine brF (by assumption) ?_ | refine brDT (by omega) ?_ | refine brDF (by omega) ?_ | refine brET (by omega) ?_ | refine brEF (by omega) ?_ | refine brNET (by omega) ?_ | refine brNEF (by omega) ?_ | refine brNot ?_)); conv => whnf))
        by_cases r2 : r = 50000000000000000
        · have hv : vZ false d p = up * 65536 + q + 1 := by rw [hvz, if_pos (by simp [hmm]; omega)]
          by_cases gv : up * 65536 + q + 1 ≥ 4294967296
          · have hdec : decR false d p = .tup [.int .i64 0, .int .i64 2] := by rw [decR, if_neg g0, hv, if_pos gv]
            rw [hdec]
            clear hdec hv hvz eup
            conv => whnf
            repeat' (first | exact rfl | (refine CallH.lift seat_g cm (by simp [Closed, ClosedL]) (by simp [Closed, ClosedL]) ?_; conv => whnf) | (refine CallH.lift seat_g cd (by simp [Closed, ClosedL]) (by simp [Closed, ClosedL]) ?_; conv => whnf) | (refine Req.mk (by decide) ?_; refine WrapH.is (up * 65536) (wrap_u64 (n := up * 65536) (by omega) (by omega)) ?_; conv => whnf) | ((first | refine zq1 (by omega) ?_ | refine zq2 (by omega) ?_ | refine NumH.rem (by omega) ?_ | refine zq4 (by omega) ?_ | refine zq5 (by omega) ?_ | refine zq6 ?_ | refine Req.mk (by omega) ?_ | refine Req.mk (by dsimp only; omega) ?_ | refine Req.mk (show pendP _ _ by repeat' constructor) ?_ | (with_reducible first | refine brT (by assumption) ?_ | refine brF (by assumption) ?_ | refine brDT (by omega) ?_ | refine brDF (by omega) ?_ | refine brET (by omega) ?_ | refine brEF (by omega) ?_ | refine brNET (by omega) ?_ | refine brNEF (by omega) ?_ | refine brNot ?_)); conv => whnf))
          · have hdec : decR false d p = .tup [.int .i64 (up * 65536 + q + 1), .int .i64 0] := by rw [decR, if_neg g0, hv, if_neg gv, if_neg (by decide)]
            rw [hdec]
            clear hdec hv hvz eup
            conv => whnf
            repeat' (first | exact rfl | (refine CallH.lift seat_g cm (by simp [Closed, ClosedL]) (by simp [Closed, ClosedL]) ?_; conv => whnf) | (refine CallH.lift seat_g cd (by simp [Closed, ClosedL]) (by simp [Closed, ClosedL]) ?_; conv => whnf) | (refine Req.mk (by decide) ?_; refine WrapH.is (up * 65536) (wrap_u64 (n := up * 65536) (by omega) (by omega)) ?_; conv => whnf) | ((first | refine zq1 (by omega) ?_ | refine zq2 (by omega) ?_ | refine NumH.rem (by omega) ?_ | refine zq4 (by omega) ?_ | refine zq5 (by omega) ?_ | refine zq6 ?_ | refine Req.mk (by omega) ?_ | refine Req.mk (by dsimp only; omega) ?_ | refine Req.mk (show pendP _ _ by repeat' constructor) ?_ | (with_reducible first | refine brT (by assumption) ?_ | refine brF (by assumption) ?_ | refine brDT (by omega) ?_ | refine brDF (by omega) ?_ | refine brET (by omega) ?_ | refine brEF (by omega) ?_ | refine brNET (by omega) ?_ | refine brNEF (by omega) ?_ | refine brNot ?_)); conv => whnf))
        have hv : vZ false d p = up * 65536 + q := by rw [hvz, if_neg (by simp [hmm]; omega), Int.add_zero]
        by_cases gv : up * 65536 + q ≥ 4294967296
        · have hdec : decR false d p = .tup [.int .i64 0, .int .i64 2] := by rw [decR, if_neg g0, hv, if_pos gv]
          rw [hdec]
          clear hdec hv hvz eup
          conv => whnf
          repeat' (first | exact rfl | (refine CallH.lift seat_g cm (by simp [Closed, ClosedL]) (by simp [Closed, ClosedL]) ?_; conv => whnf) | (refine CallH.lift seat_g cd (by simp [Closed, ClosedL]) (by simp [Closed, ClosedL]) ?_; conv => whnf) | (refine Req.mk (by decide) ?_; refine WrapH.is (up * 65536) (wrap_u64 (n := up * 65536) (by omega) (by omega)) ?_; conv => whnf) | ((first | refine zq1 (by omega) ?_ | refine zq2 (by omega) ?_ | refine NumH.rem (by omega) ?_ | refine zq4 (by omega) ?_ | refine zq5 (by omega) ?_ | refine zq6 ?_ | refine Req.mk (by omega) ?_ | refine Req.mk (by dsimp only; omega) ?_ | refine Req.mk (show pendP _ _ by repeat' constructor) ?_ | (with_reducible first | refine brT (by assumption) ?_ | refine brF (by assumption) ?_ | refine brDT (by omega) ?_ | refine brDF (by omega) ?_ | refine brET (by omega) ?_ | refine brEF (by omega) ?_ | refine brNET (by omega) ?_ | refine brNEF (by omega) ?_ | refine brNot ?_)); conv => whnf))
        · have hdec : decR false d p = .tup [.int .i64 (up * 65536 + q), .int .i64 0] := by rw [decR, if_neg g0, hv, if_neg gv, if_neg (by decide)]
          rw [hdec]
          clear hdec hv hvz eup
          conv => whnf
          repeat' (first | exact rfl | (refine CallH.lift seat_g cm (by simp [Closed, ClosedL]) (by simp [Closed, ClosedL]) ?_; conv => whnf) | (refine CallH.lift seat_g cd (by simp [Closed, ClosedL]) (by simp [Closed, ClosedL]) ?_; conv => whnf) | (refine Req.mk (by decide) ?_; refine WrapH.is (up * 65536) (wrap_u64 (n := up * 65536) (by omega) (by omega)) ?_; conv => whnf) | ((first | refine zq1 (by omega) ?_ | refine zq2 (by omega) ?_ | refine NumH.rem (by omega) ?_ | refine zq4 (by omega) ?_ | refine zq5 (by omega) ?_ | refine zq6 ?_ | refine Req.mk (by omega) ?_ | refine Req.mk (by dsimp only; omega) ?_ | refine Req.mk (show pendP _ _ by repeat' constructor) ?_ | (with_reducible first | refine brT (by assumption) ?_ | refine brF (by assumption) ?_ | refine brDT (by omega) ?_ | refine brDF (by omega) ?_ | refine brET (by omega) ?_ | refine brEF (by omega) ?_ | refine brNET (by omega) ?_ | refine brNEF (by omega) ?_ | refine brNot ?_)); conv => whnf))
      | true =>
        by_cases r1 : r > 50000000000000000
        · have hv : vZ true d p = up * 65536 + q + 1 := by rw [hvz, if_pos (by simp [hmm]; omega)]
          by_cases gv : up * 65536 + q + 1 ≥ 4294967296
          · have hdec : decR true d p = .tup [.int .i64 0, .int .i64 2] := by rw [decR, if_neg g0, hv, if_pos gv]
            rw [hdec]
            clear hdec hv hvz eup
            conv => whnf
            repeat' (first | exact rfl | (refine CallH.lift seat_g cm (by simp [Closed, ClosedL]) (by simp [Closed, ClosedL]) ?_; conv => whnf) | (refine CallH.lift seat_g cd (by simp [Closed, ClosedL]) (by simp [Closed, ClosedL]) ?_; conv => whnf) | (refine Req.mk (by decide) ?_; refine WrapH.is (up * 65536) (wrap_u64 (n := up * 65536) (by omega) (by omega)) ?_; conv => whnf) | ((first | refine zq1 (by omega) ?_ | refine zq2 (by omega) ?_ | refine NumH.rem (by omega) ?_ | refine zq4 (by omega) ?_ | refine zq5 (by omega) ?_ | refine zq6 ?_ | refine Req.mk (by omega) ?_ | refine Req.mk (by dsimp only; omega) ?_ | refine Req.mk (show pendP _ _ by repeat' constructor) ?_ | (with_reducible first | refine brT (by assumption) ?_ | refine brF (by assumption) ?_ | refine brDT (by omega) ?_ | refine brDF (by omega) ?_ | refine brET (by omega) ?_ | refine brEF (by omega) ?_ | refine brNET (by omega) ?_ | refine brNEF (by omega) ?_ | refine brNot ?_)); conv => whnf))
          · have hdec : decR true d p = .tup [.int .i64 (0 - (up * 65536 + q + 1)), .int .i64 0] := by rw [decR, if_neg g0, hv, if_neg gv, if_pos rfl]
            rw [hdec]
            clear hdec hv hvz eup
            conv => whnf
            repeat' (first | exact rfl | (refine CallH.lift seat_g cm (by simp [Closed, ClosedL]) (by simp [Closed, ClosedL]) ?_; conv => whnf) | (refine CallH.lift seat_g cd (by simp [Closed, ClosedL]) (by simp [Closed, ClosedL]) ?_; conv => whnf) | (refine Req.mk (by decide) ?_; refine WrapH.is (up * 65536) (wrap_u64 (n := up * 65536) (by omega) (by omega)) ?_; conv => whnf) | ((first | refine zq1 (by omega) ?_ | refine zq2 (by omega) ?_ | refine NumH.rem (by omega) ?_ | refine zq4 (by omega) ?_ | refine zq5 (by omega) ?_ | refine zq6 ?_ | refine Req.mk (by omega) ?_ | refine Req.mk (by dsimp only; omega) ?_ | refine Req.mk (show pendP _ _ by repeat' constructor) ?_ | (with_reducible first | refine brT (by assumption) ?_ | refine brF (by assumption) ?_ | refine brDT (by omega) ?_ | refine brDF (by omega) ?_ | refine brET (by omega) ?_ | refine brEF (by omega) ?_ | refine brNET (by omega) ?_ | refine brNEF (by omega) ?_ | refine brNot ?_)); conv => whnf))
        by_cases r2 : r = 50000000000000000
        · have hv : vZ true d p = up * 65536 + q := by rw [hvz, if_neg (by simp [hmm]; omega), Int.add_zero]
          by_cases gv : up * 65536 + q ≥ 4294967296
          · have hdec : decR true d p = .tup [.int .i64 0, .int .i64 2] := by rw [decR, if_neg g0, hv, if_pos gv]
            rw [hdec]
            clear hdec hv hvz eup
            conv => whnf
            repeat' (first | exact rfl | (refine CallH.lift seat_g cm (by simp [Closed, ClosedL]) (by simp [Closed, ClosedL]) ?_; conv => whnf) | (refine CallH.lift seat_g cd (by simp [Closed, ClosedL]) (by simp [Closed, ClosedL]) ?_; conv => whnf) | (refine Req.mk (by decide) ?_; refine WrapH.is (up * 65536) (wrap_u64 (n := up * 65536) (by omega) (by omega)) ?_; conv => whnf) | ((first | refine zq1 (by omega) ?_ | refine zq2 (by omega) ?_ | refine NumH.rem (by omega) ?_ | refine zq4 (by omega) ?_ | refine zq5 (by omega) ?_ | refine zq6 ?_ | refine Req.mk (by omega) ?_ | refine Req.mk (by dsimp only; omega) ?_ | refine Req.mk (show pendP _ _ by repeat' constructor) ?_ | (with_reducible first | refine brT (by assumption) ?_ | refine brF (by assumption) ?_ | refine brDT (by omega) ?_ | refine brDF (by omega) ?_ | refine brET (by omega) ?_ | refine brEF (by omega) ?_ | refine brNET (by omega) ?_ | refine brNEF (by omega) ?_ | refine brNot ?_)); conv => whnf))
          · have hdec : decR true d p = .tup [.int .i64 (0 - (up * 65536 + q)), .int .i64 0] := by rw [decR, if_neg g0, hv, if_neg gv, if_pos rfl]
            rw [hdec]
            clear hdec hv hvz eup
            conv => whnf
            repeat' (first | exact rfl | (refine CallH.lift seat_g cm (by simp [Closed, ClosedL]) (by simp [Closed, ClosedL]) ?_; conv => whnf) | (refine CallH.lift seat_g cd (by simp [Closed, ClosedL]) (by simp [Closed, ClosedL]) ?_; conv => whnf) | (refine Req.mk (by decide) ?_; refine WrapH.is (up * 65536) (wrap_u64 (n := up * 65536) (by omega) (by omega)) ?_; conv => whnf) | ((first | refine zq1 (by omega) ?_ | refine zq2 (by omega) ?_ | refine NumH.rem (by omega) ?_ | refine zq4 (by omega) ?_ | refine zq5 (by omega) ?_ | refine zq6 ?_ | refine Req.mk (by omega) ?_ | refine Req.mk (by dsimp only; omega) ?_ | refine Req.mk (show pendP _ _ by repeat' constructor) ?_ | (with_reducible first | refine brT (by assumption) ?_ | refine brF (by assumption) ?_ | refine brDT (by omega) ?_ | refine brDF (by omega) ?_ | refine brET (by omega) ?_ | refine brEF (by omega) ?_ | refine brNET (by omega) ?_ | refine brNEF (by omega) ?_ | refine brNot ?_)); conv => whnf))
        have hv : vZ true d p = up * 65536 + q := by rw [hvz, if_neg (by simp [hmm]; omega), Int.add_zero]
        by_cases gv : up * 65536 + q ≥ 4294967296
        · have hdec : decR true d p = .tup [.int .i64 0, .int .i64 2] := by rw [decR, if_neg g0, hv, if_pos gv]
          rw [hdec]
          clear hdec hv hvz eup
          conv => whnf
          repeat' (first | exact rfl | (refine CallH.lift seat_g cm (by simp [Closed, ClosedL]) (by simp [Closed, ClosedL]) ?_; conv => whnf) | (refine CallH.lift seat_g cd (by simp [Closed, ClosedL]) (by simp [Closed, ClosedL]) ?_; conv => whnf) | (refine Req.mk (by decide) ?_; refine WrapH.is (up * 65536) (wrap_u64 (n := up * 65536) (by omega) (by omega)) ?_; conv => whnf) | ((first | refine zq1 (by omega) ?_ | refine zq2 (by omega) ?_ | refine NumH.rem (by omega) ?_ | refine zq4 (by omega) ?_ | refine zq5 (by omega) ?_ | refine zq6 ?_ | refine Req.mk (by omega) ?_ | refine Req.mk (by dsimp only; omega) ?_ | refine Req.mk (show pendP _ _ by repeat' constructor) ?_ | (with_reducible first | refine brT (by assumption) ?_ | refine brF (by assumption) ?_ | refine brDT (by omega) ?_ | refine brDF (by omega) ?_ | refine brET (by omega) ?_ | refine brEF (by omega) ?_ | refine brNET (by omega) ?_ | refine brNEF (by omega) ?_ | refine brNot ?_)); conv => whnf))
        · have hdec : decR true d p = .tup [.int .i64 (0 - (up * 65536 + q)), .int .i64 0] := by rw [decR, if_neg g0, hv, if_neg gv, if_pos rfl]
          rw [hdec]
          clear hdec hv hvz eup
          conv => whnf
          repeat' (first | exact rfl | (refine CallH.lift seat_g cm (by simp [Closed, ClosedL]) (by simp [Closed, ClosedL]) ?_; conv => whnf) | (refine CallH.lift seat_g cd (by simp [Closed, ClosedL]) (by simp [Closed, ClosedL]) ?_; conv => whnf) | (refine Req.mk (by decide) ?_; refine WrapH.is (up * 65536) (wrap_u64 (n := up * 65536) (by omega) (by omega)) ?_; conv => whnf) | ((first | refine zq1 (by omega) ?_ | refine zq2 (by omega) ?_ | refine NumH.rem (by omega) ?_ | refine zq4 (by omega) ?_ | refine zq5 (by omega) ?_ | refine zq6 ?_ | refine Req.mk (by omega) ?_ | refine Req.mk (by dsimp only; omega) ?_ | refine Req.mk (show pendP _ _ by repeat' constructor) ?_ | (with_reducible first | refine brT (by assumption) ?_ | refine brF (by assumption) ?_ | refine brDT (by omega) ?_ | refine brDF (by omega) ?_ | refine brET (by omega) ?_ | refine brEF (by omega) ?_ | refine brNET (by omega) ?_ | refine brNEF (by omega) ?_ | refine brNot ?_)); conv => whnf))
end Go.Proofs.YtjpaapkdbohgeaaDoor
namespace Go.Proofs.YtjpaapkdbohgeaaDoor
open Go.Abs
def memP (bl : Bool) (N : Nat) (P : Int) (u d : Nat) : Heap := [.var [.bool bl, .bool false, lv (dig N), .int .i64 P] 110, .var [.bool false, lv (dig u)] 93, .var [.bool false, lv (dig d)] 93]
theorem dig_le16 {n k : Nat} (h : n < 10 ^ (4 * k)) (hk : k ≤ 400) : (dig n).length ≤ 400 := Nat.le_trans (dig_length_lt (Nat.lt_of_lt_of_le h (ten_le (Nat.le_refl _)))) hk
theorem pow_step {b e f : Nat} (hb : 0 < b) (h : e + 1 ≤ f) : b ^ e * b ≤ b ^ f := by rw [← Nat.pow_succ]; exact Nat.pow_le_pow_right hb h
set_option maxRecDepth 20000 in
set_option maxHeartbeats 2000000 in
theorem c_rparseV (s : List UInt8) (bl : Bool) (N : Nat) (P : Int) (hl : s.length ≤ 400) (hsc : scR true s 0 = (s.length, true)) (cr : ACalls seat 68 [.str s] [] (fun x _ => x = .ret (rV bl N P))) (hN : N < 10 ^ (4 * 100)) (hP : -(1400 : Int) ≤ P ∧ P ≤ 1000) :
    ACalls seat 59 [.str s] [] (fun x _ => x = .ret (outV (refV bl N P))) := by
  have c1 : ACalls seat 58 [.str s, .int .i64 0, .bool true] [] (fun x _ => x = .ret (.tup [.int .i64 (s.length : Nat), .bool true])) := by
    have := c_rscan s 0 true (by omega) (by omega)
    rw [hsc] at this; exact this
  have hdl10 : (dig 10).length ≤ 400 := Nat.le_trans (dig_length_lt (k := 1) (by decide)) (by decide)
  have s10 := c_small 10 (by decide)
  have hNU : ∀ k, k ≤ 1000 → N * 65536 * 10 ^ k < 10 ^ (4 * 352) := fun k hk => by
    obtain ⟨A, hA⟩ : ∃ A, A = 4 * 100 := ⟨_, rfl⟩
    rw [← hA] at hN
    have h1 : N * 65536 < 10 ^ A * 10 ^ 5 := Nat.mul_lt_mul'' hN (by decide)
    have h2 : N * 65536 * 10 ^ k < 10 ^ A * 10 ^ 5 * 10 ^ k := Nat.mul_lt_mul_of_pos_right h1 (Nat.pow_pos (by decide))
    refine Nat.lt_of_lt_of_le h2 ?_
    rw [← Nat.pow_add, ← Nat.pow_add]
    have h3 : A + 5 + k ≤ 4 * 352 := by omega
    generalize 4 * 352 = E at *
    exact Nat.pow_le_pow_right (by decide) h3
  have hND : ∀ k, k ≤ 1400 → 10 ^ k < 10 ^ (4 * 352) := fun k hk => by
    have h3 : k < 4 * 352 := by omega
    generalize 4 * 352 = E at *
    exact Nat.pow_lt_pow_right (by decide) h3
  refine ACalls.bodyS seat_ok Tryd.func59 rfl rfl ?_
  refine Sat.splitAt seat_ok (fun t h => t = (uu::uu::uu::uu::uu::uu::.ptr 0 0::.ptr 1 0::.ptr 2 0::uu::uu::uu::uu::uu::uu::uu::uu::uu::uu::uu::uu::uu::uu::uu::uu::uu::uu::uu::uu::uu::uu::uu::uu::uu::uu::uu::uu::uu::uu::uu::uu::uu::uu::uu::uu::uu::uu::uu::uu::uu::uu::uu::uu::uu::uu::uu::uu::uu::uu::uu::uu::uu::uu::uu::uu::uu::uu::uu::uu::uu::uu::uu::uu::uu::uu::uu::uu::uu::[]) ∧ h = memP bl N P (N * 65536) 1) 6 ?_ ?_
  · have s6 := c_small 65536 (by decide)
    have s1 := c_small 1 (by decide)
    have hdn : (dig N).length ≤ 400 := dig_le16 hN (by decide)
    have m1 : ACalls seat 69 [nv false N, nv false 65536] [] (fun x _ => x = .ret (nv false (N * 65536))) := c_mul false false N 65536 (by omega) (Nat.le_trans (dig_length_lt (k := 2) (by decide)) (by decide))
    conv => whnf
    repeat' (first | exact ⟨_, keepT_weak (maskOf 78 [6, 7, 8]) _, rfl, rfl⟩ | (refine CallH.lift seat_g c1 (by simp [Closed, ClosedL]) (by simp [Closed, ClosedL]) ?_; conv => whnf) | (refine CallH.lift seat_g cr (by simp [Closed, ClosedL]) (rV_closed _ _ _) ?_; conv => whnf) | (refine CallH.lift seat_g s6 (by simp [Closed, ClosedL]) (nv_closed _ _) ?_; conv => whnf) | (refine CallH.lift seat_g s1 (by simp [Closed, ClosedL]) (nv_closed _ _) ?_; conv => whnf) | (refine CallH.lift seat_g m1 ⟨nv_closed _ _, nv_closed _ _, trivial⟩ (nv_closed _ _) ?_; conv => whnf) | (refine DrawH.plan seat_ok (.take 0 (.take 1 (.both (.perform 2 none (.both (.perform 3 none (.perform 4 (some 1) (.perform 5 none Plan.done))) (.perform 4 (some 1) (.perform 3 none (.perform 5 none Plan.done))))) (.perform 4 (some 1) (.perform 2 none (.perform 3 none (.perform 5 none Plan.done))))))) 1 (by kernel_rfl) ?_; conv => whnf) | ((first | refine zq1 (by omega) ?_ | refine zq2 (by omega) ?_ | refine NumH.rem (by omega) ?_ | refine zq4 (by omega) ?_ | refine zq5 (by omega) ?_ | refine zq6 ?_ | refine Req.mk (by omega) ?_ | refine Req.mk (by dsimp only; omega) ?_ | refine Req.mk (show pendP _ _ by repeat' constructor) ?_ | (with_reducible first | refine brT (by assumption) ?_ | refine brF (by assumption) ?_ | refine brDT (by omega) ?_ | refine brDF (by omega) ?_ | refine brET (by omega) ?_ | refine brEF (by omega) ?_ | refine brNET (by omega) ?_ | refine brNEF (by omega) ?_ | refine brNot ?_)); conv => whnf) | (refine And.intro ?_ ?_ <;> (conv => whnf)))
  rintro _ _ ⟨rfl, rfl⟩
  clear cr c1 hsc
  refine Sat.splitAt seat_ok (fun t h => t = (uu::uu::uu::uu::uu::uu::.ptr 0 0::.ptr 1 0::.ptr 2 0::uu::uu::uu::uu::uu::uu::uu::uu::uu::uu::uu::uu::uu::uu::uu::uu::uu::uu::uu::uu::uu::uu::uu::uu::uu::uu::uu::uu::uu::uu::uu::uu::uu::uu::uu::uu::uu::uu::uu::uu::uu::uu::uu::uu::uu::uu::uu::uu::uu::uu::uu::uu::uu::uu::uu::uu::uu::uu::uu::uu::uu::uu::uu::uu::uu::uu::uu::uu::uu::[]) ∧ h = memP bl N P (upM N P) 1) 1 ?_ ?_
  · conv => whnf
    refine Sat.cut (fun x t h => x = .exit 0 ∧ t = (uu::uu::uu::uu::uu::uu::.ptr 0 0::.ptr 1 0::.ptr 2 0::uu::uu::uu::uu::uu::uu::uu::uu::uu::uu::uu::uu::uu::uu::uu::uu::uu::uu::uu::uu::uu::uu::uu::uu::uu::uu::uu::uu::uu::uu::uu::uu::uu::uu::uu::uu::uu::uu::uu::uu::uu::uu::uu::uu::uu::uu::uu::uu::uu::uu::uu::uu::uu::uu::uu::uu::uu::uu::uu::uu::uu::uu::uu::uu::uu::uu::uu::uu::uu::[]) ∧ h = memP bl N P (upM N P) 1) ?_ ?_
    · refine Sat.invP seat_ok seat_g (maskOf 78 [6, 7, 8, 9]) 3 (fun μ t h => ∃ (i : Nat) (n : Int) (u : Nat), i ≤ P.toNat ∧ n = i ∧ u = N * 65536 * 10 ^ i ∧ μ = P.toNat - i ∧ t = (uu::uu::uu::uu::uu::uu::.ptr 0 0::.ptr 1 0::.ptr 2 0::.int .i64 n::uu::uu::uu::uu::uu::uu::uu::uu::uu::uu::uu::uu::uu::uu::uu::uu::uu::uu::uu::uu::uu::uu::uu::uu::uu::uu::uu::uu::uu::uu::uu::uu::uu::uu::uu::uu::uu::uu::uu::uu::uu::uu::uu::uu::uu::uu::uu::uu::uu::uu::uu::uu::uu::uu::uu::uu::uu::uu::uu::uu::uu::uu::uu::uu::uu::uu::uu::uu::[]) ∧ h = memP bl N P u 1)
        ?_ ⟨_, _, WeakL.of_eq rfl, 0, 0, _, by omega, rfl, by rw [Nat.pow_zero, Nat.mul_one], rfl, rfl, rfl⟩ ?_
      · rintro _ _ _ ⟨i, n, u, -, -, -, -, rfl, rfl⟩
        exact ⟨rfl, (by simp [IdsL, Ids, IdsH, IdsC, lv_ids, ci_ids]), by simp [memP, IdsH, IdsC, IdsL, Ids, lv_ids]⟩
      rintro _ _ _ ⟨i, n, u, hi, hn, hu, rfl, rfl, rfl⟩
      have hub := hNU i (by omega)
      rw [← hu] at hub
      have hud := dig_le16 hub (by decide)
      by_cases g : n < P
      · have m1 : ACalls seat 69 [nv false u, nv false 10] [] (fun x _ => x = .ret (nv false (u * 10))) := c_mul false false u 10 (by omega) (by omega)
        have hu2 : u * 10 = N * 65536 * 10 ^ (i + 1) := by rw [hu, Nat.pow_succ, Nat.mul_assoc]
        clear hNU hND
        unfold memP
        conv => whnf
        repeat' (first | exact ⟨_, _, Nat.sub_lt_sub_left (by omega) (Nat.lt_succ_self i), WeakL.of_eq rfl, i + 1, n + 1, u * 10, by omega, by omega, hu2, rfl, rfl, rfl⟩ | (refine CallH.lift seat_g s10 (by simp [Closed, ClosedL]) (nv_closed _ _) ?_; conv => whnf) | (refine CallH.lift seat_g m1 ⟨nv_closed _ _, nv_closed _ _, trivial⟩ (nv_closed _ _) ?_; conv => whnf) | (refine DrawH.plan seat_ok (.take 0 (.perform 1 none (.perform 2 none (.perform 3 none Plan.done)))) 0 (by kernel_rfl) ?_; conv => whnf) | ((first | refine zq1 (by omega) ?_ | refine zq2 (by omega) ?_ | refine NumH.rem (by omega) ?_ | refine zq4 (by omega) ?_ | refine zq5 (by omega) ?_ | refine zq6 ?_ | refine Req.mk (by omega) ?_ | refine Req.mk (by dsimp only; omega) ?_ | refine Req.mk (show pendP _ _ by repeat' constructor) ?_ | (with_reducible first | refine brT (by assumption) ?_ | refine brF (by assumption) ?_ | refine brDT (by omega) ?_ | refine brDF (by omega) ?_ | refine brET (by omega) ?_ | refine brEF (by omega) ?_ | refine brNET (by omega) ?_ | refine brNEF (by omega) ?_ | refine brNot ?_)); conv => whnf))
      · have hu2 : u = upM N P := by rw [hu, show i = P.toNat by omega]; rfl
        rw [← hu2]
        unfold memP
        conv => whnf
        repeat' ((first | refine zq1 (by omega) ?_ | refine zq2 (by omega) ?_ | refine NumH.rem (by omega) ?_ | refine zq4 (by omega) ?_ | refine zq5 (by omega) ?_ | refine zq6 ?_ | refine Req.mk (by omega) ?_ | refine Req.mk (by dsimp only; omega) ?_ | refine Req.mk (show pendP _ _ by repeat' constructor) ?_ | (with_reducible first | refine brT (by assumption) ?_ | refine brF (by assumption) ?_ | refine brDT (by omega) ?_ | refine brDF (by omega) ?_ | refine brET (by omega) ?_ | refine brEF (by omega) ?_ | refine brNET (by omega) ?_ | refine brNEF (by omega) ?_ | refine brNot ?_)); conv => whnf)
        exact ⟨_, keepT_weak (maskOf 78 [6, 7, 8]) _, rfl, rfl, rfl⟩
    · rintro _ _ _ ⟨rfl, rfl, rfl⟩
      conv => whnf
      exact ⟨_, keepT_weak (maskOf 78 [6, 7, 8]) _, rfl, rfl⟩
  rintro _ _ ⟨rfl, rfl⟩
  have hUb : upM N P < 10 ^ (4 * 352) := hNU _ (by omega)
  have hDb : dnM P < 10 ^ (4 * 352) := hND _ (by omega)
  generalize hU : upM N P = U at *
  refine Sat.splitAt seat_ok (fun t h => t = (uu::uu::uu::uu::uu::uu::.ptr 0 0::.ptr 1 0::.ptr 2 0::uu::uu::uu::uu::uu::uu::uu::uu::uu::uu::uu::uu::uu::uu::uu::uu::uu::uu::uu::uu::uu::uu::uu::uu::uu::uu::uu::uu::uu::uu::uu::uu::uu::uu::uu::uu::uu::uu::uu::uu::uu::uu::uu::uu::uu::uu::uu::uu::uu::uu::uu::uu::uu::uu::uu::uu::uu::uu::uu::uu::uu::uu::uu::uu::uu::uu::uu::uu::uu::[]) ∧ h = memP bl N P U (dnM P)) 1 ?_ ?_
  · conv => whnf
    refine Sat.cut (fun x t h => x = .exit 2 ∧ t = (uu::uu::uu::uu::uu::uu::.ptr 0 0::.ptr 1 0::.ptr 2 0::uu::uu::uu::uu::uu::uu::uu::uu::uu::uu::uu::uu::uu::uu::uu::uu::uu::uu::uu::uu::uu::uu::uu::uu::uu::uu::uu::uu::uu::uu::uu::uu::uu::uu::uu::uu::uu::uu::uu::uu::uu::uu::uu::uu::uu::uu::uu::uu::uu::uu::uu::uu::uu::uu::uu::uu::uu::uu::uu::uu::uu::uu::uu::uu::uu::uu::uu::uu::uu::[]) ∧ h = memP bl N P U (dnM P)) ?_ ?_
    · refine Sat.invP seat_ok seat_g (maskOf 78 [6, 7, 8, 10]) 3 (fun μ t h => ∃ (i : Nat) (n : Int) (d : Nat), i ≤ (0 - P).toNat ∧ n = 0 - (i : Int) ∧ d = 10 ^ i ∧ μ = (0 - P).toNat - i ∧ t = (uu::uu::uu::uu::uu::uu::.ptr 0 0::.ptr 1 0::.ptr 2 0::uu::.int .i64 n::uu::uu::uu::uu::uu::uu::uu::uu::uu::uu::uu::uu::uu::uu::uu::uu::uu::uu::uu::uu::uu::uu::uu::uu::uu::uu::uu::uu::uu::uu::uu::uu::uu::uu::uu::uu::uu::uu::uu::uu::uu::uu::uu::uu::uu::uu::uu::uu::uu::uu::uu::uu::uu::uu::uu::uu::uu::uu::uu::uu::uu::uu::uu::uu::uu::uu::uu::[]) ∧ h = memP bl N P U d)
        ?_ ⟨_, _, WeakL.of_eq rfl, 0, 0, _, by omega, rfl, by rw [Nat.pow_zero], rfl, rfl, rfl⟩ ?_
      · rintro _ _ _ ⟨i, n, u, -, -, -, -, rfl, rfl⟩
        exact ⟨rfl, (by simp [IdsL, Ids, IdsH, IdsC, lv_ids, ci_ids]), by simp [memP, IdsH, IdsC, IdsL, Ids, lv_ids]⟩
      rintro _ _ _ ⟨i, n, u, hi, hn, hu, rfl, rfl, rfl⟩
      have hub := hND i (by omega)
      rw [← hu] at hub
      have hud := dig_le16 hub (by decide)
      by_cases g : n > P
      · have m1 : ACalls seat 69 [nv false u, nv false 10] [] (fun x _ => x = .ret (nv false (u * 10))) := c_mul false false u 10 (by omega) (by omega)
        have hu2 : u * 10 = 10 ^ (i + 1) := by rw [hu, Nat.pow_succ]
        clear hNU hND
        unfold memP
        conv => whnf
        repeat' (first | exact ⟨_, _, Nat.sub_lt_sub_left (by omega) (Nat.lt_succ_self i), WeakL.of_eq rfl, i + 1, n - 1, u * 10, by omega, by omega, hu2, rfl, rfl, rfl⟩ | (refine CallH.lift seat_g s10 (by simp [Closed, ClosedL]) (nv_closed _ _) ?_; conv => whnf) | (refine CallH.lift seat_g m1 ⟨nv_closed _ _, nv_closed _ _, trivial⟩ (nv_closed _ _) ?_; conv => whnf) | (refine DrawH.plan seat_ok (.take 0 (.perform 1 none (.perform 2 none (.perform 3 none Plan.done)))) 0 (by kernel_rfl) ?_; conv => whnf) | ((first | refine zq1 (by omega) ?_ | refine zq2 (by omega) ?_ | refine NumH.rem (by omega) ?_ | refine zq4 (by omega) ?_ | refine zq5 (by omega) ?_ | refine zq6 ?_ | refine Req.mk (by omega) ?_ | refine Req.mk (by dsimp only; omega) ?_ | refine Req.mk (show pendP _ _ by repeat' constructor) ?_ | (with_reducible first | refine brT (by assumption) ?_ | refine brF (by assumption) ?_ | refine brDT (by omega) ?_ | refine brDF (by omega) ?_ | refine brET (by omega) ?_ | refine brEF (by omega) ?_ | refine brNET (by omega) ?_ | refine brNEF (by omega) ?_ | refine brNot ?_)); conv => whnf))
      · have hu2 : u = dnM P := by rw [hu, show i = (0 - P).toNat by omega]; rfl
        rw [← hu2]
        unfold memP
        conv => whnf
        repeat' ((first | refine zq1 (by omega) ?_ | refine zq2 (by omega) ?_ | refine NumH.rem (by omega) ?_ | refine zq4 (by omega) ?_ | refine zq5 (by omega) ?_ | refine zq6 ?_ | refine Req.mk (by omega) ?_ | refine Req.mk (by dsimp only; omega) ?_ | refine Req.mk (show pendP _ _ by repeat' constructor) ?_ | (with_reducible first | refine brT (by assumption) ?_ | refine brF (by assumption) ?_ | refine brDT (by omega) ?_ | refine brDF (by omega) ?_ | refine brET (by omega) ?_ | refine brEF (by omega) ?_ | refine brNET (by omega) ?_ | refine brNEF (by omega) ?_ | refine brNot ?_)); conv => whnf)
        exact ⟨_, keepT_weak (maskOf 78 [6, 7, 8]) _, rfl, rfl, rfl⟩
    · rintro _ _ _ ⟨rfl, rfl, rfl⟩
      conv => whnf
      exact ⟨_, keepT_weak (maskOf 78 [6, 7, 8]) _, rfl, rfl⟩
  rintro _ _ ⟨rfl, rfl⟩
  unfold refV
  rw [hU]
  have hD0 : 0 < dnM P := Nat.pow_pos (by decide)
  generalize dnM P = D at *
  have hdU := dig_le16 hUb (by decide)
  have hdD := dig_le16 hDb (by decide)
  have hz := lenZ U
  refine Sat.splitAt seat_ok (fun t h => t = (uu::uu::uu::uu::uu::uu::.ptr 0 0::.ptr 1 0::.ptr 2 0::uu::uu::uu::uu::uu::uu::uu::uu::uu::uu::uu::uu::uu::uu::uu::uu::uu::uu::uu::uu::uu::uu::uu::uu::uu::uu::uu::uu::uu::uu::uu::uu::uu::uu::uu::uu::uu::uu::uu::uu::uu::uu::uu::uu::uu::uu::uu::uu::uu::uu::uu::uu::uu::uu::uu::uu::uu::uu::uu::uu::uu::uu::uu::uu::uu::uu::uu::uu::uu::[]) ∧ h = [.var [.bool bl, .bool false, lv (dig N), .int .i64 P] 110, .var [.bool (bl && decide (0 < U)), lv (dig U)] 93, .var [.bool false, lv (dig D)] 93]) 1 ?_ ?_
  · unfold memP
    cases bl with
    | false =>
      conv => whnf
      repeat' (first | exact ⟨_, keepT_weak (maskOf 78 [6, 7, 8]) _, rfl, rfl⟩ | ((first | refine zq1 (by omega) ?_ | refine zq2 (by omega) ?_ | refine NumH.rem (by omega) ?_ | refine zq4 (by omega) ?_ | refine zq5 (by omega) ?_ | refine zq6 ?_ | refine Req.mk (by omega) ?_ | refine Req.mk (by dsimp only; omega) ?_ | refine Req.mk (show pendP _ _ by repeat' constructor) ?_ | (with_reducible first | refine brT (by assumption) ?_ | refine brF (by assumption) ?_ | refine brDT (by omega) ?_ | refine brDF (by omega) ?_ | refine brET (by omega) ?_ | refine brEF (by omega) ?_ | refine brNET (by omega) ?_ | refine brNEF (by omega) ?_ | refine brNot ?_)); conv => whnf))
    | true =>
      conv => whnf
      repeat' (first | exact ⟨_, keepT_weak (maskOf 78 [6, 7, 8]) _, rfl, by rw [hz]; rfl⟩ | ((first | refine zq1 (by omega) ?_ | refine zq2 (by omega) ?_ | refine NumH.rem (by omega) ?_ | refine zq4 (by omega) ?_ | refine zq5 (by omega) ?_ | refine zq6 ?_ | refine Req.mk (by omega) ?_ | refine Req.mk (by dsimp only; omega) ?_ | refine Req.mk (show pendP _ _ by repeat' constructor) ?_ | (with_reducible first | refine brT (by assumption) ?_ | refine brF (by assumption) ?_ | refine brDT (by omega) ?_ | refine brDF (by omega) ?_ | refine brET (by omega) ?_ | refine brEF (by omega) ?_ | refine brNET (by omega) ?_ | refine brNEF (by omega) ?_ | refine brNot ?_)); conv => whnf))
  rintro _ _ ⟨rfl, rfl⟩
  generalize (bl && decide (0 < U)) = sU
  have h14 := @ten_le2 (4 * 352) 6400 (by decide)
  have cn := c_near01 6400 402 (by decide) (by decide) sU U D hD0 (Nat.lt_of_lt_of_le hUb h14) (Nat.lt_of_lt_of_le hDb h14)
  have hmb := nearM_bd sU U D
  generalize nearM sU U D = NR at *
  obtain ⟨sN, mN⟩ := NR
  simp only at hmb cn ⊢
  have hmN : mN < 65536 ^ 401 := by
    have h1 := @ten_le (4 * 352) 352 (by decide)
    have h2 := @pow_step 65536 352 401 (by decide) (by decide)
    generalize 65536 ^ 352 = A at *
    generalize 65536 ^ 401 = B at *
    omega
  have hlN := dig_length_lt hmN
  clear h14 hmN hmb hUb hDb hNU hND
  refine codeR_sound seat_ok _ _ _ _ ?_
  by_cases hb : mN < 9223372036854775808
  · have cp := c_plain01 sN mN hb
    by_cases h1 : 4294967296 ≤ sg sN mN
    · rw [show outV (sg sN mN) = .tup [.int .i64 0, .int .i64 2] from if_pos (.inl h1)]
      generalize sg sN mN = v at *
      conv => whnf
      repeat' (first | rfl | (refine CallH.lift seat_g cn ⟨nv_closed _ _, nv_closed _ _, trivial⟩ (nv_closed _ _) ?_; conv => whnf) | (refine CallH.lift seat_g cp ⟨nv_closed _ _, trivial⟩ (by simp [Closed, ClosedL]) ?_; conv => whnf) | ((first | refine zq1 (by omega) ?_ | refine zq2 (by omega) ?_ | refine NumH.rem (by omega) ?_ | refine zq4 (by omega) ?_ | refine zq5 (by omega) ?_ | refine zq6 ?_ | refine Req.mk (by omega) ?_ | refine Req.mk (by dsimp only; omega) ?_ | refine Req.mk (show pendP _ _ by repeat' constructor) ?_ | (with_reducible first | refine brT (by assumption) ?_ | refine brF (by assumption) ?_ | refine brDT (by omega) ?_ | refine brDF (by omega) ?_ | refine brET (by omega) ?_ | refine brEF (by omega) ?_ | refine brNET (by omega) ?_ | refine brNEF (by omega) ?_ | refine brNot ?_)); conv => whnf))
    · by_cases h2 : sg sN mN ≤ -4294967296
      · rw [show outV (sg sN mN) = .tup [.int .i64 0, .int .i64 2] from if_pos (.inr h2)]
        generalize sg sN mN = v at *
        conv => whnf
        repeat' (first | rfl | (refine CallH.lift seat_g cn ⟨nv_closed _ _, nv_closed _ _, trivial⟩ (nv_closed _ _) ?_; conv => whnf) | (refine CallH.lift seat_g cp ⟨nv_closed _ _, trivial⟩ (by simp [Closed, ClosedL]) ?_; conv => whnf) | ((first | refine zq1 (by omega) ?_ | refine zq2 (by omega) ?_ | refine NumH.rem (by omega) ?_ | refine zq4 (by omega) ?_ | refine zq5 (by omega) ?_ | refine zq6 ?_ | refine Req.mk (by omega) ?_ | refine Req.mk (by dsimp only; omega) ?_ | refine Req.mk (show pendP _ _ by repeat' constructor) ?_ | (with_reducible first | refine brT (by assumption) ?_ | refine brF (by assumption) ?_ | refine brDT (by omega) ?_ | refine brDF (by omega) ?_ | refine brET (by omega) ?_ | refine brEF (by omega) ?_ | refine brNET (by omega) ?_ | refine brNEF (by omega) ?_ | refine brNot ?_)); conv => whnf))
      · rw [show outV (sg sN mN) = .tup [.int .i64 (sg sN mN), .int .i64 0] from if_neg (by omega)]
        generalize sg sN mN = v at *
        conv => whnf
        repeat' (first | rfl | (refine CallH.lift seat_g cn ⟨nv_closed _ _, nv_closed _ _, trivial⟩ (nv_closed _ _) ?_; conv => whnf) | (refine CallH.lift seat_g cp ⟨nv_closed _ _, trivial⟩ (by simp [Closed, ClosedL]) ?_; conv => whnf) | ((first | refine zq1 (by omega) ?_ | refine zq2 (by omega) ?_ | refine NumH.rem (by omega) ?_ | refine zq4 (by omega) ?_ | refine zq5 (by omega) ?_ | refine zq6 ?_ | refine Req.mk (by omega) ?_ | refine Req.mk (by dsimp only; omega) ?_ | refine Req.mk (show pendP _ _ by repeat' constructor) ?_ | (with_reducible first | refine brT (by assumption) ?_ | refine brF (by assumption) ?_ | refine brDT (by omega) ?_ | refine brDF (by omega) ?_ | refine brET (by omega) ?_ | refine brEF (by omega) ?_ | refine brNET (by omega) ?_ | refine brNEF (by omega) ?_ | refine brNot ?_)); conv => whnf))
  · have cp := c_plain02 sN mN (by omega) (by omega)
    have hv : outV (sg sN mN) = .tup [.int .i64 0, .int .i64 2] := if_pos (by cases sN <;> simp [sg] <;> omega)
    rw [hv]
    by_cases hs : sN = true ∧ mN = 9223372036854775808
    · rw [if_pos hs] at cp
      conv => whnf
      repeat' (first | rfl | (refine CallH.lift seat_g cn ⟨nv_closed _ _, nv_closed _ _, trivial⟩ (nv_closed _ _) ?_; conv => whnf) | (refine CallH.lift seat_g cp ⟨nv_closed _ _, trivial⟩ (by simp [Closed, ClosedL]) ?_; conv => whnf) | ((first | refine zq1 (by omega) ?_ | refine zq2 (by omega) ?_ | refine NumH.rem (by omega) ?_ | refine zq4 (by omega) ?_ | refine zq5 (by omega) ?_ | refine zq6 ?_ | refine Req.mk (by omega) ?_ | refine Req.mk (by dsimp only; omega) ?_ | refine Req.mk (show pendP _ _ by repeat' constructor) ?_ | (with_reducible first | refine brT (by assumption) ?_ | refine brF (by assumption) ?_ | refine brDT (by omega) ?_ | refine brDF (by omega) ?_ | refine brET (by omega) ?_ | refine brEF (by omega) ?_ | refine brNET (by omega) ?_ | refine brNEF (by omega) ?_ | refine brNot ?_)); conv => whnf))
    · rw [if_neg hs] at cp
      conv => whnf
      repeat' (first | rfl | (refine CallH.lift seat_g cn ⟨nv_closed _ _, nv_closed _ _, trivial⟩ (nv_closed _ _) ?_; conv => whnf) | (refine CallH.lift seat_g cp ⟨nv_closed _ _, trivial⟩ (by simp [Closed, ClosedL]) ?_; conv => whnf) | ((first | refine zq1 (by omega) ?_ | refine zq2 (by omega) ?_ | refine NumH.rem (by omega) ?_ | refine zq4 (by omega) ?_ | refine zq5 (by omega) ?_ | refine zq6 ?_ | refine Req.mk (by omega) ?_ | refine Req.mk (by dsimp only; omega) ?_ | refine Req.mk (show pendP _ _ by repeat' constructor) ?_ | (with_reducible first | refine brT (by assumption) ?_ | refine brF (by assumption) ?_ | refine brDT (by omega) ?_ | refine brDF (by omega) ?_ | refine brET (by omega) ?_ | refine brEF (by omega) ?_ | refine brNET (by omega) ?_ | refine brNEF (by omega) ?_ | refine brNot ?_)); conv => whnf))
end Go.Proofs.YtjpaapkdbohgeaaDoor
namespace Go.Proofs.YtjpaapkdbohgeaaDoor
open Go.Abs
theorem rd_sign {S : List UInt8} (hS : S = [] ∨ S = [43] ∨ S = [45]) : rdM S = ⟨S == [45], [], 0, false⟩ := by
  rcases hS with rfl | rfl | rfl <;> rfl
def RdOK (bl : Bool) (r : RS) (f : Nat × Nat × Bool) : Prop :=
  r.below = bl ∧ (∀ x ∈ r.ds, 0 ≤ x ∧ x ≤ 9) ∧ (r.ds = [] ∨ ∃ x l, r.ds = x :: l ∧ 0 < x) ∧ (f.1 : Int) = valD r.ds ∧ r.pt = (r.ds.length : Int) - f.2.1 ∧ r.seen = f.2.2 ∧ (f.2.2 = false → f.2.1 = 0)
theorem rd_step {bl : Bool} {r : RS} {f : Nat × Nat × Bool} {b : UInt8} (hk : kindN b.toNat = 0 ∨ kindN b.toNat = 1) (h : RdOK bl r f) : RdOK bl (rdStep r b) (rStep f b) := by
  obtain ⟨below, ds, pt, seen⟩ := r
  obtain ⟨N, bh, dot⟩ := f
  obtain ⟨h1, h2, h3, h4, h5, h6, h7⟩ := h
  simp only at h1 h2 h3 h4 h5 h6 h7
  subst h1 h6
  have hc := kindN_cases b.toNat
  unfold rdStep rStep
  rcases hk with hk | hk
  · rw [if_pos hk, if_neg (by omega)]
    simp only
    have hb : 48 ≤ (b.toNat : Int) ∧ (b.toNat : Int) ≤ 57 := by omega
    obtain ⟨c, hcc⟩ : ∃ c : Nat, (b.toNat : Int) - 48 = c := ⟨((b.toNat : Int) - 48).toNat, by omega⟩
    rw [hcc, Int.toNat_natCast]
    have hv : ((N * 10 + c : Nat) : Int) = 10 * valD ds + c := by rw [← h4]; omega
    have hds : dsF ds b.toNat = ds ++ [(c : Int)] ∨ (dsF ds b.toNat = [] ∧ ds = [] ∧ c = 0) := by
      unfold dsF
      by_cases h : (b.toNat : Int) ≠ 48 ∨ 0 < ds.length
      · rw [if_pos h, hcc]; exact .inl rfl
      · rw [if_neg h]
        obtain rfl : ds = [] := List.length_eq_zero_iff.1 (by omega)
        exact .inr ⟨rfl, rfl, by omega⟩
    have hne : dsF ds b.toNat = ds ++ [(c : Int)] → ds = [] → 0 < (c : Int) := fun h he => by
      subst he
      unfold dsF at h
      by_cases h8 : (b.toNat : Int) ≠ 48 ∨ 0 < ([] : List Int).length
      · simp at h8; omega
      · rw [if_neg h8] at h; exact absurd h (by simp)
    rcases hds with hds | ⟨hds, rfl, rfl⟩
    · have hn := hne hds
      rw [hds]
      refine ⟨rfl, ?_, ?_, by rw [valD_snoc]; exact hv, ?_, rfl, ?_⟩
      · intro x hx
        rcases List.mem_append.1 hx with hx | hx
        · exact h2 x hx
        · rw [List.mem_singleton.1 hx]; omega
      · refine .inr ?_
        rcases h3 with rfl | ⟨x, l, rfl, hx⟩
        · exact ⟨c, [], rfl, hn rfl⟩
        · exact ⟨x, l ++ [(c : Int)], rfl, hx⟩
      · simp only [List.length_append, List.length_singleton]
        unfold ptF
        cases seen with
        | false =>
          have := h7 rfl
          simp only [if_true, List.length_append, List.length_singleton, Bool.false_eq_true, if_false]
          rw [if_pos (by omega)]; omega
        | true =>
          simp only [Bool.true_eq_false, if_false, List.length_append, List.length_singleton, if_true]
          rw [if_neg (by omega)]; omega
      · intro h; simp only at h; simp only [h, Bool.false_eq_true, if_false]; exact h7 h
    · rw [hds]
      refine ⟨rfl, by simp, .inl rfl, by simpa [valD, preN] using hv, ?_, rfl, ?_⟩
      · simp only [List.length_nil] at h5 ⊢
        unfold ptF
        cases seen with
        | false =>
          have := h7 rfl
          simp only [if_true, List.length_nil, Bool.false_eq_true, if_false]
          rw [if_neg (by omega)]; omega
        | true =>
          simp only [Bool.true_eq_false, if_false, List.length_nil, if_true]
          omega
      · intro h; simp only at h; simp only [h, Bool.false_eq_true, if_false]; exact h7 h
  · rw [if_neg (by omega), if_pos hk, if_pos hk]
    exact ⟨rfl, h2, h3, h4, h5, rfl, fun h => by cases h⟩
theorem rd_fold {S : List UInt8} (hS : S = [] ∨ S = [43] ∨ S = [45]) : ∀ (n : Nat) (M : List UInt8), M.length = n → (∀ b ∈ M, kindN b.toNat = 0 ∨ kindN b.toNat = 1) → RdOK (S == [45]) (rdM (S ++ M)) (rFold M)
  | 0, M, h, _ => by
    obtain rfl := List.length_eq_zero_iff.1 h
    rw [List.append_nil, rd_sign hS]
    exact ⟨rfl, by simp, .inl rfl, rfl, rfl, rfl, fun _ => rfl⟩
  | n + 1, M, h, hk => by
    have hne : M ≠ [] := by intro h2; rw [h2] at h; simp at h
    have e := (List.dropLast_concat_getLast hne).symm
    have hl : M.dropLast.length = n := by rw [List.length_dropLast]; omega
    have ih := rd_fold hS n _ hl (fun c h => hk c (List.dropLast_subset _ h))
    have h1 := hk _ (List.getLast_mem hne)
    rw [e, rFold_snoc, ← List.append_assoc, rdM_snoc]
    exact rd_step h1 ih
theorem pow_caps : ∀ (n : Nat) (C : List UInt8), C.length = n → (∀ c ∈ C, kindN c.toNat = 0) → powF 1000 0 C = if powF 1099511627776 0 C ≤ 1000 then powF 1099511627776 0 C else 1000
  | 0, C, h, _ => by
    obtain rfl := List.length_eq_zero_iff.1 h
    simp [powF]
  | n + 1, C, h, hk => by
    have hne : C ≠ [] := by intro h2; rw [h2] at h; simp at h
    have e := (List.dropLast_concat_getLast hne).symm
    have hl : C.dropLast.length = n := by rw [List.length_dropLast]; omega
    have ih := pow_caps n _ hl (fun c h => hk c (List.dropLast_subset _ h))
    have hb := powF_bd (cap := 1099511627776) (by decide) n _ hl (fun c h => hk c (List.dropLast_subset _ h))
    have h0 := kindN_cases (C.getLast hne).toNat
    have h1 := hk _ (List.getLast_mem hne)
    rw [e, powF_snoc, powF_snoc, ih]
    generalize powF 1099511627776 0 C.dropLast = x at *
    generalize C.getLast hne = c at *
    by_cases hx : x ≤ 1000
    · rw [if_pos hx, if_neg (show ¬ 1099511627776 < 10 * x + ((c.toNat : Int) - 48) by omega)]
      split
      · rw [if_neg (by omega)]
      · rw [if_pos (by omega)]
    · rw [if_neg hx, if_pos (by omega)]
      split
      · rw [if_neg (by omega)]
      · rw [if_neg (by omega)]
def txtN (A : List UInt8) (B : Option (List UInt8)) : Nat := (rFold (A ++ dotL B)).1
def txtP (A : List UInt8) (B : Option (List UInt8)) (ex : Option (UInt8 × List UInt8 × List UInt8)) : Int := (if exDown ex = true then 0 - exPow 1000 ex else exPow 1000 ex) - (rFold (A ++ dotL B)).2.1
def txtV (S A : List UInt8) (B : Option (List UInt8)) (ex : Option (UInt8 × List UInt8 × List UInt8)) : AV := outV (refV (S == [45]) (txtN A B) (txtP A B ex))
theorem M_kinds {A : List UInt8} {B : Option (List UInt8)} (hA : digL A) (hB : digL (B.getD [])) : ∀ b ∈ A ++ dotL B, kindN b.toNat = 0 ∨ kindN b.toNat = 1 := fun b hb => by
  rcases List.mem_append.1 hb with h | h
  · exact .inl (hA b h)
  · cases B with
    | none => exact absurd h (by simp [dotL])
    | some B =>
      rcases List.mem_cons.1 h with rfl | h
      · exact .inr (by decide)
      · exact .inl (hB b h)
theorem c_rparse_txt {S A : List UInt8} {B : Option (List UInt8)} {ex} (h : TxtOK S A B ex) (hl : (txt S A B ex).length ≤ 400) :
    ACalls seat 59 [.str (txt S A B ex)] [] (fun x _ => x = .ret (txtV S A B ex)) := by
  have hk := M_kinds h.hA h.hB
  have cr := c_rread S (A ++ dotL B) ex h.hS hk h.hex hl
  have hlen : (A ++ dotL B).length ≤ 400 := by
    unfold txt at hl; rw [List.length_append, List.length_append] at hl; omega
  have hbd := rFold_bd _ _ rfl hk
  have hp : 0 ≤ exPow 1000 ex ∧ exPow 1000 ex ≤ 1000 := by
    cases ex with
    | none => simp [exPow]
    | some x => exact powF_bd (by decide) _ _ rfl h.hex.2.2.2
  have hN : (rFold (A ++ dotL B)).1 < 10 ^ (4 * 100) := by
    have h3 : (A ++ dotL B).length ≤ 4 * 100 := hlen
    generalize 4 * 100 = E at *
    exact Nat.lt_of_lt_of_le hbd.1 (Nat.pow_le_pow_right (by decide) h3)
  refine c_rparseV _ _ _ _ hl (scan_txt h) cr hN ?_
  unfold txtP
  split <;> omega
theorem c_dparse_txt {S A : List UInt8} {B : Option (List UInt8)} {ex} (h : TxtOK S A B ex) (hl : (txt S A B ex).length ≤ 400) :
    ACalls seat 78 [.str (txt S A B ex)] [] (fun x _ => x = .ret (txtV S A B ex)) := by
  have hk := M_kinds h.hA h.hB
  have hsc := scan_txt h
  rw [scan_eq, addA_zero, List.drop_zero] at hsc
  have h1 : (dfa true 0 (txt S A B ex)).1 = (txt S A B ex).length := congrArg Prod.fst hsc
  have h2 : endsT (dfa true 0 (txt S A B ex)).2 = true := congrArg Prod.snd hsc
  have et : txt S A B ex = (S ++ (A ++ dotL B)) ++ expB ex := by unfold txt; simp only [List.append_assoc]
  have hM2 : ∀ b ∈ S ++ (A ++ dotL B), kindN b.toNat ≠ 2 := fun b hb => by
    rcases List.mem_append.1 hb with hb | hb
    · rcases h.hS with rfl | rfl | rfl
      · cases hb
      · rw [List.mem_singleton.1 hb]; decide
      · rw [List.mem_singleton.1 hb]; decide
    · have := hk b hb; omega
  have cd := c_dparseV (S ++ (A ++ dotL B)) ex hM2 h.hex (by rw [← et]; omega) (by rw [← et]; exact h1) (by rw [← et]; exact h2)
  rw [← et] at cd
  have hr := rd_fold h.hS _ _ rfl hk
  have hlen : (A ++ dotL B).length ≤ 400 ∧ S.length + (A ++ dotL B).length ≤ 400 := by
    unfold txt at hl; rw [List.length_append, List.length_append] at hl; omega
  have hbd := rFold_bd _ _ rfl hk
  have hbd2 := rdM_bd _ (S ++ (A ++ dotL B)) rfl
  rw [List.length_append] at hbd2
  obtain ⟨e1, e2, e3, e4, e5, -, -⟩ := hr
  have hp : 0 ≤ exPow 1099511627776 ex := by
    cases ex with
    | none => simp [exPow]
    | some x => exact (powF_bd (by decide) _ _ rfl h.hex.2.2.2).1
  have hpc : exPow 1000 ex = if exPow 1099511627776 ex ≤ 1000 then exPow 1099511627776 ex else 1000 := by
    cases ex with
    | none => simp [exPow]
    | some x => exact pow_caps _ _ rfl h.hex.2.2.2
  have hv := dec_val (S == [45]) _ e2 e3 _ e4 (rFold (A ++ dotL B)).2.1 (by omega) (by omega) _ _ hp hpc (exDown ex)
  rw [← e5, ← e1] at hv
  rw [hv, e1] at cd
  exact cd
end Go.Proofs.YtjpaapkdbohgeaaDoor
namespace Go.Proofs.YtjpaapkdbohgeaaDoor
open Go.Abs
def blankN (n : Int) : Bool := n == 9 || n == 10 || n == 13 || n == 32
theorem blankN_iff (n : Int) : blankN n = true ↔ n = 9 ∨ n = 10 ∨ n = 13 ∨ n = 32 := by simp [blankN, or_assoc]
def blk : List UInt8 → Nat
  | [] => 0
  | b :: l => if blankN b.toNat = true then blk l + 1 else 0
theorem blk_le : ∀ l, blk l ≤ l.length
  | [] => Nat.le_refl _
  | b :: l => by
    have := blk_le l
    unfold blk; split
    · simp; omega
    · exact Nat.zero_le _
def isB (l : List UInt8) : Bool := match l with | [] => false | b :: _ => blankN b.toNat
def isC (l : List UInt8) : Bool := match l with | [] => false | b :: _ => (b.toNat : Int) == 44
def gapN (l : List UInt8) : Nat := if isC (l.drop (blk l)) = true then blk l + 1 + blk (l.drop (blk l + 1)) else blk l
theorem isB_some {s : List UInt8} {p : Nat} {b : UInt8} (h : s[p]? = some b) : isB (s.drop p) = blankN b.toNat := by rw [drop_cons' h]; rfl
theorem isC_some {s : List UInt8} {p : Nat} {b : UInt8} (h : s[p]? = some b) : isC (s.drop p) = ((b.toNat : Int) == 44) := by rw [drop_cons' h]; rfl
theorem blk_step {s : List UInt8} {p : Nat} (h : isB (s.drop p) = true) : blk (s.drop p) = blk (s.drop (p + 1)) + 1 ∧ p < s.length := by
  have hp : p < s.length := by
    apply Nat.lt_of_not_le; intro h2; rw [List.drop_eq_nil_of_le h2] at h; cases h
  obtain ⟨b, hb⟩ : ∃ b, s[p]? = some b := ⟨_, List.getElem?_eq_getElem hp⟩
  rw [isB_some hb] at h
  rw [drop_cons' hb]
  exact ⟨if_pos h, hp⟩
theorem blk_stop {s : List UInt8} {p : Nat} (h : isB (s.drop p) = false) : blk (s.drop p) = 0 := by
  cases hd : s.drop p with
  | nil => rfl
  | cons b l => rw [hd] at h; exact if_neg (by rw [show blankN b.toNat = false from h]; decide)
theorem blk_in (s : List UInt8) (p : Nat) (h : p ≤ s.length) : p + blk (s.drop p) ≤ s.length := by
  have := blk_le (s.drop p); rw [List.length_drop] at this; omega
theorem isC_lt {s : List UInt8} {p : Nat} (h : isC (s.drop p) = true) : p < s.length := by
  apply Nat.lt_of_not_le; intro h2; rw [List.drop_eq_nil_of_le h2] at h; cases h
theorem gap_in (s : List UInt8) (p : Nat) (h : p ≤ s.length) : p + gapN (s.drop p) ≤ s.length := by
  have h1 := blk_in s p h
  unfold gapN
  split
  · rename_i hc
    rw [List.drop_drop] at hc
    have h2 := isC_lt hc
    have h3 := blk_in s (p + blk (s.drop p) + 1) (by omega)
    rw [List.drop_drop, ← Nat.add_assoc p]
    omega
  · omega
end Go.Proofs.YtjpaapkdbohgeaaDoor
namespace Go.Proofs.YtjpaapkdbohgeaaDoor
open Go.Abs
def valN (l : List UInt8) : Nat := l.foldl (fun a b => a * 10 + ((b.toNat : Int) - 48).toNat) 0
theorem valN_snoc (l : List UInt8) (b : UInt8) : valN (l ++ [b]) = valN l * 10 + ((b.toNat : Int) - 48).toNat := by unfold valN; rw [List.foldl_append]; rfl
theorem valN_app (l : List UInt8) : ∀ (n : Nat) (m : List UInt8), m.length = n → valN (l ++ m) = valN l * 10 ^ m.length + valN m
  | 0, m, h => by
    obtain rfl := List.length_eq_zero_iff.1 h
    simp [valN]
  | n + 1, m, h => by
    have hne : m ≠ [] := by intro h2; rw [h2] at h; simp at h
    have e := (List.dropLast_concat_getLast hne).symm
    have hl : m.dropLast.length = n := by rw [List.length_dropLast]; omega
    have ih := valN_app l n _ hl
    rw [e, ← List.append_assoc, valN_snoc, valN_snoc, ih, List.length_append, List.length_singleton, Nat.pow_succ, Nat.add_mul, Nat.mul_assoc]
    omega
theorem rFold_dig : ∀ (n : Nat) (l : List UInt8) (N b : Nat) (pt : Bool), l.length = n → digL l → l.foldl rStep (N, b, pt) = (N * 10 ^ n + valN l, if pt = true then b + n else b, pt)
  | 0, l, N, b, pt, h, _ => by
    obtain rfl := List.length_eq_zero_iff.1 h
    cases pt <;> simp [valN]
  | n + 1, l, N, b, pt, h, hk => by
    have hne : l ≠ [] := by intro h2; rw [h2] at h; simp at h
    have e := (List.dropLast_concat_getLast hne).symm
    have hl : l.dropLast.length = n := by rw [List.length_dropLast]; omega
    have ih := rFold_dig n _ N b pt hl (fun c h => hk c (List.dropLast_subset _ h))
    have h1 := hk _ (List.getLast_mem hne)
    rw [e, List.foldl_append, ih, List.foldl_cons, List.foldl_nil, valN_snoc]
    unfold rStep
    rw [if_neg (by omega)]
    simp only [Prod.mk.injEq, and_true]
    refine ⟨by rw [Nat.pow_succ, Nat.add_mul, Nat.mul_assoc]; omega, ?_⟩
    cases pt <;> simp <;> omega
theorem txtN_val {A : List UInt8} {B : Option (List UInt8)} (hA : digL A) (hB : digL (B.getD [])) : txtN A B = valN (A ++ B.getD []) ∧ (rFold (A ++ dotL B)).2.1 = (B.getD []).length := by
  have hr := rFold_dig _ A 0 0 false rfl hA
  unfold txtN rFold
  rw [List.foldl_append, hr]
  cases B with
  | none => simp [dotL]
  | some B =>
    simp only [Option.getD_some] at hB
    simp only [dotL, List.foldl_cons, Option.getD_some]
    rw [show rStep (0 * 10 ^ A.length + valN A, (if false = true then 0 + A.length else 0), false) 46 = (valN A, 0, true) by unfold rStep; rw [if_pos (by decide)]; simp]
    rw [rFold_dig _ B _ _ _ rfl hB, valN_app _ _ _ rfl]
    simp
end Go.Proofs.YtjpaapkdbohgeaaDoor
namespace Go.Proofs.YtjpaapkdbohgeaaDoor
open Go.Abs
end Go.Proofs.YtjpaapkdbohgeaaDoor
namespace Go.Proofs.YtjpaapkdbohgeaaDoor
open Go.Abs
theorem scS_pos {sg : Bool} {l : List UInt8} (h : (scS sg l).2 = true) : 0 < (scS sg l).1 := by
  have hpt : ∀ (sm : Bool) (m : List UInt8), (ptS sm m).2 = true → sm = true ∨ 0 < (ptS sm m).1 := fun sm m h => by
    cases sm with
    | true => exact .inl rfl
    | false =>
      refine .inr ?_
      unfold ptS at h ⊢
      split
      · simp only [addA]; omega
      · rename_i hk; rw [if_neg hk] at h; exact absurd h (by unfold eS; simp)
  have hc : ∀ m : List UInt8, (addA (runN m) (ptS (decide (0 < runN m)) (m.drop (runN m)))).2 = true → 0 < (addA (runN m) (ptS (decide (0 < runN m)) (m.drop (runN m)))).1 := fun m h => by
    simp only [addA] at h ⊢
    rcases hpt _ _ h with h | h
    · have := of_decide_eq_true h; omega
    · omega
  unfold scS at h ⊢
  split
  · rename_i hs; rw [if_pos hs] at h; simp only [addA]; omega
  · rename_i hs; rw [if_neg hs] at h; exact hc _ h
end Go.Proofs.YtjpaapkdbohgeaaDoor
namespace Go.Proofs.YtjpaapkdbohgeaaDoor
open Go.Abs
def blanksL : List Int := [0, 0, 0, 0, 0, 0, 0, 0, 0, 1, 1, 0, 0, 1, 0, 0, 0, 0, 0, 0, 0, 0, 0, 0, 0, 0, 0, 0, 0, 0, 0, 0, 1]
theorem blanks_ld : ∀ {n : Nat} (_ : n < 33), partK false (dropL (ci .i64 blanksL) (n * 1)) 0 1 = some (.int .i64 (if blankN (n : Nat) = true then 1 else 0))
  | 0, _ => rfl
  | 1, _ => rfl
  | 2, _ => rfl
  | 3, _ => rfl
  | 4, _ => rfl
  | 5, _ => rfl
  | 6, _ => rfl
  | 7, _ => rfl
  | 8, _ => rfl
  | 9, _ => rfl
  | 10, _ => rfl
  | 11, _ => rfl
  | 12, _ => rfl
  | 13, _ => rfl
  | 14, _ => rfl
  | 15, _ => rfl
  | 16, _ => rfl
  | 17, _ => rfl
  | 18, _ => rfl
  | 19, _ => rfl
  | 20, _ => rfl
  | 21, _ => rfl
  | 22, _ => rfl
  | 23, _ => rfl
  | 24, _ => rfl
  | 25, _ => rfl
  | 26, _ => rfl
  | 27, _ => rfl
  | 28, _ => rfl
  | 29, _ => rfl
  | 30, _ => rfl
  | 31, _ => rfl
  | 32, _ => rfl
  | n + 33, h => absurd h (by omega)
def flR (s : List UInt8) (p : Nat) : Int × Int × Nat := match s[p]? with
  | some b => if (b.toNat : Int) = 48 ∨ (b.toNat : Int) = 49 then ((b.toNat : Int) - 48, 0, p + 1) else (0, 3, p)
  | none => (0, 3, p)
theorem flR_some {s : List UInt8} {p : Nat} {b : UInt8} (h : s[p]? = some b) : flR s p = if (b.toNat : Int) = 48 ∨ (b.toNat : Int) = 49 then ((b.toNat : Int) - 48, 0, p + 1) else (0, 3, p) := by unfold flR; rw [h]
theorem flR_none {s : List UInt8} {p : Nat} (h : s.length ≤ p) : flR s p = (0, 3, p) := by unfold flR; rw [List.getElem?_eq_none h]
def gotV (v e : Int) (p : Nat) : AV := .agg [.int .i64 v, .int .i64 e, .int .i64 p]
end Go.Proofs.YtjpaapkdbohgeaaDoor
namespace Go.Proofs.YtjpaapkdbohgeaaDoor
open Go.Abs
def rdr (s : List UInt8) (p : Nat) : List AV := [.str s, .int .i64 p]
theorem c_at (s : List UInt8) (p : Nat) : ACalls seat 42 [.ptr 0 0] [.var (rdr s p) 96] (fun x h => x = .ret (.int .i64 p) ∧ h = [.var (rdr s p) 96]) := by
  refine ACalls.body seat_ok Tryd.func42 rfl rfl ?_
  unfold rdr
  conv => whnf
  exact ⟨rfl, rfl⟩
theorem c_left (s : List UInt8) (p : Nat) (hl : s.length ≤ 900000) (hp : p ≤ s.length) : ACalls seat 40 [.ptr 0 0] [.var (rdr s p) 96] (fun x h => x = .ret (.int .i64 ((s.length : Int) - p)) ∧ h = [.var (rdr s p) 96]) := by
  refine ACalls.body seat_ok Tryd.func40 rfl rfl ?_
  unfold rdr
  conv => whnf
  refine DrawH.plan seat_ok (.take 0 (.take 1 (.take 2 (.take 3 (.take 4 (.take 5 (.take 6 (.take 7 (.take 8 (.take 9 (.take 10 Plan.done))))))))))) 0 (by kernel_rfl) ?_
  conv => whnf
  repeat' (first | exact ⟨rfl, rfl⟩ | ((first | refine zq1 (by omega) ?_ | refine zq2 (by omega) ?_ | refine NumH.rem (by omega) ?_ | refine zq4 (by omega) ?_ | refine zq5 (by omega) ?_ | refine zq6 ?_ | refine Req.mk (by omega) ?_ | refine Req.mk (by dsimp only; omega) ?_ | refine Req.mk (show pendP _ _ by repeat' constructor) ?_ | (with_reducible first | refine brT (by assumption) ?_ | refine brF (by assumption) ?_ | refine brDT (by omega) ?_ | refine brDF (by omega) ?_ | refine brET (by omega) ?_ | refine brEF (by omega) ?_ | refine brNET (by omega) ?_ | refine brNEF (by omega) ?_ | refine brNot ?_)); conv => whnf))
theorem c_peekS (s : List UInt8) (p : Nat) (b : UInt8) (hb : s[p]? = some b) (hl : s.length ≤ 900000) : ACalls seat 41 [.ptr 0 0] [.var (rdr s p) 96] (fun x h => x = .ret (.tup [.int .u8 b.toNat, .bool true]) ∧ h = [.var (rdr s p) 96]) := by
  have hp : p < s.length := (List.getElem?_eq_some_iff.1 hb).1
  have cl := c_left s p hl (by omega)
  have eb : (s[(p : Int).toNat]?) = some b := hb
  refine ACalls.body seat_ok Tryd.func41 rfl rfl ?_
  have g : (s.length : Int) - p ≠ 0 := by omega
  unfold rdr at *
  conv => whnf
  refine CallH.mem1 seat_g 0 cl rfl (by simp [Closed, ClosedL]) (by simp [Closed, ClosedL]) (by simp [Closed, ClosedL]) rfl ?_
  conv => whnf
  repeat' ((first | refine zq1 (by omega) ?_ | refine zq2 (by omega) ?_ | refine NumH.rem (by omega) ?_ | refine zq4 (by omega) ?_ | refine zq5 (by omega) ?_ | refine zq6 ?_ | refine Req.mk (by omega) ?_ | refine Req.mk (by dsimp only; omega) ?_ | refine Req.mk (show pendP _ _ by repeat' constructor) ?_ | (with_reducible first | refine brT (by assumption) ?_ | refine brF (by assumption) ?_ | refine brDT (by omega) ?_ | refine brDF (by omega) ?_ | refine brET (by omega) ?_ | refine brEF (by omega) ?_ | refine brNET (by omega) ?_ | refine brNEF (by omega) ?_ | refine brNot ?_)); conv => whnf)
  refine DrawH.plan seat_ok (.take 0 (.take 1 (.take 2 (.take 3 (.take 4 (.take 5 (.take 6 (.take 7 (.take 8 (.take 9 (.take 10 Plan.done))))))))))) 0 (by kernel_rfl) ?_
  conv => whnf
  repeat' (first | exact ⟨rfl, rfl⟩ | (refine ldI _ eb ?_; conv => whnf) | ((first | refine zq1 (by omega) ?_ | refine zq2 (by omega) ?_ | refine NumH.rem (by omega) ?_ | refine zq4 (by omega) ?_ | refine zq5 (by omega) ?_ | refine zq6 ?_ | refine Req.mk (by omega) ?_ | refine Req.mk (by dsimp only; omega) ?_ | refine Req.mk (show pendP _ _ by repeat' constructor) ?_ | (with_reducible first | refine brT (by assumption) ?_ | refine brF (by assumption) ?_ | refine brDT (by omega) ?_ | refine brDF (by omega) ?_ | refine brET (by omega) ?_ | refine brEF (by omega) ?_ | refine brNET (by omega) ?_ | refine brNEF (by omega) ?_ | refine brNot ?_)); conv => whnf))
theorem c_peekN (s : List UInt8) (hl : s.length ≤ 900000) : ACalls seat 41 [.ptr 0 0] [.var (rdr s s.length) 96] (fun x h => x = .ret (.tup [.int .u8 0, .bool false]) ∧ h = [.var (rdr s s.length) 96]) := by
  have cl := c_left s s.length hl (Nat.le_refl _)
  rw [show ((s.length : Nat) : Int) - (s.length : Nat) = 0 by omega] at cl
  refine ACalls.body seat_ok Tryd.func41 rfl rfl ?_
  unfold rdr at *
  conv => whnf
  refine CallH.mem1 seat_g 0 cl rfl (by simp [Closed, ClosedL]) (by simp [Closed, ClosedL]) (by simp [Closed, ClosedL]) rfl ?_
  conv => whnf
  exact ⟨rfl, rfl⟩
theorem c_skip (s : List UInt8) (p : Nat) (hp : p ≤ s.length) (hl : s.length ≤ 900000) : ACalls seat 43 [.ptr 0 0] [.var (rdr s p) 96] (fun x h => x = .ret (.bool (decide (p < s.length))) ∧ h = [.var (rdr s (min (p + 1) s.length)) 96]) := by
  have cl := c_left s p hl hp
  refine ACalls.body seat_ok Tryd.func43 rfl rfl ?_
  by_cases h : p < s.length
  · rw [decide_eq_true h, Nat.min_eq_left h]
    have g : (s.length : Int) - p ≠ 0 := by omega
    unfold rdr at *
    conv => whnf
    refine CallH.mem1 seat_g 0 cl rfl (by simp [Closed, ClosedL]) (by simp [Closed, ClosedL]) (by simp [Closed, ClosedL]) rfl ?_
    conv => whnf
    repeat' (first | exact ⟨rfl, rfl⟩ | ((first | refine zq1 (by omega) ?_ | refine zq2 (by omega) ?_ | refine NumH.rem (by omega) ?_ | refine zq4 (by omega) ?_ | refine zq5 (by omega) ?_ | refine zq6 ?_ | refine Req.mk (by omega) ?_ | refine Req.mk (by dsimp only; omega) ?_ | refine Req.mk (show pendP _ _ by repeat' constructor) ?_ | (with_reducible first | refine brT (by assumption) ?_ | refine brF (by assumption) ?_ | refine brDT (by omega) ?_ | refine brDF (by omega) ?_ | refine brET (by omega) ?_ | refine brEF (by omega) ?_ | refine brNET (by omega) ?_ | refine brNEF (by omega) ?_ | refine brNot ?_)); conv => whnf))
  · obtain rfl : p = s.length := by omega
    rw [decide_eq_false h, Nat.min_eq_right (by omega)]
    have g : (s.length : Int) - (s.length : Nat) = 0 := by omega
    rw [g] at cl
    unfold rdr at *
    conv => whnf
    refine CallH.mem1 seat_g 0 cl rfl (by simp [Closed, ClosedL]) (by simp [Closed, ClosedL]) (by simp [Closed, ClosedL]) rfl ?_
    conv => whnf
    exact ⟨rfl, rfl⟩
theorem c_flag (s : List UInt8) (p : Nat) (hp : p ≤ s.length) (hl : s.length ≤ 900000) : ACalls seat 64 [.ptr 0 0] [.var (rdr s p) 96] (fun x h => x = .ret (.tup [.int .i64 (flR s p).1, .int .i64 (flR s p).2.1]) ∧ h = [.var (rdr s (flR s p).2.2) 96]) := by
  refine ACalls.body seat_ok Tryd.func64 rfl rfl ?_
  by_cases g : p < s.length
  · obtain ⟨b, hb⟩ : ∃ b, s[p]? = some b := ⟨_, List.getElem?_eq_getElem g⟩
    have cp := c_peekS s p b hb hl
    rw [flR_some hb]
    by_cases h1 : (b.toNat : Int) = 48
    · rw [if_pos (.inl h1)]
      unfold rdr at *
      conv => whnf
      refine CallH.mem1 seat_g 0 cp rfl (by simp [Closed, ClosedL]) (by simp [Closed, ClosedL]) (by simp [Closed, ClosedL]) rfl ?_
      conv => whnf
      repeat' (first | exact ⟨rfl, rfl⟩ | (refine WrapH.is _ (wrap_u8 (by omega) (by omega)) ?_; conv => whnf) | ((first | refine zq1 (by omega) ?_ | refine zq2 (by omega) ?_ | refine NumH.rem (by omega) ?_ | refine zq4 (by omega) ?_ | refine zq5 (by omega) ?_ | refine zq6 ?_ | refine Req.mk (by omega) ?_ | refine Req.mk (by dsimp only; omega) ?_ | refine Req.mk (show pendP _ _ by repeat' constructor) ?_ | (with_reducible first | refine brT (by assumption) ?_ | refine brF (by assumption) ?_ | refine brDT (by omega) ?_ | refine brDF (by omega) ?_ | refine brET (by omega) ?_ | refine brEF (by omega) ?_ | refine brNET (by omega) ?_ | refine brNEF (by omega) ?_ | refine brNot ?_)); conv => whnf))
    · by_cases h2 : (b.toNat : Int) = 49
      · rw [if_pos (.inr h2)]
        unfold rdr at *
        conv => whnf
        refine CallH.mem1 seat_g 0 cp rfl (by simp [Closed, ClosedL]) (by simp [Closed, ClosedL]) (by simp [Closed, ClosedL]) rfl ?_
        conv => whnf
        repeat' (first | exact ⟨rfl, rfl⟩ | (refine WrapH.is _ (wrap_u8 (by omega) (by omega)) ?_; conv => whnf) | ((first | refine zq1 (by omega) ?_ | refine zq2 (by omega) ?_ | refine NumH.rem (by omega) ?_ | refine zq4 (by omega) ?_ | refine zq5 (by omega) ?_ | refine zq6 ?_ | refine Req.mk (by omega) ?_ | refine Req.mk (by dsimp only; omega) ?_ | refine Req.mk (show pendP _ _ by repeat' constructor) ?_ | (with_reducible first | refine brT (by assumption) ?_ | refine brF (by assumption) ?_ | refine brDT (by omega) ?_ | refine brDF (by omega) ?_ | refine brET (by omega) ?_ | refine brEF (by omega) ?_ | refine brNET (by omega) ?_ | refine brNEF (by omega) ?_ | refine brNot ?_)); conv => whnf))
      · rw [if_neg (by omega)]
        unfold rdr at *
        conv => whnf
        refine CallH.mem1 seat_g 0 cp rfl (by simp [Closed, ClosedL]) (by simp [Closed, ClosedL]) (by simp [Closed, ClosedL]) rfl ?_
        conv => whnf
        repeat' (first | exact ⟨rfl, rfl⟩ | ((first | refine zq1 (by omega) ?_ | refine zq2 (by omega) ?_ | refine NumH.rem (by omega) ?_ | refine zq4 (by omega) ?_ | refine zq5 (by omega) ?_ | refine zq6 ?_ | refine Req.mk (by omega) ?_ | refine Req.mk (by dsimp only; omega) ?_ | refine Req.mk (show pendP _ _ by repeat' constructor) ?_ | (with_reducible first | refine brT (by assumption) ?_ | refine brF (by assumption) ?_ | refine brDT (by omega) ?_ | refine brDF (by omega) ?_ | refine brET (by omega) ?_ | refine brEF (by omega) ?_ | refine brNET (by omega) ?_ | refine brNEF (by omega) ?_ | refine brNot ?_)); conv => whnf))
  · obtain rfl : p = s.length := by omega
    rw [flR_none (Nat.le_refl _)]
    have cp := c_peekN s hl
    unfold rdr at *
    conv => whnf
    refine CallH.mem1 seat_g 0 cp rfl (by simp [Closed, ClosedL]) (by simp [Closed, ClosedL]) (by simp [Closed, ClosedL]) rfl ?_
    conv => whnf
    repeat' (first | exact ⟨rfl, rfl⟩ | ((first | refine zq1 (by omega) ?_ | refine zq2 (by omega) ?_ | refine NumH.rem (by omega) ?_ | refine zq4 (by omega) ?_ | refine zq5 (by omega) ?_ | refine zq6 ?_ | refine Req.mk (by omega) ?_ | refine Req.mk (by dsimp only; omega) ?_ | refine Req.mk (show pendP _ _ by repeat' constructor) ?_ | (with_reducible first | refine brT (by assumption) ?_ | refine brF (by assumption) ?_ | refine brDT (by omega) ?_ | refine brDF (by omega) ?_ | refine brET (by omega) ?_ | refine brEF (by omega) ?_ | refine brNET (by omega) ?_ | refine brNEF (by omega) ?_ | refine brNot ?_)); conv => whnf))
set_option maxRecDepth 20000 in
theorem c_blanks (s : List UInt8) (p : Nat) (hp : p ≤ s.length) (hl : s.length ≤ 900000) : ACalls seat 39 [.ptr 0 0] [.var (rdr s p) 96] (fun x h => x = .ret (.int .i64 (blk (s.drop p) : Nat)) ∧ h = [.var (rdr s (p + blk (s.drop p))) 96]) := by
  refine ACalls.body seat_ok Tryd.func39 rfl rfl ?_
  conv => whnf
  refine Sat.cut (fun x t h => x = .ret ∧ t = (uu::uu::.int .i64 (blk (s.drop p) : Nat)::uu::uu::uu::uu::uu::uu::uu::uu::uu::uu::uu::uu::uu::uu::uu::uu::uu::uu::uu::uu::uu::uu::uu::uu::uu::uu::uu::uu::uu::uu::uu::[]) ∧ h = [.var (rdr s (p + blk (s.drop p))) 96]) ?_ ?_
  · refine Sat.invP seat_ok seat_g (maskOf 34 [0, 3]) 1 (fun μ t h => ∃ (q : Nat) (z : Int), z = q ∧ q + blk (s.drop (p + q)) = blk (s.drop p) ∧ p + q ≤ s.length ∧ μ = s.length - (p + q) ∧ t = (.ptr 0 0::uu::uu::.int .i64 z::uu::uu::uu::uu::uu::uu::uu::uu::uu::uu::uu::uu::uu::uu::uu::uu::uu::uu::uu::uu::uu::uu::uu::uu::uu::uu::uu::uu::uu::uu::[]) ∧ h = [.var (rdr s (p + q)) 96]) ?_ ⟨_, _, WeakL.of_eq rfl, 0, 0, rfl, by rw [Nat.zero_add]; rfl, hp, rfl, rfl, rfl⟩ ?_
    · rintro _ _ _ ⟨q, z, -, -, -, -, rfl, rfl⟩
      exact ⟨rfl, (by simp [IdsL, Ids, IdsH, IdsC, lv_ids, ci_ids]), by simp [rdr, IdsH, IdsC, IdsL, Ids]⟩
    rintro _ _ _ ⟨q, z, hz, hr, hq, rfl, rfl, rfl⟩
    by_cases g : p + q < s.length
    · obtain ⟨b, hb⟩ : ∃ b, s[p + q]? = some b := ⟨_, List.getElem?_eq_getElem g⟩
      have cp := c_peekS s (p + q) b hb hl
      have hB := isB_some hb
      have hlt : b.toNat < 256 := b.toNat_lt
      by_cases h33 : b.toNat < 33
      · have hld := blanks_ld h33
        cases hv : blankN b.toNat with
        | true =>
          rw [hv] at hB hld
          rw [if_pos rfl] at hld
          obtain ⟨h1, -⟩ := blk_step hB
          have hnx : (((p + q : Nat) : Int) + 1) = ((p + (q + 1) : Nat) : Int) := by omega
          unfold rdr at *
          conv => whnf
          repeat' (first | exact ⟨_, _, show s.length - (p + (q + 1)) < s.length - (p + q) by omega, WeakL.of_eq rfl, q + 1, z + 1, by omega, by rw [← hr, h1, Nat.add_assoc p q 1]; omega, by omega, rfl, rfl, by rw [← hnx]; rfl⟩ | (refine CallH.mem1 seat_g 0 cp rfl (by simp [Closed, ClosedL]) (by simp [Closed, ClosedL]) (by simp [Closed, ClosedL]) rfl ?_; conv => whnf) | (refine ldI _ hld ?_; conv => whnf) | ((first | refine zq1 (by omega) ?_ | refine zq2 (by omega) ?_ | refine NumH.rem (by omega) ?_ | refine zq4 (by omega) ?_ | refine zq5 (by omega) ?_ | refine zq6 ?_ | refine Req.mk (by omega) ?_ | refine Req.mk (by dsimp only; omega) ?_ | refine Req.mk (show pendP _ _ by repeat' constructor) ?_ | (with_reducible first | refine brT (by assumption) ?_ | refine brF (by assumption) ?_ | refine brDT (by omega) ?_ | refine brDF (by omega) ?_ | refine brET (by omega) ?_ | refine brEF (by omega) ?_ | refine brNET (by omega) ?_ | refine brNEF (by omega) ?_ | refine brNot ?_)); conv => whnf))
        | false =>
          rw [hv] at hB hld
          rw [if_neg (by decide)] at hld
          have h0 := blk_stop hB
          rw [h0, Nat.add_zero] at hr
          rw [← hr]
          have hzz : z = q := hz
          rw [← hz]
          unfold rdr at *
          conv => whnf
          repeat' (first | exact ⟨_, keepT_weak (maskOf 34 [2]) _, rfl, rfl, rfl⟩ | (refine CallH.mem1 seat_g 0 cp rfl (by simp [Closed, ClosedL]) (by simp [Closed, ClosedL]) (by simp [Closed, ClosedL]) rfl ?_; conv => whnf) | (refine ldI _ hld ?_; conv => whnf) | ((first | refine zq1 (by omega) ?_ | refine zq2 (by omega) ?_ | refine NumH.rem (by omega) ?_ | refine zq4 (by omega) ?_ | refine zq5 (by omega) ?_ | refine zq6 ?_ | refine Req.mk (by omega) ?_ | refine Req.mk (by dsimp only; omega) ?_ | refine Req.mk (show pendP _ _ by repeat' constructor) ?_ | (with_reducible first | refine brT (by assumption) ?_ | refine brF (by assumption) ?_ | refine brDT (by omega) ?_ | refine brDF (by omega) ?_ | refine brET (by omega) ?_ | refine brEF (by omega) ?_ | refine brNET (by omega) ?_ | refine brNEF (by omega) ?_ | refine brNot ?_)); conv => whnf))
      · have hv : blankN b.toNat = false := Bool.eq_false_iff.2 (fun h => by have := (blankN_iff _).1 h; omega)
        rw [hv] at hB
        have h0 := blk_stop hB
        rw [h0, Nat.add_zero] at hr
        rw [← hr, ← hz]
        unfold rdr at *
        conv => whnf
        repeat' (first | exact ⟨_, keepT_weak (maskOf 34 [2]) _, rfl, rfl, rfl⟩ | (refine CallH.mem1 seat_g 0 cp rfl (by simp [Closed, ClosedL]) (by simp [Closed, ClosedL]) (by simp [Closed, ClosedL]) rfl ?_; conv => whnf) | ((first | refine zq1 (by omega) ?_ | refine zq2 (by omega) ?_ | refine NumH.rem (by omega) ?_ | refine zq4 (by omega) ?_ | refine zq5 (by omega) ?_ | refine zq6 ?_ | refine Req.mk (by omega) ?_ | refine Req.mk (by dsimp only; omega) ?_ | refine Req.mk (show pendP _ _ by repeat' constructor) ?_ | (with_reducible first | refine brT (by assumption) ?_ | refine brF (by assumption) ?_ | refine brDT (by omega) ?_ | refine brDF (by omega) ?_ | refine brET (by omega) ?_ | refine brEF (by omega) ?_ | refine brNET (by omega) ?_ | refine brNEF (by omega) ?_ | refine brNot ?_)); conv => whnf))
    · have hpe : p + q = s.length := by omega
      have cp := c_peekN s hl
      rw [← hpe] at cp
      have h0 : blk (s.drop (p + q)) = 0 := by rw [List.drop_eq_nil_of_le (by omega)]; rfl
      rw [h0, Nat.add_zero] at hr
      rw [← hr, ← hz]
      unfold rdr at *
      conv => whnf
      repeat' (first | exact ⟨_, keepT_weak (maskOf 34 [2]) _, rfl, rfl, rfl⟩ | (refine CallH.mem1 seat_g 0 cp rfl (by simp [Closed, ClosedL]) (by simp [Closed, ClosedL]) (by simp [Closed, ClosedL]) rfl ?_; conv => whnf) | ((first | refine zq1 (by omega) ?_ | refine zq2 (by omega) ?_ | refine NumH.rem (by omega) ?_ | refine zq4 (by omega) ?_ | refine zq5 (by omega) ?_ | refine zq6 ?_ | refine Req.mk (by omega) ?_ | refine Req.mk (by dsimp only; omega) ?_ | refine Req.mk (show pendP _ _ by repeat' constructor) ?_ | (with_reducible first | refine brT (by assumption) ?_ | refine brF (by assumption) ?_ | refine brDT (by omega) ?_ | refine brDF (by omega) ?_ | refine brET (by omega) ?_ | refine brEF (by omega) ?_ | refine brNET (by omega) ?_ | refine brNEF (by omega) ?_ | refine brNot ?_)); conv => whnf))
  · rintro _ _ _ ⟨rfl, rfl, rfl⟩
    conv => whnf
    exact ⟨rfl, rfl⟩
end Go.Proofs.YtjpaapkdbohgeaaDoor
namespace Go.Proofs.YtjpaapkdbohgeaaDoor
open Go.Abs
theorem outV_ex (n : Int) : ∃ a e : Int, outV n = .tup [.int .i64 a, .int .i64 e] ∧ ((e = 0 ∧ a = n ∧ -4294967296 < n ∧ n < 4294967296) ∨ (e = 2 ∧ a = 0 ∧ (4294967296 ≤ n ∨ n ≤ -4294967296))) := by
  unfold outV
  by_cases h : 4294967296 ≤ n ∨ n ≤ -4294967296
  · rw [if_pos h]; exact ⟨_, _, rfl, .inr ⟨rfl, rfl, h⟩⟩
  · rw [if_neg h]; exact ⟨_, _, rfl, .inl ⟨rfl, rfl, by omega, by omega⟩⟩
end Go.Proofs.YtjpaapkdbohgeaaDoor
