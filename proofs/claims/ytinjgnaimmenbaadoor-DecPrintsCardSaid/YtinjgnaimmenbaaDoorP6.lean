/- Definitions and lemmas for the law, part 6. No condition beyond those in each statement. -/
import Derived.Test.YtinjgnaimmenbaaDoorP5
set_option linter.unusedSimpArgs false
set_option linter.unusedVariables false
set_option linter.deprecated false
namespace Go.Proofs.YtinjgnaimmenbaaDoor
open Go.Abs
theorem rdStep_dig {r : RS} (b : UInt8) (h : ∀ x ∈ r.ds, 0 ≤ x ∧ x ≤ 9) : ∀ x ∈ (rdStep r b).ds, 0 ≤ x ∧ x ≤ 9 := by
  unfold rdStep
  split
  · rename_i hk
    intro x hx
    have hc := kindN_cases b.toNat
    simp only [dsF] at hx
    split at hx
    · rcases List.mem_append.1 hx with hx | hx
      · exact h x hx
      · simp only [List.mem_singleton] at hx; omega
    · exact h x hx
  · split
    · exact h
    · split <;> exact h
theorem rdM_dig (M : List UInt8) : ∀ x ∈ (rdM M).ds, 0 ≤ x ∧ x ≤ 9 := by
  have : ∀ (l : List UInt8) (r : RS), (∀ x ∈ r.ds, 0 ≤ x ∧ x ≤ 9) → ∀ x ∈ (l.foldl rdStep r).ds, 0 ≤ x ∧ x ≤ 9 := by
    intro l
    induction l with
    | nil => intro r h; exact h
    | cons b l ih => intro r h; exact ih _ (rdStep_dig b h)
  exact this M _ (by simp)
theorem stripL_mem {l : List Int} {x : Int} (h : x ∈ stripL l) : x ∈ l := by
  unfold stripL at h
  rw [List.mem_reverse] at h
  have := (List.dropWhile_sublist _).subset h
  simpa using this
theorem stripL_len (l : List Int) : (stripL l).length ≤ l.length := by
  unfold stripL
  rw [List.length_reverse]
  have := (List.dropWhile_sublist (fun x : Int => x == 0) (l := l.reverse)).length_le
  simpa using this
theorem c_dparseE (s : List UInt8) (hl : s.length ≤ 1000000) (h : ¬ (endsT (dfa true 0 s).2 = true ∧ (dfa true 0 s).1 = s.length)) : ACalls seat 8 [.str s] [] (fun x _ => x = .ret (.tup [.int .i64 0, .int .i64 3])) := by
  refine ACalls.body seat_ok Tryd.func8 rfl rfl ?_
  have c := c_dscan s 0 true (by omega)
  rw [if_neg (by omega)] at c
  have hle := (dfa_le true s 0 (by omega)).1
  simp only [Int.toNat_zero, List.drop_zero, Int.zero_add] at c
  generalize (dfa true 0 s).1 = n at *
  generalize endsT (dfa true 0 s).2 = f at *
  cases f with
  | false =>
    conv => whnf
    refine CallH.lift seat_g c (by simp [Closed, ClosedL]) (by simp [Closed, ClosedL]) ?_
    conv => whnf
    repeat' ((first | refine zq1 (by omega) ?_ | refine zq2 (by omega) ?_ | refine NumH.rem (by omega) ?_ | refine zq4 (by omega) ?_ | refine zq5 (by omega) ?_ | refine zq6 ?_ | refine Req.mk (by omega) ?_ | refine Req.mk (by dsimp only; omega) ?_ | refine Req.mk (show pendP _ _ by repeat' constructor) ?_ | (with_reducible first | refine brT (by assumption) ?_ | refine brF (by assumption) ?_ | refine brDT (by omega) ?_ | refine brDF (by omega) ?_ | refine brET (by omega) ?_ | refine brEF (by omega) ?_ | refine brNET (by omega) ?_ | refine brNEF (by omega) ?_ | refine brNot ?_)); conv => whnf)
    rfl
  | true =>
    have hn : n < s.length := by simp at h; omega
    conv => whnf
    refine CallH.lift seat_g c (by simp [Closed, ClosedL]) (by simp [Closed, ClosedL]) ?_
    conv => whnf
    repeat' ((first | refine zq1 (by omega) ?_ | refine zq2 (by omega) ?_ | refine NumH.rem (by omega) ?_ | refine zq4 (by omega) ?_ | refine zq5 (by omega) ?_ | refine zq6 ?_ | refine Req.mk (by omega) ?_ | refine Req.mk (by dsimp only; omega) ?_ | refine Req.mk (show pendP _ _ by repeat' constructor) ?_ | (with_reducible first | refine brT (by assumption) ?_ | refine brF (by assumption) ?_ | refine brDT (by omega) ?_ | refine brDF (by omega) ?_ | refine brET (by omega) ?_ | refine brEF (by omega) ?_ | refine brNET (by omega) ?_ | refine brNEF (by omega) ?_ | refine brNot ?_)); conv => whnf)
    rfl
set_option maxRecDepth 20000 in
set_option maxHeartbeats 2000000 in
theorem c_dparseV (M : List UInt8) (ex : Option (UInt8 × List UInt8 × List UInt8)) (hM : ∀ b ∈ M, kindN b.toNat ≠ 2) (hex : exOK ex) (hl : (M ++ expB ex).length ≤ 1000000)
    (h1 : (dfa true 0 (M ++ expB ex)).1 = (M ++ expB ex).length) (h2 : endsT (dfa true 0 (M ++ expB ex)).2 = true) :
    ACalls seat 8 [.str (M ++ expB ex)] [] (fun x _ => x = .ret (decR (rdM M).below (stripL (rdM M).ds) ((rdM M).pt + if exDown ex then 0 - exPow 1099511627776 ex else exPow 1099511627776 ex))) := by
  refine ACalls.body seat_ok Tryd.func8 rfl rfl ?_
  have c := c_dscan (M ++ expB ex) 0 true (by omega)
  rw [if_neg (by omega)] at c
  simp only [Int.toNat_zero, List.drop_zero, Int.zero_add] at c
  rw [h1, h2] at c
  have cr := c_dread M ex hM hex hl
  unfold numV at cr
  have hdig : ∀ x ∈ stripL (rdM M).ds, 0 ≤ x ∧ x ≤ 9 := fun x hx => rdM_dig M x (stripL_mem hx)
  have hbd := rdM_bd M.length M rfl
  have hpw : 0 ≤ exPow 1099511627776 ex ∧ exPow 1099511627776 ex ≤ 1099511627776 := by
    cases ex with
    | none => simp [exPow]
    | some x => exact powF_bd (by decide) _ _ rfl hex.2.2.2
  have hlM : M.length ≤ 1000000 := by rw [List.length_append] at hl; omega
  have hdl : (stripL (rdM M).ds).length ≤ 1000000 := Nat.le_trans (stripL_len _) (by omega)
  have hpp : -2000000000000 ≤ (rdM M).pt + (if exDown ex then 0 - exPow 1099511627776 ex else exPow 1099511627776 ex) ∧ (rdM M).pt + (if exDown ex then 0 - exPow 1099511627776 ex else exPow 1099511627776 ex) ≤ 2000000000000 := by split <;> omega
  generalize (rdM M).pt + (if exDown ex then 0 - exPow 1099511627776 ex else exPow 1099511627776 ex) = p at *
  generalize stripL (rdM M).ds = d at *
  generalize (rdM M).below = bl at *
  generalize M ++ expB ex = s at *
  clear h1 h2 hbd hpw hM hex hlM
  by_cases g1 : p > 5
  · by_cases g2 : 0 < d.length
    · have e : decR bl d p = .tup [.int .i64 0, .int .i64 2] := if_pos ⟨g1, g2⟩
      rw [e]
      have g2' : (0 : Int) < d.length := by omega
      conv => whnf
      refine CallH.lift seat_g c (by simp [Closed, ClosedL]) (by simp [Closed, ClosedL]) ?_
      conv => whnf
      repeat' ((first | refine zq1 (by omega) ?_ | refine zq2 (by omega) ?_ | refine NumH.rem (by omega) ?_ | refine zq4 (by omega) ?_ | refine zq5 (by omega) ?_ | refine zq6 ?_ | refine Req.mk (by omega) ?_ | refine Req.mk (by dsimp only; omega) ?_ | refine Req.mk (show pendP _ _ by repeat' constructor) ?_ | (with_reducible first | refine brT (by assumption) ?_ | refine brF (by assumption) ?_ | refine brDT (by omega) ?_ | refine brDF (by omega) ?_ | refine brET (by omega) ?_ | refine brEF (by omega) ?_ | refine brNET (by omega) ?_ | refine brNEF (by omega) ?_ | refine brNot ?_)); conv => whnf)
      refine CallH.lift seat_g cr (by simp [Closed, ClosedL]) (nmV_closed bl d p) ?_
      conv => whnf
      repeat' ((first | refine zq1 (by omega) ?_ | refine zq2 (by omega) ?_ | refine NumH.rem (by omega) ?_ | refine zq4 (by omega) ?_ | refine zq5 (by omega) ?_ | refine zq6 ?_ | refine Req.mk (by omega) ?_ | refine Req.mk (by dsimp only; omega) ?_ | refine Req.mk (show pendP _ _ by repeat' constructor) ?_ | (with_reducible first | refine brT (by assumption) ?_ | refine brF (by assumption) ?_ | refine brDT (by omega) ?_ | refine brDF (by omega) ?_ | refine brET (by omega) ?_ | refine brEF (by omega) ?_ | refine brNET (by omega) ?_ | refine brNEF (by omega) ?_ | refine brNot ?_)); conv => whnf)
      rfl
    · have g2' : ¬ ((0 : Int) < d.length) := by omega
      have g0 : ¬ (p > 5 ∧ 0 < d.length) := fun h => g2 h.2
      conv => whnf
      refine CallH.lift seat_g c (by simp [Closed, ClosedL]) (by simp [Closed, ClosedL]) ?_
      conv => whnf
      repeat' ((first | refine zq1 (by omega) ?_ | refine zq2 (by omega) ?_ | refine NumH.rem (by omega) ?_ | refine zq4 (by omega) ?_ | refine zq5 (by omega) ?_ | refine zq6 ?_ | refine Req.mk (by omega) ?_ | refine Req.mk (by dsimp only; omega) ?_ | refine Req.mk (show pendP _ _ by repeat' constructor) ?_ | (with_reducible first | refine brT (by assumption) ?_ | refine brF (by assumption) ?_ | refine brDT (by omega) ?_ | refine brDF (by omega) ?_ | refine brET (by omega) ?_ | refine brEF (by omega) ?_ | refine brNET (by omega) ?_ | refine brNEF (by omega) ?_ | refine brNot ?_)); conv => whnf)
      refine CallH.lift seat_g cr (by simp [Closed, ClosedL]) (nmV_closed bl d p) ?_
      conv => whnf
      repeat' ((first | refine zq1 (by omega) ?_ | refine zq2 (by omega) ?_ | refine NumH.rem (by omega) ?_ | refine zq4 (by omega) ?_ | refine zq5 (by omega) ?_ | refine zq6 ?_ | refine Req.mk (by omega) ?_ | refine Req.mk (by dsimp only; omega) ?_ | refine Req.mk (show pendP _ _ by repeat' constructor) ?_ | (with_reducible first | refine brT (by assumption) ?_ | refine brF (by assumption) ?_ | refine brDT (by omega) ?_ | refine brDF (by omega) ?_ | refine brET (by omega) ?_ | refine brEF (by omega) ?_ | refine brNET (by omega) ?_ | refine brNEF (by omega) ?_ | refine brNot ?_)); conv => whnf)
      refine Sat.cut (fun x t h => x = .exit 0 ∧ t = (uu::uu::uu::uu::uu::uu::.ptr 0 0::.int .u64 (accZ d p (-4) 5)::uu::uu::uu::uu::uu::uu::uu::uu::uu::uu::uu::uu::uu::uu::uu::uu::uu::uu::uu::uu::uu::uu::uu::uu::uu::uu::uu::uu::uu::uu::uu::uu::uu::uu::uu::uu::uu::uu::uu::uu::uu::uu::uu::uu::uu::uu::uu::uu::uu::uu::uu::uu::uu::uu::uu::uu::uu::uu::uu::uu::uu::uu::uu::uu::uu::uu::uu::uu::uu::uu::uu::uu::uu::uu::uu::uu::uu::uu::uu::uu::uu::uu::uu::uu::uu::uu::uu::uu::uu::uu::uu::uu::uu::uu::uu::uu::uu::uu::uu::uu::uu::uu::uu::uu::uu::uu::[]) ∧ h = [.var [.bool bl, .vec (ci .u8 d) d.length none, .int .i64 p] 41]) ?_ ?_
      · refine Sat.invP seat_ok seat_g (maskOf 114 [6, 7, 8]) 1 (fun μ t h => ∃ (j : Nat) (i : Int), j ≤ 5 ∧ i = -4 + j ∧ μ = 5 - j ∧ t = (uu::uu::uu::uu::uu::uu::.ptr 0 0::.int .u64 (accZ d p (-4) j)::.int .i64 i::uu::uu::uu::uu::uu::uu::uu::uu::uu::uu::uu::uu::uu::uu::uu::uu::uu::uu::uu::uu::uu::uu::uu::uu::uu::uu::uu::uu::uu::uu::uu::uu::uu::uu::uu::uu::uu::uu::uu::uu::uu::uu::uu::uu::uu::uu::uu::uu::uu::uu::uu::uu::uu::uu::uu::uu::uu::uu::uu::uu::uu::uu::uu::uu::uu::uu::uu::uu::uu::uu::uu::uu::uu::uu::uu::uu::uu::uu::uu::uu::uu::uu::uu::uu::uu::uu::uu::uu::uu::uu::uu::uu::uu::uu::uu::uu::uu::uu::uu::uu::uu::uu::uu::uu::uu::[]) ∧ h = [.var [.bool bl, .vec (ci .u8 d) d.length none, .int .i64 p] 41]) ?_ ⟨_, _, WeakL.of_eq rfl, 0, -4, by omega, by omega, rfl, rfl, rfl⟩ ?_
        · rintro _ _ _ ⟨j, i, -, -, -, rfl, rfl⟩
          exact ⟨rfl, (by simp [IdsL, Ids, IdsH, IdsC, lv_ids, ci_ids]), (by simp [IdsL, Ids, IdsH, IdsC, lv_ids, ci_ids])⟩
        rintro _ _ _ ⟨j, i, hj, hi, rfl, rfl, rfl⟩
        have cd := c_digit bl d p i hdig (by omega) (by omega)
        have hst : accZ d p (-4) (j + 1) = 10 * accZ d p (-4) j + digZ d p i := by rw [hi]; rfl
        have hb1 := accZ17 hdig p (-4) (n := j) (by omega)
        have hb2 := digZ_bd hdig p i
        generalize digZ d p i = z at *
        by_cases gj : j < 5
        · generalize accZ d p (-4) j = acc at *
          conv => whnf
          repeat' (first | exact ⟨_, _, Nat.sub_lt_sub_left gj (Nat.lt_succ_self j), WeakL.of_eq rfl, j + 1, i + 1, by omega, by omega, rfl, by rw [hst]; rfl, rfl⟩ | (refine CallH.lift seat_g cd ⟨nmV_closed bl d p, by simp [Closed], trivial⟩ (by simp [Closed]) ?_; conv => whnf) | ((first | refine zq1 (by omega) ?_ | refine zq2 (by omega) ?_ | refine NumH.rem (by omega) ?_ | refine zq4 (by omega) ?_ | refine zq5 (by omega) ?_ | refine zq6 ?_ | refine Req.mk (by omega) ?_ | refine Req.mk (by dsimp only; omega) ?_ | refine Req.mk (show pendP _ _ by repeat' constructor) ?_ | (with_reducible first | refine brT (by assumption) ?_ | refine brF (by assumption) ?_ | refine brDT (by omega) ?_ | refine brDF (by omega) ?_ | refine brET (by omega) ?_ | refine brEF (by omega) ?_ | refine brNET (by omega) ?_ | refine brNEF (by omega) ?_ | refine brNot ?_)); conv => whnf))
        · obtain rfl : j = 5 := by omega
          conv => whnf
          repeat' ((first | refine zq1 (by omega) ?_ | refine zq2 (by omega) ?_ | refine NumH.rem (by omega) ?_ | refine zq4 (by omega) ?_ | refine zq5 (by omega) ?_ | refine zq6 ?_ | refine Req.mk (by omega) ?_ | refine Req.mk (by dsimp only; omega) ?_ | refine Req.mk (show pendP _ _ by repeat' constructor) ?_ | (with_reducible first | refine brT (by assumption) ?_ | refine brF (by assumption) ?_ | refine brDT (by omega) ?_ | refine brDF (by omega) ?_ | refine brET (by omega) ?_ | refine brEF (by omega) ?_ | refine brNET (by omega) ?_ | refine brNEF (by omega) ?_ | refine brNot ?_)); conv => whnf)
          exact ⟨_, keepT_weak (maskOf 114 [6, 7]) _, rfl, rfl, rfl⟩
      rintro _ _ _ ⟨rfl, rfl, rfl⟩
      have hup := accZ_bd hdig p (-4) 5
      obtain ⟨up, eup⟩ : ∃ up, up = accZ d p (-4) 5 := ⟨_, rfl⟩
      rw [← eup] at hup ⊢
      rw [show ((10 : Int) ^ 5) = 100000 by decide] at hup
      conv => whnf
      refine Sat.cut (fun x t h => x = .exit 2 ∧ t = (uu::uu::uu::uu::uu::uu::.ptr 0 0::.int .u64 up::uu::.int .u64 (accZ d p 1 17)::uu::uu::uu::uu::uu::uu::uu::uu::uu::uu::uu::uu::uu::uu::uu::uu::uu::uu::uu::uu::uu::uu::uu::uu::uu::uu::uu::uu::uu::uu::uu::uu::uu::uu::uu::uu::uu::uu::uu::uu::uu::uu::uu::uu::uu::uu::uu::uu::uu::uu::uu::uu::uu::uu::uu::uu::uu::uu::uu::uu::uu::uu::uu::uu::uu::uu::uu::uu::uu::uu::uu::uu::uu::uu::uu::uu::uu::uu::uu::uu::uu::uu::uu::uu::uu::uu::uu::uu::uu::uu::uu::uu::uu::uu::uu::uu::uu::uu::uu::uu::uu::uu::uu::uu::[]) ∧ h = [.var [.bool bl, .vec (ci .u8 d) d.length none, .int .i64 p] 41]) ?_ ?_
      · refine Sat.invP seat_ok seat_g (maskOf 114 [6, 7, 9, 10]) 1 (fun μ t h => ∃ (j : Nat) (i : Int), j ≤ 17 ∧ i = 1 + j ∧ μ = 17 - j ∧ t = (uu::uu::uu::uu::uu::uu::.ptr 0 0::.int .u64 up::uu::.int .u64 (accZ d p 1 j)::.int .i64 i::uu::uu::uu::uu::uu::uu::uu::uu::uu::uu::uu::uu::uu::uu::uu::uu::uu::uu::uu::uu::uu::uu::uu::uu::uu::uu::uu::uu::uu::uu::uu::uu::uu::uu::uu::uu::uu::uu::uu::uu::uu::uu::uu::uu::uu::uu::uu::uu::uu::uu::uu::uu::uu::uu::uu::uu::uu::uu::uu::uu::uu::uu::uu::uu::uu::uu::uu::uu::uu::uu::uu::uu::uu::uu::uu::uu::uu::uu::uu::uu::uu::uu::uu::uu::uu::uu::uu::uu::uu::uu::uu::uu::uu::uu::uu::uu::uu::uu::uu::uu::uu::uu::uu::[]) ∧ h = [.var [.bool bl, .vec (ci .u8 d) d.length none, .int .i64 p] 41]) ?_ ⟨_, _, WeakL.of_eq rfl, 0, 1, by omega, by omega, rfl, rfl, rfl⟩ ?_
        · rintro _ _ _ ⟨j, i, -, -, -, rfl, rfl⟩
          exact ⟨rfl, (by simp [IdsL, Ids, IdsH, IdsC, lv_ids, ci_ids]), (by simp [IdsL, Ids, IdsH, IdsC, lv_ids, ci_ids])⟩
        rintro _ _ _ ⟨j, i, hj, hi, rfl, rfl, rfl⟩
        have cd := c_digit bl d p i hdig (by omega) (by omega)
        have hst : accZ d p 1 (j + 1) = 10 * accZ d p 1 j + digZ d p i := by rw [hi]; rfl
        have hb1 := accZ17 hdig p 1 (n := j) (by omega)
        have hb2 := digZ_bd hdig p i
        generalize digZ d p i = z at *
        by_cases gj : j < 17
        · generalize accZ d p 1 j = acc at *
          conv => whnf
          repeat' (first | exact ⟨_, _, Nat.sub_lt_sub_left gj (Nat.lt_succ_self j), WeakL.of_eq rfl, j + 1, i + 1, by omega, by omega, rfl, by rw [hst]; rfl, rfl⟩ | (refine CallH.lift seat_g cd ⟨nmV_closed bl d p, by simp [Closed], trivial⟩ (by simp [Closed]) ?_; conv => whnf) | ((first | refine zq1 (by omega) ?_ | refine zq2 (by omega) ?_ | refine NumH.rem (by omega) ?_ | refine zq4 (by omega) ?_ | refine zq5 (by omega) ?_ | refine zq6 ?_ | refine Req.mk (by omega) ?_ | refine Req.mk (by dsimp only; omega) ?_ | refine Req.mk (show pendP _ _ by repeat' constructor) ?_ | (with_reducible first | refine brT (by assumption) ?_ | refine brF (by assumption) ?_ | refine brDT (by omega) ?_ | refine brDF (by omega) ?_ | refine brET (by omega) ?_ | refine brEF (by omega) ?_ | refine brNET (by omega) ?_ | refine brNEF (by omega) ?_ | refine brNot ?_)); conv => whnf))
        · obtain rfl : j = 17 := by omega
          conv => whnf
          repeat' ((first | refine zq1 (by omega) ?_ | refine zq2 (by omega) ?_ | refine NumH.rem (by omega) ?_ | refine zq4 (by omega) ?_ | refine zq5 (by omega) ?_ | refine zq6 ?_ | refine Req.mk (by omega) ?_ | refine Req.mk (by dsimp only; omega) ?_ | refine Req.mk (show pendP _ _ by repeat' constructor) ?_ | (with_reducible first | refine brT (by assumption) ?_ | refine brF (by assumption) ?_ | refine brDT (by omega) ?_ | refine brDF (by omega) ?_ | refine brET (by omega) ?_ | refine brEF (by omega) ?_ | refine brNET (by omega) ?_ | refine brNEF (by omega) ?_ | refine brNot ?_)); conv => whnf)
          exact ⟨_, keepT_weak (maskOf 114 [6, 7, 9]) _, rfl, rfl, rfl⟩
      rintro _ _ _ ⟨rfl, rfl, rfl⟩
      have hbh := accZ17 hdig p 1 (n := 17) (by omega)
      have hvz : vZ bl d p = up * 65536 + accZ d p 1 17 * 65536 / 100000000000000000 + rndZ bl (moreB d p) (accZ d p 1 17) := by rw [eup]; rfl
      generalize accZ d p 1 17 = b at *
      have cm := c_mul64 b 65536 ⟨by omega, by omega⟩ ⟨by omega, by omega⟩
      have cd := c_div17 (b * 65536 / 18446744073709551616) (b * 65536 % 18446744073709551616) (by omega) ⟨by omega, by omega⟩
      rw [show b * 65536 / 18446744073709551616 * 18446744073709551616 + b * 65536 % 18446744073709551616 = b * 65536 by omega] at cd
      have hq : 0 ≤ b * 65536 / 100000000000000000 ∧ b * 65536 / 100000000000000000 < 65536 := by omega
      unfold rndZ at hvz
      generalize b * 65536 / 100000000000000000 = q at *
      generalize b * 65536 % 100000000000000000 = r at *
      clear c cr
      by_cases m1 : 0 < d.length
      · exact absurd m1 g2
      · have m1' : ¬ ((0 : Int) < d.length) := by omega
        have hmm : moreB d p = false := by simp [moreB]; omega
        cases bl with
        | false =>
          by_cases r1 : r > 50000000000000000
          · have hv : vZ false d p = up * 65536 + q + 1 := by rw [hvz, if_pos (by simp [hmm]; omega)]
            by_cases gv : up * 65536 + q + 1 ≥ 4294967296
            · have hdec : decR false d p = .tup [.int .i64 0, .int .i64 2] := by rw [decR, if_neg g0, hv, if_pos gv]
              rw [hdec]
              clear hdec hv hvz eup
              conv => whnf
              repeat' (first | exact rfl | (refine CallH.lift seat_g cm (by simp [Closed, ClosedL]) (by simp [Closed, ClosedL]) ?_; conv => whnf) | (refine CallH.lift seat_g cd (by simp [Closed, ClosedL]) (by simp [Closed, ClosedL]) ?_; conv => whnf) | (refine Req.mk (by decide) ?_; refine WrapH.is (up * 65536) (wrap_u64 (n := up * 65536) (by omega) (by omega)) ?_; conv => whnf) | ((first | refine zq1 (by omega) ?_ | refine zq2 (by omega) ?_ | refine NumH.rem (by omega) ?_ | refine zq4 (by omega) ?_ | refine zq5 (by omega) ?_ | refine zq6 ?_ | refine Req.mk (by omega) ?_ | refine Req.mk (by dsimp only; omega) ?_ | refine Req.mk (show pendP _ _ by repeat' constructor) ?_ | (with_reducible first | refine brT (by assumption) ?_ | refine brF (by assumption) ?_ | refine brDT (by omega) ?_ | refine brDF (by omega) ?_ | refine brET (by omega) ?_ | refine brEF (by omega) ?_ | refine brNET (by omega) ?_ | refine brNEF (by omega) ?_ | refine brNot ?_)); conv => whnf))
            · have hdec : decR false d p = .tup [.int .i64 (up * 65536 + q + 1), .int .i64 0] := by rw [decR, if_neg g0, hv, if_neg gv, if_neg (by decide)]
              rw [hdec]
              clear hdec hv hvz eup
              conv => whnf
              repeat' (first | exact rfl | (refine CallH.lift seat_g cm (by simp [Closed, ClosedL]) (by simp [Closed, ClosedL]) ?_; conv => whnf) | (refine CallH.lift seat_g cd (by simp [Closed, ClosedL]) (by simp [Closed, ClosedL]) ?_; conv => whnf) | (refine Req.mk (by decide) ?_; refine WrapH.is (up * 65536) (wrap_u64 (n := up * 65536) (by omega) (by omega)) ?_; conv => whnf) | ((first | refine zq1 (by omega) ?_ | refine zq2 (by omega) ?_ | refine NumH.rem (by omega) ?_ | refine zq4 (by omega) ?_ | refine zq5 (by omega) ?_ | refine zq6 ?_ | refine Req.mk (by omega) ?_ | refine Req.mk (by dsimp only; omega) ?_ | refine Req.mk (show pendP _ _ by repeat' constructor) ?_ | (with_reducible first | refine brT (by assumption) ?_ | refine brF (by assumption) ?_ | refine brDT (by omega) ?_ | refine brDF (by omega) ?_ | refine brET (by omega) ?_ | refine brEF (by omega) ?_ | refine brNET (by omega) ?_ | refine brNEF (by omega) ?_ | refine brNot ?_)); conv => whnf))
          by_cases r2 : r = 50000000000000000
          · have hv : vZ false d p = up * 65536 + q + 1 := by rw [hvz, if_pos (by simp [hmm]; omega)]
            by_cases gv : up * 65536 + q + 1 ≥ 4294967296
            · have hdec : decR false d p = .tup [.int .i64 0, .int .i64 2] := by rw [decR, if_neg g0, hv, if_pos gv]
              rw [hdec]
              clear hdec hv hvz eup
              conv => whnf
              repeat' (first | exact rfl | (refine CallH.lift seat_g cm (by simp [Closed, ClosedL]) (by simp [Closed, ClosedL]) ?_; conv => whnf) | (refine CallH.lift seat_g cd (by simp [Closed, ClosedL]) (by simp [Closed, ClosedL]) ?_; conv => whnf) | (refine Req.mk (by decide) ?_; refine WrapH.is (up * 65536) (wrap_u64 (n := up * 65536) (by omega) (by omega)) ?_; conv => whnf) | ((first | refine zq1 (by omega) ?_ | refine zq2 (by omega) ?_ | refine NumH.rem (by omega) ?_ | refine zq4 (by omega) ?_ | refine zq5 (by omega) ?_ | refine zq6 ?_ | refine Req.mk (by omega) ?_ | refine Req.mk (by dsimp only; omega) ?_ | refine Req.mk (show pendP _ _ by repeat' constructor) ?_ | (with_reducible first | refine brT (by assumption) ?_ | refine brF (by assumption) ?_ | refine brDT (by omega) ?_ | refine brDF (by omega) ?_ | refine brET (by omega) ?_ | refine brEF (by omega) ?_ | refine brNET (by omega) ?_ | refine brNEF (by omega) ?_ | refine brNot ?_)); conv => whnf))
            · have hdec : decR false d p = .tup [.int .i64 (up * 65536 + q + 1), .int .i64 0] := by rw [decR, if_neg g0, hv, if_neg gv, if_neg (by decide)]
              rw [hdec]
              clear hdec hv hvz eup
              conv => whnf
              repeat' (first | exact rfl | (refine CallH.lift seat_g cm (by simp [Closed, ClosedL]) (by simp [Closed, ClosedL]) ?_; conv => whnf) | (refine CallH.lift seat_g cd (by simp [Closed, ClosedL]) (by simp [Closed, ClosedL]) ?_; conv => whnf) | (refine Req.mk (by decide) ?_; refine WrapH.is (up * 65536) (wrap_u64 (n := up * 65536) (by omega) (by omega)) ?_; conv => whnf) | ((first | refine zq1 (by omega) ?_ | refine zq2 (by omega) ?_ | refine NumH.rem (by omega) ?_ | refine zq4 (by omega) ?_ | refine zq5 (by omega) ?_ | refine zq6 ?_ | refine Req.mk (by omega) ?_ | refine Req.mk (by dsimp only; omega) ?_ | refine Req.mk (show pendP _ _ by repeat' constructor) ?_ | (with_reducible first | refine brT (by assumption) ?_ | refine brF (by assumption) ?_ | refine brDT (by omega) ?_ | refine brDF (by omega) ?_ | refine brET (by omega) ?_ | refine brEF (by omega) ?_ | refine brNET (by omega) ?_ | refine brNEF (by omega) ?_ | refine brNot ?_)); conv => whnf))
          have hv : vZ false d p = up * 65536 + q := by rw [hvz, if_neg (by simp [hmm]; omega), Int.add_zero]
          by_cases gv : up * 65536 + q ≥ 4294967296
          · have hdec : decR false d p = .tup [.int .i64 0, .int .i64 2] := by rw [decR, if_neg g0, hv, if_pos gv]
            rw [hdec]
            clear hdec hv hvz eup
            conv => whnf
            repeat' (first | exact rfl | (refine CallH.lift seat_g cm (by simp [Closed, ClosedL]) (by simp [Closed, ClosedL]) ?_; conv => whnf) | (refine CallH.lift seat_g cd (by simp [Closed, ClosedL]) (by simp [Closed, ClosedL]) ?_; conv => whnf) | (refine Req.mk (by decide) ?_; refine WrapH.is (up * 65536) (wrap_u64 (n := up * 65536) (by omega) (by omega)) ?_; conv => whnf) | ((first | refine zq1 (by omega) ?_ | refine zq2 (by omega) ?_ | refine NumH.rem (by omega) ?_ | refine zq4 (by omega) ?_ | refine zq5 (by omega) ?_ | refine zq6 ?_ | refine Req.mk (by omega) ?_ | refine Req.mk (by dsimp only; omega) ?_ | refine Req.mk (show pendP _ _ by repeat' constructor) ?_ | (with_reducible first | refine brT (by assumption) ?_ | refine brF (by assumption) ?_ | refine brDT (by omega) ?_ | refine brDF (by omega) ?_ | refine brET (by omega) ?_ | refine brEF (by omega) ?_ | refine brNET (by omega) ?_ | refine brNEF (by omega) ?_ | refine brNot ?_)); conv => whnf))
          · have hdec : decR false d p = .tup [.int .i64 (up * 65536 + q), .int .i64 0] := by rw [decR, if_neg g0, hv, if_neg gv, if_neg (by decide)]
            rw [hdec]
            clear hdec hv hvz eup
            conv => whnf
            repeat' (first | exact rfl | (refine CallH.lift seat_g cm (by simp [Closed, ClosedL]) (by simp [Closed, ClosedL]) ?_; conv => whnf) | (refine CallH.lift seat_g cd (by simp [Closed, ClosedL]) (by simp [Closed, ClosedL]) ?_; conv => whnf) | (refine Req.mk (by decide) ?_; refine WrapH.is (up * 65536) (wrap_u64 (n := up * 65536) (by omega) (by omega)) ?_; conv => whnf) | ((first | refine zq1 (by omega) ?_ | refine zq2 (by omega) ?_ | refine NumH.rem (by omega) ?_ | refine zq4 (by omega) ?_ | refine zq5 (by omega) ?_ | refine zq6 ?_ | refine Req.mk (by omega) ?_ | refine Req.mk (by dsimp only; omega) ?_ | refine Req.mk (show pendP _ _ by repeat' constructor) ?_ | (with_reducible first | refine brT (by assumption) ?_ | refine brF (by assumption) ?_ | refine brDT (by omega) ?_ | refine brDF (by omega) ?_ | refine brET (by omega) ?_ | refine brEF (by omega) ?_ | refine brNET (by omega) ?_ | refine brNEF (by omega) ?_ | refine brNot ?_)); conv => whnf))
        | true =>
          by_cases r1 : r > 50000000000000000
          · have hv : vZ true d p = up * 65536 + q + 1 := by rw [hvz, if_pos (by simp [hmm]; omega)]
            by_cases gv : up * 65536 + q + 1 ≥ 4294967296
            · have hdec : decR true d p = .tup [.int .i64 0, .int .i64 2] := by rw [decR, if_neg g0, hv, if_pos gv]
              rw [hdec]
              clear hdec hv hvz eup
              conv => whnf
              repeat' (first | exact rfl | (refine CallH.lift seat_g cm (by simp [Closed, ClosedL]) (by simp [Closed, ClosedL]) ?_; conv => whnf) | (refine CallH.lift seat_g cd (by simp [Closed, ClosedL]) (by simp [Closed, ClosedL]) ?_; conv => whnf) | (refine Req.mk (by decide) ?_; refine WrapH.is (up * 65536) (wrap_u64 (n := up * 65536) (by omega) (by omega)) ?_; conv => whnf) | ((first | refine zq1 (by omega) ?_ | refine zq2 (by omega) ?_ | refine NumH.rem (by omega) ?_ | refine zq4 (by omega) ?_ | refine zq5 (by omega) ?_ | refine zq6 ?_ | refine Req.mk (by omega) ?_ | refine Req.mk (by dsimp only; omega) ?_ | refine Req.mk (show pendP _ _ by repeat' constructor) ?_ | (with_reducible first | refine brT (by assumption) ?_ | refine brF (by assumption) ?_ | refine brDT (by omega) ?_ | refine brDF (by omega) ?_ | refine brET (by omega) ?_ | refine brEF (by omega) ?_ | refine brNET (by omega) ?_ | refine brNEF (by omega) ?_ | refine brNot ?_)); conv => whnf))
            · have hdec : decR true d p = .tup [.int .i64 (0 - (up * 65536 + q + 1)), .int .i64 0] := by rw [decR, if_neg g0, hv, if_neg gv, if_pos rfl]
              rw [hdec]
              clear hdec hv hvz eup
              conv => whnf
              repeat' (first | exact rfl | (refine CallH.lift seat_g cm (by simp [Closed, ClosedL]) (by simp [Closed, ClosedL]) ?_; conv => whnf) | (refine CallH.lift seat_g cd (by simp [Closed, ClosedL]) (by simp [Closed, ClosedL]) ?_; conv => whnf) | (refine Req.mk (by decide) ?_; refine WrapH.is (up * 65536) (wrap_u64 (n := up * 65536) (by omega) (by omega)) ?_; conv => whnf) | ((first | refine zq1 (by omega) ?_ | refine zq2 (by omega) ?_ | refine NumH.rem (by omega) ?_ | refine zq4 (by omega) ?_ | refine zq5 (by omega) ?_ | refine zq6 ?_ | refine Req.mk (by omega) ?_ | refine Req.mk (by dsimp only; omega) ?_ | refine Req.mk (show pendP _ _ by repeat' constructor) ?_ | (with_reducible first | refine brT (by assumption) ?_ | refine brF (by assumption) ?_ | refine brDT (by omega) ?_ | refine brDF (by omega) ?_ | refine brET (by omega) ?_ | refine brEF (by omega) ?_ | refine brNET (by omega) ?_ | refine brNEF (by omega) ?_ | refine brNot ?_)); conv => whnf))
          by_cases r2 : r = 50000000000000000
          · have hv : vZ true d p = up * 65536 + q := by rw [hvz, if_neg (by simp [hmm]; omega), Int.add_zero]
            by_cases gv : up * 65536 + q ≥ 4294967296
            · have hdec : decR true d p = .tup [.int .i64 0, .int .i64 2] := by rw [decR, if_neg g0, hv, if_pos gv]
              rw [hdec]
              clear hdec hv hvz eup
              conv => whnf
              repeat' (first | exact rfl | (refine CallH.lift seat_g cm (by simp [Closed, ClosedL]) (by simp [Closed, ClosedL]) ?_; conv => whnf) | (refine CallH.lift seat_g cd (by simp [Closed, ClosedL]) (by simp [Closed, ClosedL]) ?_; conv => whnf) | (refine Req.mk (by decide) ?_; refine WrapH.is (up * 65536) (wrap_u64 (n := up * 65536) (by omega) (by omega)) ?_; conv => whnf) | ((first | refine zq1 (by omega) ?_ | refine zq2 (by omega) ?_ | refine NumH.rem (by omega) ?_ | refine zq4 (by omega) ?_ | refine zq5 (by omega) ?_ | refine zq6 ?_ | refine Req.mk (by omega) ?_ | refine Req.mk (by dsimp only; omega) ?_ | refine Req.mk (show pendP _ _ by repeat' constructor) ?_ | (with_reducible first | refine brT (by assumption) ?_ | refine brF (by assumption) ?_ | refine brDT (by omega) ?_ | refine brDF (by omega) ?_ | refine brET (by omega) ?_ | refine brEF (by omega) ?_ | refine brNET (by omega) ?_ | refine brNEF (by omega) ?_ | refine brNot ?_)); conv => whnf))
            · have hdec : decR true d p = .tup [.int .i64 (0 - (up * 65536 + q)), .int .i64 0] := by rw [decR, if_neg g0, hv, if_neg gv, if_pos rfl]
              rw [hdec]
              clear hdec hv hvz eup
              conv => whnf
              repeat' (first | exact rfl | (refine CallH.lift seat_g cm (by simp [Closed, ClosedL]) (by simp [Closed, ClosedL]) ?_; conv => whnf) | (refine CallH.lift seat_g cd (by simp [Closed, ClosedL]) (by simp [Closed, ClosedL]) ?_; conv => whnf) | (refine Req.mk (by decide) ?_; refine WrapH.is (up * 65536) (wrap_u64 (n := up * 65536) (by omega) (by omega)) ?_; conv => whnf) | ((first | refine zq1 (by omega) ?_ | refine zq2 (by omega) ?_ | refine NumH.rem (by omega) ?_ | refine zq4 (by omega) ?_ | refine zq5 (by omega) ?_ | refine zq6 ?_ | refine Req.mk (by omega) ?_ | refine Req.mk (by dsimp only; omega) ?_ | refine Req.mk (show pendP _ _ by repeat' constructor) ?_ | (with_reducible first | refine brT (by assumption) ?_ | refine brF (by assumption) ?_ | refine brDT (by omega) ?_ | refine brDF (by omega) ?_ | refine brET (by omega) ?_ | refine brEF (by omega) ?_ | refine brNET (by omega) ?_ | refine brNEF (by omega) ?_ | refine brNot ?_)); conv => whnf))
          have hv : vZ true d p = up * 65536 + q := by rw [hvz, if_neg (by simp [hmm]; omega), Int.add_zero]
          by_cases gv : up * 65536 + q ≥ 4294967296
          · have hdec : decR true d p = .tup [.int .i64 0, .int .i64 2] := by rw [decR, if_neg g0, hv, if_pos gv]
            rw [hdec]
            clear hdec hv hvz eup
            conv => whnf
            repeat' (first | exact rfl | (refine CallH.lift seat_g cm (by simp [Closed, ClosedL]) (by simp [Closed, ClosedL]) ?_; conv => whnf) | (refine CallH.lift seat_g cd (by simp [Closed, ClosedL]) (by simp [Closed, ClosedL]) ?_; conv => whnf) | (refine Req.mk (by decide) ?_; refine WrapH.is (up * 65536) (wrap_u64 (n := up * 65536) (by omega) (by omega)) ?_; conv => whnf) | ((first | refine zq1 (by omega) ?_ | refine zq2 (by omega) ?_ | refine NumH.rem (by omega) ?_ | refine zq4 (by omega) ?_ | refine zq5 (by omega) ?_ | refine zq6 ?_ | refine Req.mk (by omega) ?_ | refine Req.mk (by dsimp only; omega) ?_ | refine Req.mk (show pendP _ _ by repeat' constructor) ?_ | (with_reducible first | refine brT (by assumption) ?_ | refine brF (by assumption) ?_ | refine brDT (by omega) ?_ | refine brDF (by omega) ?_ | refine brET (by omega) ?_ | refine brEF (by omega) ?_ | refine brNET (by omega) ?_ | refine brNEF (by omega) ?_ | refine brNot ?_)); conv => whnf))
          · have hdec : decR true d p = .tup [.int .i64 (0 - (up * 65536 + q)), .int .i64 0] := by rw [decR, if_neg g0, hv, if_neg gv, if_pos rfl]
            rw [hdec]
            clear hdec hv hvz eup
            conv => whnf
            repeat' (first | exact rfl | (refine CallH.lift seat_g cm (by simp [Closed, ClosedL]) (by simp [Closed, ClosedL]) ?_; conv => whnf) | (refine CallH.lift seat_g cd (by simp [Closed, ClosedL]) (by simp [Closed, ClosedL]) ?_; conv => whnf) | (refine Req.mk (by decide) ?_; refine WrapH.is (up * 65536) (wrap_u64 (n := up * 65536) (by omega) (by omega)) ?_; conv => whnf) | ((first | refine zq1 (by omega) ?_ | refine zq2 (by omega) ?_ | refine NumH.rem (by omega) ?_ | refine zq4 (by omega) ?_ | refine zq5 (by omega) ?_ | refine zq6 ?_ | refine Req.mk (by omega) ?_ | refine Req.mk (by dsimp only; omega) ?_ | refine Req.mk (show pendP _ _ by repeat' constructor) ?_ | (with_reducible first | refine brT (by assumption) ?_ | refine brF (by assumption) ?_ | refine brDT (by omega) ?_ | refine brDF (by omega) ?_ | refine brET (by omega) ?_ | refine brEF (by omega) ?_ | refine brNET (by omega) ?_ | refine brNEF (by omega) ?_ | refine brNot ?_)); conv => whnf))
  · have g0 : ¬ (p > 5 ∧ 0 < d.length) := fun h => g1 h.1
    conv => whnf
    refine CallH.lift seat_g c (by simp [Closed, ClosedL]) (by simp [Closed, ClosedL]) ?_
    conv => whnf
    repeat' ((first | refine zq1 (by omega) ?_ | refine zq2 (by omega) ?_ | refine NumH.rem (by omega) ?_ | refine zq4 (by omega) ?_ | refine zq5 (by omega) ?_ | refine zq6 ?_ | refine Req.mk (by omega) ?_ | refine Req.mk (by dsimp only; omega) ?_ | refine Req.mk (show pendP _ _ by repeat' constructor) ?_ | (with_reducible first | refine brT (by assumption) ?_ | refine brF (by assumption) ?_ | refine brDT (by omega) ?_ | refine brDF (by omega) ?_ | refine brET (by omega) ?_ | refine brEF (by omega) ?_ | refine brNET (by omega) ?_ | refine brNEF (by omega) ?_ | refine brNot ?_)); conv => whnf)
    refine CallH.lift seat_g cr (by simp [Closed, ClosedL]) (nmV_closed bl d p) ?_
    conv => whnf
    repeat' ((first | refine zq1 (by omega) ?_ | refine zq2 (by omega) ?_ | refine NumH.rem (by omega) ?_ | refine zq4 (by omega) ?_ | refine zq5 (by omega) ?_ | refine zq6 ?_ | refine Req.mk (by omega) ?_ | refine Req.mk (by dsimp only; omega) ?_ | refine Req.mk (show pendP _ _ by repeat' constructor) ?_ | (with_reducible first | refine brT (by assumption) ?_ | refine brF (by assumption) ?_ | refine brDT (by omega) ?_ | refine brDF (by omega) ?_ | refine brET (by omega) ?_ | refine brEF (by omega) ?_ | refine brNET (by omega) ?_ | refine brNEF (by omega) ?_ | refine brNot ?_)); conv => whnf)
    refine Sat.cut (fun x t h => x = .exit 0 ∧ t = (uu::uu::uu::uu::uu::uu::.ptr 0 0::.int .u64 (accZ d p (-4) 5)::uu::uu::uu::uu::uu::uu::uu::uu::uu::uu::uu::uu::uu::uu::uu::uu::uu::uu::uu::uu::uu::uu::uu::uu::uu::uu::uu::uu::uu::uu::uu::uu::uu::uu::uu::uu::uu::uu::uu::uu::uu::uu::uu::uu::uu::uu::uu::uu::uu::uu::uu::uu::uu::uu::uu::uu::uu::uu::uu::uu::uu::uu::uu::uu::uu::uu::uu::uu::uu::uu::uu::uu::uu::uu::uu::uu::uu::uu::uu::uu::uu::uu::uu::uu::uu::uu::uu::uu::uu::uu::uu::uu::uu::uu::uu::uu::uu::uu::uu::uu::uu::uu::uu::uu::uu::uu::[]) ∧ h = [.var [.bool bl, .vec (ci .u8 d) d.length none, .int .i64 p] 41]) ?_ ?_
    · refine Sat.invP seat_ok seat_g (maskOf 114 [6, 7, 8]) 1 (fun μ t h => ∃ (j : Nat) (i : Int), j ≤ 5 ∧ i = -4 + j ∧ μ = 5 - j ∧ t = (uu::uu::uu::uu::uu::uu::.ptr 0 0::.int .u64 (accZ d p (-4) j)::.int .i64 i::uu::uu::uu::uu::uu::uu::uu::uu::uu::uu::uu::uu::uu::uu::uu::uu::uu::uu::uu::uu::uu::uu::uu::uu::uu::uu::uu::uu::uu::uu::uu::uu::uu::uu::uu::uu::uu::uu::uu::uu::uu::uu::uu::uu::uu::uu::uu::uu::uu::uu::uu::uu::uu::uu::uu::uu::uu::uu::uu::uu::uu::uu::uu::uu::uu::uu::uu::uu::uu::uu::uu::uu::uu::uu::uu::uu::uu::uu::uu::uu::uu::uu::uu::uu::uu::uu::uu::uu::uu::uu::uu::uu::uu::uu::uu::uu::uu::uu::uu::uu::uu::uu::uu::uu::uu::[]) ∧ h = [.var [.bool bl, .vec (ci .u8 d) d.length none, .int .i64 p] 41]) ?_ ⟨_, _, WeakL.of_eq rfl, 0, -4, by omega, by omega, rfl, rfl, rfl⟩ ?_
      · rintro _ _ _ ⟨j, i, -, -, -, rfl, rfl⟩
        exact ⟨rfl, (by simp [IdsL, Ids, IdsH, IdsC, lv_ids, ci_ids]), (by simp [IdsL, Ids, IdsH, IdsC, lv_ids, ci_ids])⟩
      rintro _ _ _ ⟨j, i, hj, hi, rfl, rfl, rfl⟩
      have cd := c_digit bl d p i hdig (by omega) (by omega)
      have hst : accZ d p (-4) (j + 1) = 10 * accZ d p (-4) j + digZ d p i := by rw [hi]; rfl
      have hb1 := accZ17 hdig p (-4) (n := j) (by omega)
      have hb2 := digZ_bd hdig p i
      generalize digZ d p i = z at *
      by_cases gj : j < 5
      · generalize accZ d p (-4) j = acc at *
        conv => whnf
        repeat' (first | exact ⟨_, _, Nat.sub_lt_sub_left gj (Nat.lt_succ_self j), WeakL.of_eq rfl, j + 1, i + 1, by omega, by omega, rfl, by rw [hst]; rfl, rfl⟩ | (refine CallH.lift seat_g cd ⟨nmV_closed bl d p, by simp [Closed], trivial⟩ (by simp [Closed]) ?_; conv => whnf) | ((first | refine zq1 (by omega) ?_ | refine zq2 (by omega) ?_ | refine NumH.rem (by omega) ?_ | refine zq4 (by omega) ?_ | refine zq5 (by omega) ?_ | refine zq6 ?_ | refine Req.mk (by omega) ?_ | refine Req.mk (by dsimp only; omega) ?_ | refine Req.mk (show pendP _ _ by repeat' constructor) ?_ | (with_reducible first | refine brT (by assumption) ?_ | refine brF (by assumption) ?_ | refine brDT (by omega) ?_ | refine brDF (by omega) ?_ | refine brET (by omega) ?_ | refine brEF (by omega) ?_ | refine brNET (by omega) ?_ | refine brNEF (by omega) ?_ | refine brNot ?_)); conv => whnf))
      · obtain rfl : j = 5 := by omega
        conv => whnf
        repeat' ((first | refine zq1 (by omega) ?_ | refine zq2 (by omega) ?_ | refine NumH.rem (by omega) ?_ | refine zq4 (by omega) ?_ | refine zq5 (by omega) ?_ | refine zq6 ?_ | refine Req.mk (by omega) ?_ | refine Req.mk (by dsimp only; omega) ?_ | refine Req.mk (show pendP _ _ by repeat' constructor) ?_ | (with_reducible first | refine brT (by assumption) ?_ | refine brF (by assumption) ?_ | refine brDT (by omega) ?_ | refine brDF (by omega) ?_ | refine brET (by omega) ?_ | refine brEF (by omega) ?_ | refine brNET (by omega) ?_ | refine brNEF (by omega) ?_ | refine brNot ?_)); conv => whnf)
        exact ⟨_, keepT_weak (maskOf 114 [6, 7]) _, rfl, rfl, rfl⟩
    rintro _ _ _ ⟨rfl, rfl, rfl⟩
    have hup := accZ_bd hdig p (-4) 5
    obtain ⟨up, eup⟩ : ∃ up, up = accZ d p (-4) 5 := ⟨_, rfl⟩
    rw [← eup] at hup ⊢
    rw [show ((10 : Int) ^ 5) = 100000 by decide] at hup
    conv => whnf
    refine Sat.cut (fun x t h => x = .exit 2 ∧ t = (uu::uu::uu::uu::uu::uu::.ptr 0 0::.int .u64 up::uu::.int .u64 (accZ d p 1 17)::uu::uu::uu::uu::uu::uu::uu::uu::uu::uu::uu::uu::uu::uu::uu::uu::uu::uu::uu::uu::uu::uu::uu::uu::uu::uu::uu::uu::uu::uu::uu::uu::uu::uu::uu::uu::uu::uu::uu::uu::uu::uu::uu::uu::uu::uu::uu::uu::uu::uu::uu::uu::uu::uu::uu::uu::uu::uu::uu::uu::uu::uu::uu::uu::uu::uu::uu::uu::uu::uu::uu::uu::uu::uu::uu::uu::uu::uu::uu::uu::uu::uu::uu::uu::uu::uu::uu::uu::uu::uu::uu::uu::uu::uu::uu::uu::uu::uu::uu::uu::uu::uu::uu::uu::[]) ∧ h = [.var [.bool bl, .vec (ci .u8 d) d.length none, .int .i64 p] 41]) ?_ ?_
    · refine Sat.invP seat_ok seat_g (maskOf 114 [6, 7, 9, 10]) 1 (fun μ t h => ∃ (j : Nat) (i : Int), j ≤ 17 ∧ i = 1 + j ∧ μ = 17 - j ∧ t = (uu::uu::uu::uu::uu::uu::.ptr 0 0::.int .u64 up::uu::.int .u64 (accZ d p 1 j)::.int .i64 i::uu::uu::uu::uu::uu::uu::uu::uu::uu::uu::uu::uu::uu::uu::uu::uu::uu::uu::uu::uu::uu::uu::uu::uu::uu::uu::uu::uu::uu::uu::uu::uu::uu::uu::uu::uu::uu::uu::uu::uu::uu::uu::uu::uu::uu::uu::uu::uu::uu::uu::uu::uu::uu::uu::uu::uu::uu::uu::uu::uu::uu::uu::uu::uu::uu::uu::uu::uu::uu::uu::uu::uu::uu::uu::uu::uu::uu::uu::uu::uu::uu::uu::uu::uu::uu::uu::uu::uu::uu::uu::uu::uu::uu::uu::uu::uu::uu::uu::uu::uu::uu::uu::uu::[]) ∧ h = [.var [.bool bl, .vec (ci .u8 d) d.length none, .int .i64 p] 41]) ?_ ⟨_, _, WeakL.of_eq rfl, 0, 1, by omega, by omega, rfl, rfl, rfl⟩ ?_
      · rintro _ _ _ ⟨j, i, -, -, -, rfl, rfl⟩
        exact ⟨rfl, (by simp [IdsL, Ids, IdsH, IdsC, lv_ids, ci_ids]), (by simp [IdsL, Ids, IdsH, IdsC, lv_ids, ci_ids])⟩
      rintro _ _ _ ⟨j, i, hj, hi, rfl, rfl, rfl⟩
      have cd := c_digit bl d p i hdig (by omega) (by omega)
      have hst : accZ d p 1 (j + 1) = 10 * accZ d p 1 j + digZ d p i := by rw [hi]; rfl
      have hb1 := accZ17 hdig p 1 (n := j) (by omega)
      have hb2 := digZ_bd hdig p i
      generalize digZ d p i = z at *
      by_cases gj : j < 17
      · generalize accZ d p 1 j = acc at *
        conv => whnf
        repeat' (first | exact ⟨_, _, Nat.sub_lt_sub_left gj (Nat.lt_succ_self j), WeakL.of_eq rfl, j + 1, i + 1, by omega, by omega, rfl, by rw [hst]; rfl, rfl⟩ | (refine CallH.lift seat_g cd ⟨nmV_closed bl d p, by simp [Closed], trivial⟩ (by simp [Closed]) ?_; conv => whnf) | ((first | refine zq1 (by omega) ?_ | refine zq2 (by omega) ?_ | refine NumH.rem (by omega) ?_ | refine zq4 (by omega) ?_ | refine zq5 (by omega) ?_ | refine zq6 ?_ | refine Req.mk (by omega) ?_ | refine Req.mk (by dsimp only; omega) ?_ | refine Req.mk (show pendP _ _ by repeat' constructor) ?_ | (with_reducible first | refine brT (by assumption) ?_ | refine brF (by assumption) ?_ | refine brDT (by omega) ?_ | refine brDF (by omega) ?_ | refine brET (by omega) ?_ | refine brEF (by omega) ?_ | refine brNET (by omega) ?_ | refine brNEF (by omega) ?_ | refine brNot ?_)); conv => whnf))
      · obtain rfl : j = 17 := by omega
        conv => whnf
        repeat' ((first | refine zq1 (by omega) ?_ | refine zq2 (by omega) ?_ | refine NumH.rem (by omega) ?_ | refine zq4 (by omega) ?_ | refine zq5 (by omega) ?_ | refine zq6 ?_ | refine Req.mk (by omega) ?_ | refine Req.mk (by dsimp only; omega) ?_ | refine Req.mk (show pendP _ _ by repeat' constructor) ?_ | (with_reducible first | refine brT (by assumption) ?_ | refine brF (by assumption) ?_ | refine brDT (by omega) ?_ | refine brDF (by omega) ?_ | refine brET (by omega) ?_ | refine brEF (by omega) ?_ | refine brNET (by omega) ?_ | refine brNEF (by omega) ?_ | refine brNot ?_)); conv => whnf)
        exact ⟨_, keepT_weak (maskOf 114 [6, 7, 9]) _, rfl, rfl, rfl⟩
    rintro _ _ _ ⟨rfl, rfl, rfl⟩
    have hbh := accZ17 hdig p 1 (n := 17) (by omega)
    have hvz : vZ bl d p = up * 65536 + accZ d p 1 17 * 65536 / 100000000000000000 + rndZ bl (moreB d p) (accZ d p 1 17) := by rw [eup]; rfl
    generalize accZ d p 1 17 = b at *
    have cm := c_mul64 b 65536 ⟨by omega, by omega⟩ ⟨by omega, by omega⟩
    have cd := c_div17 (b * 65536 / 18446744073709551616) (b * 65536 % 18446744073709551616) (by omega) ⟨by omega, by omega⟩
    rw [show b * 65536 / 18446744073709551616 * 18446744073709551616 + b * 65536 % 18446744073709551616 = b * 65536 by omega] at cd
    have hq : 0 ≤ b * 65536 / 100000000000000000 ∧ b * 65536 / 100000000000000000 < 65536 := by omega
    unfold rndZ at hvz
    generalize b * 65536 / 100000000000000000 = q at *
    generalize b * 65536 % 100000000000000000 = r at *
    clear c cr
    by_cases m1 : 0 < d.length
    · have m1' : (0 : Int) < d.length := by omega
      by_cases m2 : p + 17 < d.length
      · have hmm : moreB d p = true := by simp [moreB, m1, m2]
        cases bl with
        | false =>
          by_cases r1 : r > 50000000000000000
          · have hv : vZ false d p = up * 65536 + q + 1 := by rw [hvz, if_pos (by simp [hmm]; omega)]
            by_cases gv : up * 65536 + q + 1 ≥ 4294967296
            · have hdec : decR false d p = .tup [.int .i64 0, .int .i64 2] := by rw [decR, if_neg g0, hv, if_pos gv]
              rw [hdec]
              clear hdec hv hvz eup
              conv => whnf
              repeat' (first | exact rfl | (refine CallH.lift seat_g cm (by simp [Closed, ClosedL]) (by simp [Closed, ClosedL]) ?_; conv => whnf) | (refine CallH.lift seat_g cd (by simp [Closed, ClosedL]) (by simp [Closed, ClosedL]) ?_; conv => whnf) | (refine Req.mk (by decide) ?_; refine WrapH.is (up * 65536) (wrap_u64 (n := up * 65536) (by omega) (by omega)) ?_; conv => whnf) | ((first | refine zq1 (by omega) ?_ | refine zq2 (by omega) ?_ | refine NumH.rem (by omega) ?_ | refine zq4 (by omega) ?_ | refine zq5 (by omega) ?_ | refine zq6 ?_ | refine Req.mk (by omega) ?_ | refine Req.mk (by dsimp only; omega) ?_ | refine Req.mk (show pendP _ _ by repeat' constructor) ?_ | (with_reducible first | refine brT (by assumption) ?_ | refine brF (by assumption) ?_ | refine brDT (by omega) ?_ | refine brDF (by omega) ?_ | refine brET (by omega) ?_ | refine brEF (by omega) ?_ | refine brNET (by omega) ?_ | refine brNEF (by omega) ?_ | refine brNot ?_)); conv => whnf))
            · have hdec : decR false d p = .tup [.int .i64 (up * 65536 + q + 1), .int .i64 0] := by rw [decR, if_neg g0, hv, if_neg gv, if_neg (by decide)]
              rw [hdec]
              clear hdec hv hvz eup
              conv => whnf
              repeat' (first | exact rfl | (refine CallH.lift seat_g cm (by simp [Closed, ClosedL]) (by simp [Closed, ClosedL]) ?_; conv => whnf) | (refine CallH.lift seat_g cd (by simp [Closed, ClosedL]) (by simp [Closed, ClosedL]) ?_; conv => whnf) | (refine Req.mk (by decide) ?_; refine WrapH.is (up * 65536) (wrap_u64 (n := up * 65536) (by omega) (by omega)) ?_; conv => whnf) | ((first | refine zq1 (by omega) ?_ | refine zq2 (by omega) ?_ | refine NumH.rem (by omega) ?_ | refine zq4 (by omega) ?_ | refine zq5 (by omega) ?_ | refine zq6 ?_ | refine Req.mk (by omega) ?_ | refine Req.mk (by dsimp only; omega) ?_ | refine Req.mk (show pendP _ _ by repeat' constructor) ?_ | (with_reducible first | refine brT (by assumption) ?_ | refine brF (by assumption) ?_ | refine brDT (by omega) ?_ | refine brDF (by omega) ?_ | refine brET (by omega) ?_ | refine brEF (by omega) ?_ | refine brNET (by omega) ?_ | refine brNEF (by omega) ?_ | refine brNot ?_)); conv => whnf))
          by_cases r2 : r = 50000000000000000
          · have hv : vZ false d p = up * 65536 + q + 1 := by rw [hvz, if_pos (by simp [hmm]; omega)]
            by_cases gv : up * 65536 + q + 1 ≥ 4294967296
            · have hdec : decR false d p = .tup [.int .i64 0, .int .i64 2] := by rw [decR, if_neg g0, hv, if_pos gv]
              rw [hdec]
              clear hdec hv hvz eup
              conv => whnf
              repeat' (first | exact rfl | (refine CallH.lift seat_g cm (by simp [Closed, ClosedL]) (by simp [Closed, ClosedL]) ?_; conv => whnf) | (refine CallH.lift seat_g cd (by simp [Closed, ClosedL]) (by simp [Closed, ClosedL]) ?_; conv => whnf) | (refine Req.mk (by decide) ?_; refine WrapH.is (up * 65536) (wrap_u64 (n := up * 65536) (by omega) (by omega)) ?_; conv => whnf) | ((first | refine zq1 (by omega) ?_ | refine zq2 (by omega) ?_ | refine NumH.rem (by omega) ?_ | refine zq4 (by omega) ?_ | refine zq5 (by omega) ?_ | refine zq6 ?_ | refine Req.mk (by omega) ?_ | refine Req.mk (by dsimp only; omega) ?_ | refine Req.mk (show pendP _ _ by repeat' constructor) ?_ | (with_reducible first | refine brT (by assumption) ?_ | refine brF (by assumption) ?_ | refine brDT (by omega) ?_ | refine brDF (by omega) ?_ | refine brET (by omega) ?_ | refine brEF (by omega) ?_ | refine brNET (by omega) ?_ | refine brNEF (by omega) ?_ | refine brNot ?_)); conv => whnf))
            · have hdec : decR false d p = .tup [.int .i64 (up * 65536 + q + 1), .int .i64 0] := by rw [decR, if_neg g0, hv, if_neg gv, if_neg (by decide)]
              rw [hdec]
              clear hdec hv hvz eup
              conv => whnf
              repeat' (first | exact rfl | (refine CallH.lift seat_g cm (by simp [Closed, ClosedL]) (by simp [Closed, ClosedL]) ?_; conv => whnf) | (refine CallH.lift seat_g cd (by simp [Closed, ClosedL]) (by simp [Closed, ClosedL]) ?_; conv => whnf) | (refine Req.mk (by decide) ?_; refine WrapH.is (up * 65536) (wrap_u64 (n := up * 65536) (by omega) (by omega)) ?_; conv => whnf) | ((first | refine zq1 (by omega) ?_ | refine zq2 (by omega) ?_ | refine NumH.rem (by omega) ?_ | refine zq4 (by omega) ?_ | refine zq5 (by omega) ?_ | refine zq6 ?_ | refine Req.mk (by omega) ?_ | refine Req.mk (by dsimp only; omega) ?_ | refine Req.mk (show pendP _ _ by repeat' constructor) ?_ | (with_reducible first | refine brT (by assumption) ?_ | refine brF (by assumption) ?_ | refine brDT (by omega) ?_ | refine brDF (by omega) ?_ | refine brET (by omega) ?_ | refine brEF (by omega) ?_ | refine brNET (by omega) ?_ | refine brNEF (by omega) ?_ | refine brNot ?_)); conv => whnf))
          have hv : vZ false d p = up * 65536 + q := by rw [hvz, if_neg (by simp [hmm]; omega), Int.add_zero]
          by_cases gv : up * 65536 + q ≥ 4294967296
          · have hdec : decR false d p = .tup [.int .i64 0, .int .i64 2] := by rw [decR, if_neg g0, hv, if_pos gv]
            rw [hdec]
            clear hdec hv hvz eup
            conv => whnf
            repeat' (first | exact rfl | (refine CallH.lift seat_g cm (by simp [Closed, ClosedL]) (by simp [Closed, ClosedL]) ?_; conv => whnf) | (refine CallH.lift seat_g cd (by simp [Closed, ClosedL]) (by simp [Closed, ClosedL]) ?_; conv => whnf) | (refine Req.mk (by decide) ?_; refine WrapH.is (up * 65536) (wrap_u64 (n := up * 65536) (by omega) (by omega)) ?_; conv => whnf) | ((first | refine zq1 (by omega) ?_ | refine zq2 (by omega) ?_ | refine NumH.rem (by omega) ?_ | refine zq4 (by omega) ?_ | refine zq5 (by omega) ?_ | refine zq6 ?_ | refine Req.mk (by omega) ?_ | refine Req.mk (by dsimp only; omega) ?_ | refine Req.mk (show pendP _ _ by repeat' constructor) ?_ | (with_reducible first | refine brT (by assumption) ?_ | refine brF (by assumption) ?_ | refine brDT (by omega) ?_ | refine brDF (by omega) ?_ | refine brET (by omega) ?_ | refine brEF (by omega) ?_ | refine brNET (by omega) ?_ | refine brNEF (by omega) ?_ | refine brNot ?_)); conv => whnf))
          · have hdec : decR false d p = .tup [.int .i64 (up * 65536 + q), .int .i64 0] := by rw [decR, if_neg g0, hv, if_neg gv, if_neg (by decide)]
            rw [hdec]
            clear hdec hv hvz eup
            conv => whnf
            repeat' (first | exact rfl | (refine CallH.lift seat_g cm (by simp [Closed, ClosedL]) (by simp [Closed, ClosedL]) ?_; conv => whnf) | (refine CallH.lift seat_g cd (by simp [Closed, ClosedL]) (by simp [Closed, ClosedL]) ?_; conv => whnf) | (refine Req.mk (by decide) ?_; refine WrapH.is (up * 65536) (wrap_u64 (n := up * 65536) (by omega) (by omega)) ?_; conv => whnf) | ((first | refine zq1 (by omega) ?_ | refine zq2 (by omega) ?_ | refine NumH.rem (by omega) ?_ | refine zq4 (by omega) ?_ | refine zq5 (by omega) ?_ | refine zq6 ?_ | refine Req.mk (by omega) ?_ | refine Req.mk (by dsimp only; omega) ?_ | refine Req.mk (show pendP _ _ by repeat' constructor) ?_ | (with_reducible first | refine brT (by assumption) ?_ | refine brF (by assumption) ?_ | refine brDT (by omega) ?_ | refine brDF (by omega) ?_ | refine brET (by omega) ?_ | refine brEF (by omega) ?_ | refine brNET (by omega) ?_ | refine brNEF (by omega) ?_ | refine brNot ?_)); conv => whnf))
        | true =>
          by_cases r1 : r > 50000000000000000
          · have hv : vZ true d p = up * 65536 + q + 1 := by rw [hvz, if_pos (by simp [hmm]; omega)]
            by_cases gv : up * 65536 + q + 1 ≥ 4294967296
            · have hdec : decR true d p = .tup [.int .i64 0, .int .i64 2] := by rw [decR, if_neg g0, hv, if_pos gv]
              rw [hdec]
              clear hdec hv hvz eup
              conv => whnf
              repeat' (first | exact rfl | (refine CallH.lift seat_g cm (by simp [Closed, ClosedL]) (by simp [Closed, ClosedL]) ?_; conv => whnf) | (refine CallH.lift seat_g cd (by simp [Closed, ClosedL]) (by simp [Closed, ClosedL]) ?_; conv => whnf) | (refine Req.mk (by decide) ?_; refine WrapH.is (up * 65536) (wrap_u64 (n := up * 65536) (by omega) (by omega)) ?_; conv => whnf) | ((first | refine zq1 (by omega) ?_ | refine zq2 (by omega) ?_ | refine NumH.rem (by omega) ?_ | refine zq4 (by omega) ?_ | refine zq5 (by omega) ?_ | refine zq6 ?_ | refine Req.mk (by omega) ?_ | refine Req.mk (by dsimp only; omega) ?_ | refine Req.mk (show pendP _ _ by repeat' constructor) ?_ | (with_reducible first | refine brT (by assumption) ?_ | refine brF (by assumption) ?_ | refine brDT (by omega) ?_ | refine brDF (by omega) ?_ | refine brET (by omega) ?_ | refine brEF (by omega) ?_ | refine brNET (by omega) ?_ | refine brNEF (by omega) ?_ | refine brNot ?_)); conv => whnf))
            · have hdec : decR true d p = .tup [.int .i64 (0 - (up * 65536 + q + 1)), .int .i64 0] := by rw [decR, if_neg g0, hv, if_neg gv, if_pos rfl]
              rw [hdec]
              clear hdec hv hvz eup
              conv => whnf
              repeat' (first | exact rfl | (refine CallH.lift seat_g cm (by simp [Closed, ClosedL]) (by simp [Closed, ClosedL]) ?_; conv => whnf) | (refine CallH.lift seat_g cd (by simp [Closed, ClosedL]) (by simp [Closed, ClosedL]) ?_; conv => whnf) | (refine Req.mk (by decide) ?_; refine WrapH.is (up * 65536) (wrap_u64 (n := up * 65536) (by omega) (by omega)) ?_; conv => whnf) | ((first | refine zq1 (by omega) ?_ | refine zq2 (by omega) ?_ | refine NumH.rem (by omega) ?_ | refine zq4 (by omega) ?_ | refine zq5 (by omega) ?_ | refine zq6 ?_ | refine Req.mk (by omega) ?_ | refine Req.mk (by dsimp only; omega) ?_ | refine Req.mk (show pendP _ _ by repeat' constructor) ?_ | (with_reducible first | refine brT (by assumption) ?_ | refine brF (by assumption) ?_ | refine brDT (by omega) ?_ | refine brDF (by omega) ?_ | refine brET (by omega) ?_ | refine brEF (by omega) ?_ | refine brNET (by omega) ?_ | refine brNEF (by omega) ?_ | refine brNot ?_)); conv => whnf))
          by_cases r2 : r = 50000000000000000
          · have hv : vZ true d p = up * 65536 + q + 1 := by rw [hvz, if_pos (by simp [hmm]; omega)]
            by_cases gv : up * 65536 + q + 1 ≥ 4294967296
            · have hdec : decR true d p = .tup [.int .i64 0, .int .i64 2] := by rw [decR, if_neg g0, hv, if_pos gv]
              rw [hdec]
              clear hdec hv hvz eup
              conv => whnf
              repeat' (first | exact rfl | (refine CallH.lift seat_g cm (by simp [Closed, ClosedL]) (by simp [Closed, ClosedL]) ?_; conv => whnf) | (refine CallH.lift seat_g cd (by simp [Closed, ClosedL]) (by simp [Closed, ClosedL]) ?_; conv => whnf) | (refine Req.mk (by decide) ?_; refine WrapH.is (up * 65536) (wrap_u64 (n := up * 65536) (by omega) (by omega)) ?_; conv => whnf) | ((first | refine zq1 (by omega) ?_ | refine zq2 (by omega) ?_ | refine NumH.rem (by omega) ?_ | refine zq4 (by omega) ?_ | refine zq5 (by omega) ?_ | refine zq6 ?_ | refine Req.mk (by omega) ?_ | refine Req.mk (by dsimp only; omega) ?_ | refine Req.mk (show pendP _ _ by repeat' constructor) ?_ | (with_reducible first | refine brT (by assumption) ?_ | refine brF (by assumption) ?_ | refine brDT (by omega) ?_ | refine brDF (by omega) ?_ | refine brET (by omega) ?_ | refine brEF (by omega) ?_ | refine brNET (by omega) ?_ | refine brNEF (by omega) ?_ | refine brNot ?_)); conv => whnf))
            · have hdec : decR true d p = .tup [.int .i64 (0 - (up * 65536 + q + 1)), .int .i64 0] := by rw [decR, if_neg g0, hv, if_neg gv, if_pos rfl]
              rw [hdec]
              clear hdec hv hvz eup
              conv => whnf
              repeat' (first | exact rfl | (refine CallH.lift seat_g cm (by simp [Closed, ClosedL]) (by simp [Closed, ClosedL]) ?_; conv => whnf) | (refine CallH.lift seat_g cd (by simp [Closed, ClosedL]) (by simp [Closed, ClosedL]) ?_; conv => whnf) | (refine Req.mk (by decide) ?_; refine WrapH.is (up * 65536) (wrap_u64 (n := up * 65536) (by omega) (by omega)) ?_; conv => whnf) | ((first | refine zq1 (by omega) ?_ | refine zq2 (by omega) ?_ | refine NumH.rem (by omega) ?_ | refine zq4 (by omega) ?_ | refine zq5 (by omega) ?_ | refine zq6 ?_ | refine Req.mk (by omega) ?_ | refine Req.mk (by dsimp only; omega) ?_ | refine Req.mk (show pendP _ _ by repeat' constructor) ?_ | (with_reducible first | refine brT (by assumption) ?_ | refine brF (by assumption) ?_ | refine brDT (by omega) ?_ | refine brDF (by omega) ?_ | refine brET (by omega) ?_ | refine brEF (by omega) ?_ | refine brNET (by omega) ?_ | refine brNEF (by omega) ?_ | refine brNot ?_)); conv => whnf))
          have hv : vZ true d p = up * 65536 + q := by rw [hvz, if_neg (by simp [hmm]; omega), Int.add_zero]
          by_cases gv : up * 65536 + q ≥ 4294967296
          · have hdec : decR true d p = .tup [.int .i64 0, .int .i64 2] := by rw [decR, if_neg g0, hv, if_pos gv]
            rw [hdec]
            clear hdec hv hvz eup
            conv => whnf
            repeat' (first | exact rfl | (refine CallH.lift seat_g cm (by simp [Closed, ClosedL]) (by simp [Closed, ClosedL]) ?_; conv => whnf) | (refine CallH.lift seat_g cd (by simp [Closed, ClosedL]) (by simp [Closed, ClosedL]) ?_; conv => whnf) | (refine Req.mk (by decide) ?_; refine WrapH.is (up * 65536) (wrap_u64 (n := up * 65536) (by omega) (by omega)) ?_; conv => whnf) | ((first | refine zq1 (by omega) ?_ | refine zq2 (by omega) ?_ | refine NumH.rem (by omega) ?_ | refine zq4 (by omega) ?_ | refine zq5 (by omega) ?_ | refine zq6 ?_ | refine Req.mk (by omega) ?_ | refine Req.mk (by dsimp only; omega) ?_ | refine Req.mk (show pendP _ _ by repeat' constructor) ?_ | (with_reducible first | refine brT (by assumption) ?_ | refine brF (by assumption) ?_ | refine brDT (by omega) ?_ | refine brDF (by omega) ?_ | refine brET (by omega) ?_ | refine brEF (by omega) ?_ | refine brNET (by omega) ?_ | refine brNEF (by omega) ?_ | refine brNot ?_)); conv => whnf))
          · have hdec : decR true d p = .tup [.int .i64 (0 - (up * 65536 + q)), .int .i64 0] := by rw [decR, if_neg g0, hv, if_neg gv, if_pos rfl]
            rw [hdec]
            clear hdec hv hvz eup
            conv => whnf
            repeat' (first | exact rfl | (refine CallH.lift seat_g cm (by simp [Closed, ClosedL]) (by simp [Closed, ClosedL]) ?_; conv => whnf) | (refine CallH.lift seat_g cd (by simp [Closed, ClosedL]) (by simp [Closed, ClosedL]) ?_; conv => whnf) | (refine Req.mk (by decide) ?_; refine WrapH.is (up * 65536) (wrap_u64 (n := up * 65536) (by omega) (by omega)) ?_; conv => whnf) | ((first | refine zq1 (by omega) ?_ | refine zq2 (by omega) ?_ | refine NumH.rem (by omega) ?_ | refine zq4 (by omega) ?_ | refine zq5 (by omega) ?_ | refine zq6 ?_ | refine Req.mk (by omega) ?_ | refine Req.mk (by dsimp only; omega) ?_ | refine Req.mk (show pendP _ _ by repeat' constructor) ?_ | (with_reducible first | refine brT (by assumption) ?_ | refine brF (by assumption) ?_ | refine brDT (by omega) ?_ | refine brDF (by omega) ?_ | refine brET (by omega) ?_ | refine brEF (by omega) ?_ | refine brNET (by omega) ?_ | refine brNEF (by omega) ?_ | refine brNot ?_)); conv => whnf))
      · have hmm : moreB d p = false := by simp [moreB, m1]; omega
        cases bl with
        | false =>
          by_cases r1 : r > 50000000000000000
          · have hv : vZ false d p = up * 65536 + q + 1 := by rw [hvz, if_pos (by simp [hmm]; omega)]
            by_cases gv : up * 65536 + q + 1 ≥ 4294967296
            · have hdec : decR false d p = .tup [.int .i64 0, .int .i64 2] := by rw [decR, if_neg g0, hv, if_pos gv]
              rw [hdec]
              clear hdec hv hvz eup
              conv => whnf
              repeat' (first | exact rfl | (refine CallH.lift seat_g cm (by simp [Closed, ClosedL]) (by simp [Closed, ClosedL]) ?_; conv => whnf) | (refine CallH.lift seat_g cd (by simp [Closed, ClosedL]) (by simp [Closed, ClosedL]) ?_; conv => whnf) | (refine Req.mk (by decide) ?_; refine WrapH.is (up * 65536) (wrap_u64 (n := up * 65536) (by omega) (by omega)) ?_; conv => whnf) | ((first | refine zq1 (by omega) ?_ | refine zq2 (by omega) ?_ | refine NumH.rem (by omega) ?_ | refine zq4 (by omega) ?_ | refine zq5 (by omega) ?_ | refine zq6 ?_ | refine Req.mk (by omega) ?_ | refine Req.mk (by dsimp only; omega) ?_ | refine Req.mk (show pendP _ _ by repeat' constructor) ?_ | (with_reducible first | refine brT (by assumption) ?_ | refine brF (by assumption) ?_ | refine brDT (by omega) ?_ | refine brDF (by omega) ?_ | refine brET (by omega) ?_ | refine brEF (by omega) ?_ | refine brNET (by omega) ?_ | refine brNEF (by omega) ?_ | refine brNot ?_)); conv => whnf))
            · have hdec : decR false d p = .tup [.int .i64 (up * 65536 + q + 1), .int .i64 0] := by rw [decR, if_neg g0, hv, if_neg gv, if_neg (by decide)]
              rw [hdec]
              clear hdec hv hvz eup
              conv => whnf
              repeat' (first | exact rfl | (refine CallH.lift seat_g cm (by simp [Closed, ClosedL]) (by simp [Closed, ClosedL]) ?_; conv => whnf) | (refine CallH.lift seat_g cd (by simp [Closed, ClosedL]) (by simp [Closed, ClosedL]) ?_; conv => whnf) | (refine Req.mk (by decide) ?_; refine WrapH.is (up * 65536) (wrap_u64 (n := up * 65536) (by omega) (by omega)) ?_; conv => whnf) | ((first | refine zq1 (by omega) ?_ | refine zq2 (by omega) ?_ | refine NumH.rem (by omega) ?_ | refine zq4 (by omega) ?_ | refine zq5 (by omega) ?_ | refine zq6 ?_ | refine Req.mk (by omega) ?_ | refine Req.mk (by dsimp only; omega) ?_ | refine Req.mk (show pendP _ _ by repeat' constructor) ?_ | (with_reducible first | refine brT (by assumption) ?_ | refine brF (by assumption) ?_ | refine brDT (by omega) ?_ | refine brDF (by omega) ?_ | refine brET (by omega) ?_ | refine brEF (by omega) ?_ | refine brNET (by omega) ?_ | refine brNEF (by omega) ?_ | refine brNot ?_)); conv => whnf))
          by_cases r2 : r = 50000000000000000
          · have hv : vZ false d p = up * 65536 + q + 1 := by rw [hvz, if_pos (by simp [hmm]; omega)]
            by_cases gv : up * 65536 + q + 1 ≥ 4294967296
            · have hdec : decR false d p = .tup [.int .i64 0, .int .i64 2] := by rw [decR, if_neg g0, hv, if_pos gv]
              rw [hdec]
              clear hdec hv hvz eup
              conv => whnf
              repeat' (first | exact rfl | (refine CallH.lift seat_g cm (by simp [Closed, ClosedL]) (by simp [Closed, ClosedL]) ?_; conv => whnf) | (refine CallH.lift seat_g cd (by simp [Closed, ClosedL]) (by simp [Closed, ClosedL]) ?_; conv => whnf) | (refine Req.mk (by decide) ?_; refine WrapH.is (up * 65536) (wrap_u64 (n := up * 65536) (by omega) (by omega)) ?_; conv => whnf) | ((first | refine zq1 (by omega) ?_ | refine zq2 (by omega) ?_ | refine NumH.rem (by omega) ?_ | refine zq4 (by omega) ?_ | refine zq5 (by omega) ?_ | refine zq6 ?_ | refine Req.mk (by omega) ?_ | refine Req.mk (by dsimp only; omega) ?_ | refine Req.mk (show pendP _ _ by repeat' constructor) ?_ | (with_reducible first | refine brT (by assumption) ?_ | refine brF (by assumption) ?_ | refine brDT (by omega) ?_ | refine brDF (by omega) ?_ | refine brET (by omega) ?_ | refine brEF (by omega) ?_ | refine brNET (by omega) ?_ | refine brNEF (by omega) ?_ | refine brNot ?_)); conv => whnf))
            · have hdec : decR false d p = .tup [.int .i64 (up * 65536 + q + 1), .int .i64 0] := by rw [decR, if_neg g0, hv, if_neg gv, if_neg (by decide)]
              rw [hdec]
              clear hdec hv hvz eup
              conv => whnf
              repeat' (first | exact rfl | (refine CallH.lift seat_g cm (by simp [Closed, ClosedL]) (by simp [Closed, ClosedL]) ?_; conv => whnf) | (refine CallH.lift seat_g cd (by simp [Closed, ClosedL]) (by simp [Closed, ClosedL]) ?_; conv => whnf) | (refine Req.mk (by decide) ?_; refine WrapH.is (up * 65536) (wrap_u64 (n := up * 65536) (by omega) (by omega)) ?_; conv => whnf) | ((first | refine zq1 (by omega) ?_ | refine zq2 (by omega) ?_ | refine NumH.rem (by omega) ?_ | refine zq4 (by omega) ?_ | refine zq5 (by omega) ?_ | refine zq6 ?_ | refine Req.mk (by omega) ?_ | refine Req.mk (by dsimp only; omega) ?_ | refine Req.mk (show pendP _ _ by repeat' constructor) ?_ | (with_reducible first | refine brT (by assumption) ?_ | refine brF (by assumption) ?_ | refine brDT (by omega) ?_ | refine brDF (by omega) ?_ | refine brET (by omega) ?_ | refine brEF (by omega) ?_ | refine brNET (by omega) ?_ | refine brNEF (by omega) ?_ | refine brNot ?_)); conv => whnf))
          have hv : vZ false d p = up * 65536 + q := by rw [hvz, if_neg (by simp [hmm]; omega), Int.add_zero]
          by_cases gv : up * 65536 + q ≥ 4294967296
          · have hdec : decR false d p = .tup [.int .i64 0, .int .i64 2] := by rw [decR, if_neg g0, hv, if_pos gv]
            rw [hdec]
            clear hdec hv hvz eup
            conv => whnf
            repeat' (first | exact rfl | (refine CallH.lift seat_g cm (by simp [Closed, ClosedL]) (by simp [Closed, ClosedL]) ?_; conv => whnf) | (refine CallH.lift seat_g cd (by simp [Closed, ClosedL]) (by simp [Closed, ClosedL]) ?_; conv => whnf) | (refine Req.mk (by decide) ?_; refine WrapH.is (up * 65536) (wrap_u64 (n := up * 65536) (by omega) (by omega)) ?_; conv => whnf) | ((first | refine zq1 (by omega) ?_ | refine zq2 (by omega) ?_ | refine NumH.rem (by omega) ?_ | refine zq4 (by omega) ?_ | refine zq5 (by omega) ?_ | refine zq6 ?_ | refine Req.mk (by omega) ?_ | refine Req.mk (by dsimp only; omega) ?_ | refine Req.mk (show pendP _ _ by repeat' constructor) ?_ | (with_reducible first | refine brT (by assumption) ?_ | refine brF (by assumption) ?_ | refine brDT (by omega) ?_ | refine brDF (by omega) ?_ | refine brET (by omega) ?_ | refine brEF (by omega) ?_ | refine brNET (by omega) ?_ | refine brNEF (by omega) ?_ | refine brNot ?_)); conv => whnf))
          · have hdec : decR false d p = .tup [.int .i64 (up * 65536 + q), .int .i64 0] := by rw [decR, if_neg g0, hv, if_neg gv, if_neg (by decide)]
            rw [hdec]
            clear hdec hv hvz eup
            conv => whnf
            repeat' (first | exact rfl | (refine CallH.lift seat_g cm (by simp [Closed, ClosedL]) (by simp [Closed, ClosedL]) ?_; conv => whnf) | (refine CallH.lift seat_g cd (by simp [Closed, ClosedL]) (by simp [Closed, ClosedL]) ?_; conv => whnf) | (refine Req.mk (by decide) ?_; refine WrapH.is (up * 65536) (wrap_u64 (n := up * 65536) (by omega) (by omega)) ?_; conv => whnf) | ((first | refine zq1 (by omega) ?_ | refine zq2 (by omega) ?_ | refine NumH.rem (by omega) ?_ | refine zq4 (by omega) ?_ | refine zq5 (by omega) ?_ | refine zq6 ?_ | refine Req.mk (by omega) ?_ | refine Req.mk (by dsimp only; omega) ?_ | refine Req.mk (show pendP _ _ by repeat' constructor) ?_ | (with_reducible first | refine brT (by assumption) ?_ | refine brF (by assumption) ?_ | refine brDT (by omega) ?_ | refine brDF (by omega) ?_ | refine brET (by omega) ?_ | refine brEF (by omega) ?_ | refine brNET (by omega) ?_ | refine brNEF (by omega) ?_ | refine brNot ?_)); conv => whnf))
        | true =>
          by_cases r1 : r > 50000000000000000
          · have hv : vZ true d p = up * 65536 + q + 1 := by rw [hvz, if_pos (by simp [hmm]; omega)]
            by_cases gv : up * 65536 + q + 1 ≥ 4294967296
            · have hdec : decR true d p = .tup [.int .i64 0, .int .i64 2] := by rw [decR, if_neg g0, hv, if_pos gv]
              rw [hdec]
              clear hdec hv hvz eup
              conv => whnf
              repeat' (first | exact rfl | (refine CallH.lift seat_g cm (by simp [Closed, ClosedL]) (by simp [Closed, ClosedL]) ?_; conv => whnf) | (refine CallH.lift seat_g cd (by simp [Closed, ClosedL]) (by simp [Closed, ClosedL]) ?_; conv => whnf) | (refine Req.mk (by decide) ?_; refine WrapH.is (up * 65536) (wrap_u64 (n := up * 65536) (by omega) (by omega)) ?_; conv => whnf) | ((first | refine zq1 (by omega) ?_ | refine zq2 (by omega) ?_ | refine NumH.rem (by omega) ?_ | refine zq4 (by omega) ?_ | refine zq5 (by omega) ?_ | refine zq6 ?_ | refine Req.mk (by omega) ?_ | refine Req.mk (by dsimp only; omega) ?_ | refine Req.mk (show pendP _ _ by repeat' constructor) ?_ | (with_reducible first | refine brT (by assumption) ?_ | refine brF (by assumption) ?_ | refine brDT (by omega) ?_ | refine brDF (by omega) ?_ | refine brET (by omega) ?_ | refine brEF (by omega) ?_ | refine brNET (by omega) ?_ | refine brNEF (by omega) ?_ | refine brNot ?_)); conv => whnf))
            · have hdec : decR true d p = .tup [.int .i64 (0 - (up * 65536 + q + 1)), .int .i64 0] := by rw [decR, if_neg g0, hv, if_neg gv, if_pos rfl]
              rw [hdec]
              clear hdec hv hvz eup
              conv => whnf
              repeat' (first | exact rfl | (refine CallH.lift seat_g cm (by simp [Closed, ClosedL]) (by simp [Closed, ClosedL]) ?_; conv => whnf) | (refine CallH.lift seat_g cd (by simp [Closed, ClosedL]) (by simp [Closed, ClosedL]) ?_; conv => whnf) | (refine Req.mk (by decide) ?_; refine WrapH.is (up * 65536) (wrap_u64 (n := up * 65536) (by omega) (by omega)) ?_; conv => whnf) | ((first | refine zq1 (by omega) ?_ | refine zq2 (by omega) ?_ | refine NumH.rem (by omega) ?_ | refine zq4 (by omega) ?_ | refine zq5 (by omega) ?_ | refine zq6 ?_ | refine Req.mk (by omega) ?_ | refine Req.mk (by dsimp only; omega) ?_ | refine Req.mk (show pendP _ _ by repeat' constructor) ?_ | (with_reducible first | refine brT (by assumption) ?_ | refine brF (by assumption) ?_ | refine brDT (by omega) ?_ | refine brDF (by omega) ?_ | refine brET (by omega) ?_ | refine brEF (by omega) ?_ | refine brNET (by omega) ?_ | refine brNEF (by omega) ?_ | refine brNot ?_)); conv => whnf))
          by_cases r2 : r = 50000000000000000
          · have hv : vZ true d p = up * 65536 + q := by rw [hvz, if_neg (by simp [hmm]; omega), Int.add_zero]
            by_cases gv : up * 65536 + q ≥ 4294967296
            · have hdec : decR true d p = .tup [.int .i64 0, .int .i64 2] := by rw [decR, if_neg g0, hv, if_pos gv]
              rw [hdec]
              clear hdec hv hvz eup
              conv => whnf
              repeat' (first | exact rfl | (refine CallH.lift seat_g cm (by simp [Closed, ClosedL]) (by simp [Closed, ClosedL]) ?_; conv => whnf) | (refine CallH.lift seat_g cd (by simp [Closed, ClosedL]) (by simp [Closed, ClosedL]) ?_; conv => whnf) | (refine Req.mk (by decide) ?_; refine WrapH.is (up * 65536) (wrap_u64 (n := up * 65536) (by omega) (by omega)) ?_; conv => whnf) | ((first | refine zq1 (by omega) ?_ | refine zq2 (by omega) ?_ | refine NumH.rem (by omega) ?_ | refine zq4 (by omega) ?_ | refine zq5 (by omega) ?_ | refine zq6 ?_ | refine Req.mk (by omega) ?_ | refine Req.mk (by dsimp only; omega) ?_ | refine Req.mk (show pendP _ _ by repeat' constructor) ?_ | (with_reducible first | refine brT (by assumption) ?_ | refine brF (by assumption) ?_ | refine brDT (by omega) ?_ | refine brDF (by omega) ?_ | refine brET (by omega) ?_ | refine brEF (by omega) ?_ | refine brNET (by omega) ?_ | refine brNEF (by omega) ?_ | refine brNot ?_)); conv => whnf))
            · have hdec : decR true d p = .tup [.int .i64 (0 - (up * 65536 + q)), .int .i64 0] := by rw [decR, if_neg g0, hv, if_neg gv, if_pos rfl]
              rw [hdec]
              clear hdec hv hvz eup
              conv => whnf
              repeat' (first | exact rfl | (refine CallH.lift seat_g cm (by simp [Closed, ClosedL]) (by simp [Closed, ClosedL]) ?_; conv => whnf) | (refine CallH.lift seat_g cd (by simp [Closed, ClosedL]) (by simp [Closed, ClosedL]) ?_; conv => whnf) | (refine Req.mk (by decide) ?_; refine WrapH.is (up * 65536) (wrap_u64 (n := up * 65536) (by omega) (by omega)) ?_; conv => whnf) | ((first | refine zq1 (by omega) ?_ | refine zq2 (by omega) ?_ | refine NumH.rem (by omega) ?_ | refine zq4 (by omega) ?_ | refine zq5 (by omega) ?_ | refine zq6 ?_ | refine Req.mk (by omega) ?_ | refine Req.mk (by dsimp only; omega) ?_ | refine Req.mk (show pendP _ _ by repeat' constructor) ?_ | (with_reducible first | refine brT (by assumption) ?_ | refine brF (by assumption) ?_ | refine brDT (by omega) ?_ | refine brDF (by omega) ?_ | refine brET (by omega) ?_ | refine brEF (by omega) ?_ | refine brNET (by omega) ?_ | refine brNEF (by omega) ?_ | refine brNot ?_)); conv => whnf))
          have hv : vZ true d p = up * 65536 + q := by rw [hvz, if_neg (by simp [hmm]; omega), Int.add_zero]
          by_cases gv : up * 65536 + q ≥ 4294967296
          · have hdec : decR true d p = .tup [.int .i64 0, .int .i64 2] := by rw [decR, if_neg g0, hv, if_pos gv]
            rw [hdec]
            clear hdec hv hvz eup
            conv => whnf
            repeat' (first | exact rfl | (refine CallH.lift seat_g cm (by simp [Closed, ClosedL]) (by simp [Closed, ClosedL]) ?_; conv => whnf) | (refine CallH.lift seat_g cd (by simp [Closed, ClosedL]) (by simp [Closed, ClosedL]) ?_; conv => whnf) | (refine Req.mk (by decide) ?_; refine WrapH.is (up * 65536) (wrap_u64 (n := up * 65536) (by omega) (by omega)) ?_; conv => whnf) | ((first | refine zq1 (by omega) ?_ | refine zq2 (by omega) ?_ | refine NumH.rem (by omega) ?_ | refine zq4 (by omega) ?_ | refine zq5 (by omega) ?_ | refine zq6 ?_ | refine Req.mk (by omega) ?_ | refine Req.mk (by dsimp only; omega) ?_ | refine Req.mk (show pendP _ _ by repeat' constructor) ?_ | (with_reducible first | refine brT (by assumption) ?_ | refine brF (by assumption) ?_ | refine brDT (by omega) ?_ | refine brDF (by omega) ?_ | refine brET (by omega) ?_ | refine brEF (by omega) ?_ | refine brNET (by omega) ?_ | refine brNEF (by omega) ?_ | refine brNot ?_)); conv => whnf))
          · have hdec : decR true d p = .tup [.int .i64 (0 - (up * 65536 + q)), .int .i64 0] := by rw [decR, if_neg g0, hv, if_neg gv, if_pos rfl]
            rw [hdec]
            clear hdec hv hvz eup
            conv => whnf
            repeat' (first | exact rfl | (refine CallH.lift seat_g cm (by simp [Closed, ClosedL]) (by simp [Closed, ClosedL]) ?_; conv => whnf) | (refine CallH.lift seat_g cd (by simp [Closed, ClosedL]) (by simp [Closed, ClosedL]) ?_; conv => whnf) | (refine Req.mk (by decide) ?_; refine WrapH.is (up * 65536) (wrap_u64 (n := up * 65536) (by omega) (by omega)) ?_; conv => whnf) | ((first | refine zq1 (by omega) ?_ | refine zq2 (by omega) ?_ | refine NumH.rem (by omega) ?_ | refine zq4 (by omega) ?_ | refine zq5 (by omega) ?_ | refine zq6 ?_ | refine Req.mk (by omega) ?_ | refine Req.mk (by dsimp only; omega) ?_ | refine Req.mk (show pendP _ _ by repeat' constructor) ?_ | (with_reducible first | refine brT (by assumption) ?_ | refine brF (by assumption) ?_ | refine brDT (by omega) ?_ | refine brDF (by omega) ?_ | refine brET (by omega) ?_ | refine brEF (by omega) ?_ | refine brNET (by omega) ?_ | refine brNEF (by omega) ?_ | refine brNot ?_)); conv => whnf))
    · have m1' : ¬ ((0 : Int) < d.length) := by omega
      have hmm : moreB d p = false := by simp [moreB]; omega
      cases bl with
      | false =>
        by_cases r1 : r > 50000000000000000
        · have hv : vZ false d p = up * 65536 + q + 1 := by rw [hvz, if_pos (by simp [hmm]; omega)]
          by_cases gv : up * 65536 + q + 1 ≥ 4294967296
          · have hdec : decR false d p = .tup [.int .i64 0, .int .i64 2] := by rw [decR, if_neg g0, hv, if_pos gv]
            rw [hdec]
            clear hdec hv hvz eup
            conv => whnf
            repeat' (first | exact rfl | (refine CallH.lift seat_g cm (by simp [Closed, ClosedL]) (by simp [Closed, ClosedL]) ?_; conv => whnf) | (refine CallH.lift seat_g cd (by simp [Closed, ClosedL]) (by simp [Closed, ClosedL]) ?_; conv => whnf) | (refine Req.mk (by decide) ?_; refine WrapH.is (up * 65536) (wrap_u64 (n := up * 65536) (by omega) (by omega)) ?_; conv => whnf) | ((first | refine zq1 (by omega) ?_ | refine zq2 (by omega) ?_ | refine NumH.rem (by omega) ?_ | refine zq4 (by omega) ?_ | refine zq5 (by omega) ?_ | refine zq6 ?_ | refine Req.mk (by omega) ?_ | refine Req.mk (by dsimp only; omega) ?_ | refine Req.mk (show pendP _ _ by repeat' constructor) ?_ | (with_reducible first | refine brT (by assumption) ?_ | refine brF (by assumption) ?_ | refine brDT (by omega) ?_ | refine brDF (by omega) ?_ | refine brET (by omega) ?_ | refine brEF (by omega) ?_ | refine brNET (by omega) ?_ | refine brNEF (by omega) ?_ | refine brNot ?_)); conv => whnf))
          · have hdec : decR false d p = .tup [.int .i64 (up * 65536 + q + 1), .int .i64 0] := by rw [decR, if_neg g0, hv, if_neg gv, if_neg (by decide)]
            rw [hdec]
            clear hdec hv hvz eup
            conv => whnf
            repeat' (first | exact rfl | (refine CallH.lift seat_g cm (by simp [Closed, ClosedL]) (by simp [Closed, ClosedL]) ?_; conv => whnf) | (refine CallH.lift seat_g cd (by simp [Closed, ClosedL]) (by simp [Closed, ClosedL]) ?_; conv => whnf) | (refine Req.mk (by decide) ?_; refine WrapH.is (up * 65536) (wrap_u64 (n := up * 65536) (by omega) (by omega)) ?_; conv => whnf) | ((first | refine zq1 (by omega) ?_ | refine zq2 (by omega) ?_ | refine NumH.rem (by omega) ?_ | refine zq4 (by omega) ?_ | refine zq5 (by omega) ?_ | refine zq6 ?_ | refine Req.mk (by omega) ?_ | refine Req.mk (by dsimp only; omega) ?_ | refine Req.mk (show pendP _ _ by repeat' constructor) ?_ | (with_reducible first | refine brT (by assumption) ?_ | refine brF (by assumption) ?_ | refine brDT (by omega) ?_ | refine brDF (by omega) ?_ | refine brET (by omega) ?_ | refine brEF (by omega) ?_ | refine brNET (by omega) ?_ | refine brNEF (by omega) ?_ | refine brNot ?_)); conv => whnf))
        by_cases r2 : r = 50000000000000000
        · have hv : vZ false d p = up * 65536 + q + 1 := by rw [hvz, if_pos (by simp [hmm]; omega)]
          by_cases gv : up * 65536 + q + 1 ≥ 4294967296
          · have hdec : decR false d p = .tup [.int .i64 0, .int .i64 2] := by rw [decR, if_neg g0, hv, if_pos gv]
            rw [hdec]
            clear hdec hv hvz eup
            conv => whnf
            repeat' (first | exact rfl | (refine CallH.lift seat_g cm (by simp [Closed, ClosedL]) (by simp [Closed, ClosedL]) ?_; conv => whnf) | (refine CallH.lift seat_g cd (by simp [Closed, ClosedL]) (by simp [Closed, ClosedL]) ?_; conv => whnf) | (refine Req.mk (by decide) ?_; refine WrapH.is (up * 65536) (wrap_u64 (n := up * 65536) (by omega) (by omega)) ?_; conv => whnf) | ((first | refine zq1 (by omega) ?_ | refine zq2 (by omega) ?_ | refine NumH.rem (by omega) ?_ | refine zq4 (by omega) ?_ | refine zq5 (by omega) ?_ | refine zq6 ?_ | refine Req.mk (by omega) ?_ | refine Req.mk (by dsimp only; omega) ?_ | refine Req.mk (show pendP _ _ by repeat' constructor) ?_ | (with_reducible first | refine brT (by assumption) ?_ | refine brF (by assumption) ?_ | refine brDT (by omega) ?_ | refine brDF (by omega) ?_ | refine brET (by omega) ?_ | refine brEF (by omega) ?_ | refine brNET (by omega) ?_ | refine brNEF (by omega) ?_ | refine brNot ?_)); conv => whnf))
          · have hdec : decR false d p = .tup [.int .i64 (up * 65536 + q + 1), .int .i64 0] := by rw [decR, if_neg g0, hv, if_neg gv, if_neg (by decide)]
            rw [hdec]
            clear hdec hv hvz eup
            conv => whnf
            repeat' (first | exact rfl | (refine CallH.lift seat_g cm (by simp [Closed, ClosedL]) (by simp [Closed, ClosedL]) ?_; conv => whnf) | (refine CallH.lift seat_g cd (by simp [Closed, ClosedL]) (by simp [Closed, ClosedL]) ?_; conv => whnf) | (refine Req.mk (by decide) ?_; refine WrapH.is (up * 65536) (wrap_u64 (n := up * 65536) (by omega) (by omega)) ?_; conv => whnf) | ((first | refine zq1 (by omega) ?_ | refine zq2 (by omega) ?_ | refine NumH.rem (by omega) ?_ | refine zq4 (by omega) ?_ | refine zq5 (by omega) ?_ | refine zq6 ?_ | refine Req.mk (by omega) ?_ | refine Req.mk (by dsimp only; omega) ?_ | refine Req.mk (show pendP _ _ by repeat' constructor) ?_ | (with_reducible first | refine brT (by assumption) ?_ | refine brF (by assumption) ?_ | refine brDT (by omega) ?_ | refine brDF (by omega) ?_ | refine brET (by omega) ?_ | refine brEF (by omega) ?_ | refine brNET (by omega) ?_ | refine brNEF (by omega) ?_ | refine brNot ?_)); conv => whnf))
        have hv : vZ false d p = up * 65536 + q := by rw [hvz, if_neg (by simp [hmm]; omega), Int.add_zero]
        by_cases gv : up * 65536 + q ≥ 4294967296
        · have hdec : decR false d p = .tup [.int .i64 0, .int .i64 2] := by rw [decR, if_neg g0, hv, if_pos gv]
          rw [hdec]
          clear hdec hv hvz eup
          conv => whnf
          repeat' (first | exact rfl | (refine CallH.lift seat_g cm (by simp [Closed, ClosedL]) (by simp [Closed, ClosedL]) ?_; conv => whnf) | (refine CallH.lift seat_g cd (by simp [Closed, ClosedL]) (by simp [Closed, ClosedL]) ?_; conv => whnf) | (refine Req.mk (by decide) ?_; refine WrapH.is (up * 65536) (wrap_u64 (n := up * 65536) (by omega) (by omega)) ?_; conv => whnf) | ((first | refine zq1 (by omega) ?_ | refine zq2 (by omega) ?_ | refine NumH.rem (by omega) ?_ | refine zq4 (by omega) ?_ | refine zq5 (by omega) ?_ | refine zq6 ?_ | refine Req.mk (by omega) ?_ | refine Req.mk (by dsimp only; omega) ?_ | refine Req.mk (show pendP _ _ by repeat' constructor) ?_ | (with_reducible first | refine brT (by assumption) ?_ | refine brF (by assumption) ?_ | refine brDT (by omega) ?_ | refine brDF (by omega) ?_ | refine brET (by omega) ?_ | refine brEF (by omega) ?_ | refine brNET (by omega) ?_ | refine brNEF (by omega) ?_ | refine brNot ?_)); conv => whnf))
        · have hdec : decR false d p = .tup [.int .i64 (up * 65536 + q), .int .i64 0] := by rw [decR, if_neg g0, hv, if_neg gv, if_neg (by decide)]
          rw [hdec]
          clear hdec hv hvz eup
          conv => whnf
          repeat' (first | exact rfl | (refine CallH.lift seat_g cm (by simp [Closed, ClosedL]) (by simp [Closed, ClosedL]) ?_; conv => whnf) | (refine CallH.lift seat_g cd (by simp [Closed, ClosedL]) (by simp [Closed, ClosedL]) ?_; conv => whnf) | (refine Req.mk (by decide) ?_; refine WrapH.is (up * 65536) (wrap_u64 (n := up * 65536) (by omega) (by omega)) ?_; conv => whnf) | ((first | refine zq1 (by omega) ?_ | refine zq2 (by omega) ?_ | refine NumH.rem (by omega) ?_ | refine zq4 (by omega) ?_ | refine zq5 (by omega) ?_ | refine zq6 ?_ | refine Req.mk (by omega) ?_ | refine Req.mk (by dsimp only; omega) ?_ | refine Req.mk (show pendP _ _ by repeat' constructor) ?_ | (with_reducible first | refine brT (by assumption) ?_ | refine brF (by assumption) ?_ | refine brDT (by omega) ?_ | refine brDF (by omega) ?_ | refine brET (by omega) ?_ | refine brEF (by omega) ?_ | refine brNET (by omega) ?_ | refine brNEF (by omega) ?_ | refine brNot ?_)); conv => whnf))
      | true =>
        by_cases r1 : r > 50000000000000000
        · have hv : vZ true d p = up * 65536 + q + 1 := by rw [hvz, if_pos (by simp [hmm]; omega)]
          by_cases gv : up * 65536 + q + 1 ≥ 4294967296
          · have hdec : decR true d p = .tup [.int .i64 0, .int .i64 2] := by rw [decR, if_neg g0, hv, if_pos gv]
            rw [hdec]
            clear hdec hv hvz eup
            conv => whnf
            repeat' (first | exact rfl | (refine CallH.lift seat_g cm (by simp [Closed, ClosedL]) (by simp [Closed, ClosedL]) ?_; conv => whnf) | (refine CallH.lift seat_g cd (by simp [Closed, ClosedL]) (by simp [Closed, ClosedL]) ?_; conv => whnf) | (refine Req.mk (by decide) ?_; refine WrapH.is (up * 65536) (wrap_u64 (n := up * 65536) (by omega) (by omega)) ?_; conv => whnf) | ((first | refine zq1 (by omega) ?_ | refine zq2 (by omega) ?_ | refine NumH.rem (by omega) ?_ | refine zq4 (by omega) ?_ | refine zq5 (by omega) ?_ | refine zq6 ?_ | refine Req.mk (by omega) ?_ | refine Req.mk (by dsimp only; omega) ?_ | refine Req.mk (show pendP _ _ by repeat' constructor) ?_ | (with_reducible first | refine brT (by assumption) ?_ | refine brF (by assumption) ?_ | refine brDT (by omega) ?_ | refine brDF (by omega) ?_ | refine brET (by omega) ?_ | refine brEF (by omega) ?_ | refine brNET (by omega) ?_ | refine brNEF (by omega) ?_ | refine brNot ?_)); conv => whnf))
          · have hdec : decR true d p = .tup [.int .i64 (0 - (up * 65536 + q + 1)), .int .i64 0] := by rw [decR, if_neg g0, hv, if_neg gv, if_pos rfl]
            rw [hdec]
            clear hdec hv hvz eup
            conv => whnf
            repeat' (first | exact rfl | (refine CallH.lift seat_g cm (by simp [Closed, ClosedL]) (by simp [Closed, ClosedL]) ?_; conv => whnf) | (refine CallH.lift seat_g cd (by simp [Closed, ClosedL]) (by simp [Closed, ClosedL]) ?_; conv => whnf) | (refine Req.mk (by decide) ?_; refine WrapH.is (up * 65536) (wrap_u64 (n := up * 65536) (by omega) (by omega)) ?_; conv => whnf) | ((first | refine zq1 (by omega) ?_ | refine zq2 (by omega) ?_ | refine NumH.rem (by omega) ?_ | refine zq4 (by omega) ?_ | refine zq5 (by omega) ?_ | refine zq6 ?_ | refine Req.mk (by omega) ?_ | refine Req.mk (by dsimp only; omega) ?_ | refine Req.mk (show pendP _ _ by repeat' constructor) ?_ | (with_reducible first | refine brT (by assumption) ?_ | refine brF (by assumption) ?_ | refine brDT (by omega) ?_ | refine brDF (by omega) ?_ | refine brET (by omega) ?_ | refine brEF (by omega) ?_ | refine brNET (by omega) ?_ | refine brNEF (by omega) ?_ | refine brNot ?_)); conv => whnf))
        by_cases r2 : r = 50000000000000000
        · have hv : vZ true d p = up * 65536 + q := by rw [hvz, if_neg (by simp [hmm]; omega), Int.add_zero]
          by_cases gv : up * 65536 + q ≥ 4294967296
          · have hdec : decR true d p = .tup [.int .i64 0, .int .i64 2] := by rw [decR, if_neg g0, hv, if_pos gv]
            rw [hdec]
            clear hdec hv hvz eup
            conv => whnf
            repeat' (first | exact rfl | (refine CallH.lift seat_g cm (by simp [Closed, ClosedL]) (by simp [Closed, ClosedL]) ?_; conv => whnf) | (refine CallH.lift seat_g cd (by simp [Closed, ClosedL]) (by simp [Closed, ClosedL]) ?_; conv => whnf) | (refine Req.mk (by decide) ?_; refine WrapH.is (up * 65536) (wrap_u64 (n := up * 65536) (by omega) (by omega)) ?_; conv => whnf) | ((first | refine zq1 (by omega) ?_ | refine zq2 (by omega) ?_ | refine NumH.rem (by omega) ?_ | refine zq4 (by omega) ?_ | refine zq5 (by omega) ?_ | refine zq6 ?_ | refine Req.mk (by omega) ?_ | refine Req.mk (by dsimp only; omega) ?_ | refine Req.mk (show pendP _ _ by repeat' constructor) ?_ | (with_reducible first | refine brT (by assumption) ?_ | refine brF (by assumption) ?_ | refine brDT (by omega) ?_ | refine brDF (by omega) ?_ | refine brET (by omega) ?_ | refine brEF (by omega) ?_ | refine brNET (by omega) ?_ | refine brNEF (by omega) ?_ | refine brNot ?_)); conv => whnf))
          · have hdec : decR true d p = .tup [.int .i64 (0 - (up * 65536 + q)), .int .i64 0] := by rw [decR, if_neg g0, hv, if_neg gv, if_pos rfl]
            rw [hdec]
            clear hdec hv hvz eup
            conv => whnf
            repeat' (first | exact rfl | (refine CallH.lift seat_g cm (by simp [Closed, ClosedL]) (by simp [Closed, ClosedL]) ?_; conv => whnf) | (refine CallH.lift seat_g cd (by simp [Closed, ClosedL]) (by simp [Closed, ClosedL]) ?_; conv => whnf) | (refine Req.mk (by decide) ?_; refine WrapH.is (up * 65536) (wrap_u64 (n := up * 65536) (by omega) (by omega)) ?_; conv => whnf) | ((first | refine zq1 (by omega) ?_ | refine zq2 (by omega) ?_ | refine NumH.rem (by omega) ?_ | refine zq4 (by omega) ?_ | refine zq5 (by omega) ?_ | refine zq6 ?_ | refine Req.mk (by omega) ?_ | refine Req.mk (by dsimp only; omega) ?_ | refine Req.mk (show pendP _ _ by repeat' constructor) ?_ | (with_reducible first | refine brT (by assumption) ?_ | refine brF (by assumption) ?_ | refine brDT (by omega) ?_ | refine brDF (by omega) ?_ | refine brET (by omega) ?_ | refine brEF (by omega) ?_ | refine brNET (by omega) ?_ | refine brNEF (by omega) ?_ | refine brNot ?_)); conv => whnf))
        have hv : vZ true d p = up * 65536 + q := by rw [hvz, if_neg (by simp [hmm]; omega), Int.add_zero]
        by_cases gv : up * 65536 + q ≥ 4294967296
        · have hdec : decR true d p = .tup [.int .i64 0, .int .i64 2] := by rw [decR, if_neg g0, hv, if_pos gv]
          rw [hdec]
          clear hdec hv hvz eup
          conv => whnf
          repeat' (first | exact rfl | (refine CallH.lift seat_g cm (by simp [Closed, ClosedL]) (by simp [Closed, ClosedL]) ?_; conv => whnf) | (refine CallH.lift seat_g cd (by simp [Closed, ClosedL]) (by simp [Closed, ClosedL]) ?_; conv => whnf) | (refine Req.mk (by decide) ?_; refine WrapH.is (up * 65536) (wrap_u64 (n := up * 65536) (by omega) (by omega)) ?_; conv => whnf) | ((first | refine zq1 (by omega) ?_ | refine zq2 (by omega) ?_ | refine NumH.rem (by omega) ?_ | refine zq4 (by omega) ?_ | refine zq5 (by omega) ?_ | refine zq6 ?_ | refine Req.mk (by omega) ?_ | refine Req.mk (by dsimp only; omega) ?_ | refine Req.mk (show pendP _ _ by repeat' constructor) ?_ | (with_reducible first | refine brT (by assumption) ?_ | refine brF (by assumption) ?_ | refine brDT (by omega) ?_ | refine brDF (by omega) ?_ | refine brET (by omega) ?_ | refine brEF (by omega) ?_ | refine brNET (by omega) ?_ | refine brNEF (by omega) ?_ | refine brNot ?_)); conv => whnf))
        · have hdec : decR true d p = .tup [.int .i64 (0 - (up * 65536 + q)), .int .i64 0] := by rw [decR, if_neg g0, hv, if_neg gv, if_pos rfl]
          rw [hdec]
          clear hdec hv hvz eup
          conv => whnf
          repeat' (first | exact rfl | (refine CallH.lift seat_g cm (by simp [Closed, ClosedL]) (by simp [Closed, ClosedL]) ?_; conv => whnf) | (refine CallH.lift seat_g cd (by simp [Closed, ClosedL]) (by simp [Closed, ClosedL]) ?_; conv => whnf) | (refine Req.mk (by decide) ?_; refine WrapH.is (up * 65536) (wrap_u64 (n := up * 65536) (by omega) (by omega)) ?_; conv => whnf) | ((first | refine zq1 (by omega) ?_ | refine zq2 (by omega) ?_ | refine NumH.rem (by omega) ?_ | refine zq4 (by omega) ?_ | refine zq5 (by omega) ?_ | refine zq6 ?_ | refine Req.mk (by omega) ?_ | refine Req.mk (by dsimp only; omega) ?_ | refine Req.mk (show pendP _ _ by repeat' constructor) ?_ | (with_reducible first | refine brT (by assumption) ?_ | refine brF (by assumption) ?_ | refine brDT (by omega) ?_ | refine brDF (by omega) ?_ | refine brET (by omega) ?_ | refine brEF (by omega) ?_ | refine brNET (by omega) ?_ | refine brNEF (by omega) ?_ | refine brNot ?_)); conv => whnf))
end Go.Proofs.YtinjgnaimmenbaaDoor
namespace Go.Proofs.YtinjgnaimmenbaaDoor
open Go.Abs
end Go.Proofs.YtinjgnaimmenbaaDoor
namespace Go.Proofs.YtinjgnaimmenbaaDoor
open Go.Abs
theorem rd_sign {S : List UInt8} (hS : S = [] ∨ S = [43] ∨ S = [45]) : rdM S = ⟨S == [45], [], 0, false⟩ := by
  rcases hS with rfl | rfl | rfl <;> rfl
def RdOK (bl : Bool) (r : RS) (f : Nat × Nat × Bool) : Prop :=
  r.below = bl ∧ (∀ x ∈ r.ds, 0 ≤ x ∧ x ≤ 9) ∧ (r.ds = [] ∨ ∃ x l, r.ds = x :: l ∧ 0 < x) ∧ (f.1 : Int) = valD r.ds ∧ r.pt = (r.ds.length : Int) - f.2.1 ∧ r.seen = f.2.2 ∧ (f.2.2 = false → f.2.1 = 0)
theorem rd_step {bl : Bool} {r : RS} {f : Nat × Nat × Bool} {b : UInt8} (hk : kindN b.toNat = 0 ∨ kindN b.toNat = 1) (h : RdOK bl r f) : RdOK bl (rdStep r b) (rStep f b) := by
  obtain ⟨below, ds, pt, seen⟩ := r
  obtain ⟨N, bh, dot⟩ := f
  obtain ⟨h1, h2, h3, h4, h5, h6, h7⟩ := h
  simp only at h1 h2 h3 h4 h5 h6 h7
  subst h1 h6
  have hc := kindN_cases b.toNat
  unfold rdStep rStep
  rcases hk with hk | hk
  · rw [if_pos hk, if_neg (by omega)]
    simp only
    have hb : 48 ≤ (b.toNat : Int) ∧ (b.toNat : Int) ≤ 57 := by omega
    obtain ⟨c, hcc⟩ : ∃ c : Nat, (b.toNat : Int) - 48 = c := ⟨((b.toNat : Int) - 48).toNat, by omega⟩
    rw [hcc, Int.toNat_natCast]
    have hv : ((N * 10 + c : Nat) : Int) = 10 * valD ds + c := by rw [← h4]; omega
    have hds : dsF ds b.toNat = ds ++ [(c : Int)] ∨ (dsF ds b.toNat = [] ∧ ds = [] ∧ c = 0) := by
      unfold dsF
      by_cases h : (b.toNat : Int) ≠ 48 ∨ 0 < ds.length
      · rw [if_pos h, hcc]; exact .inl rfl
      · rw [if_neg h]
        obtain rfl : ds = [] := List.length_eq_zero_iff.1 (by omega)
        exact .inr ⟨rfl, rfl, by omega⟩
    have hne : dsF ds b.toNat = ds ++ [(c : Int)] → ds = [] → 0 < (c : Int) := fun h he => by
      subst he
      unfold dsF at h
      by_cases h8 : (b.toNat : Int) ≠ 48 ∨ 0 < ([] : List Int).length
      · simp at h8; omega
      · rw [if_neg h8] at h; exact absurd h (by simp)
    rcases hds with hds | ⟨hds, rfl, rfl⟩
    · have hn := hne hds
      rw [hds]
      refine ⟨rfl, ?_, ?_, by rw [valD_snoc]; exact hv, ?_, rfl, ?_⟩
      · intro x hx
        rcases List.mem_append.1 hx with hx | hx
        · exact h2 x hx
        · rw [List.mem_singleton.1 hx]; omega
      · refine .inr ?_
        rcases h3 with rfl | ⟨x, l, rfl, hx⟩
        · exact ⟨c, [], rfl, hn rfl⟩
        · exact ⟨x, l ++ [(c : Int)], rfl, hx⟩
      · simp only [List.length_append, List.length_singleton]
        unfold ptF
        cases seen with
        | false =>
          have := h7 rfl
          simp only [if_true, List.length_append, List.length_singleton, Bool.false_eq_true, if_false]
          rw [if_pos (by omega)]; omega
        | true =>
          simp only [Bool.true_eq_false, if_false, List.length_append, List.length_singleton, if_true]
          rw [if_neg (by omega)]; omega
      · intro h; simp only at h; simp only [h, Bool.false_eq_true, if_false]; exact h7 h
    · rw [hds]
      refine ⟨rfl, by simp, .inl rfl, by simpa [valD, preN] using hv, ?_, rfl, ?_⟩
      · simp only [List.length_nil] at h5 ⊢
        unfold ptF
        cases seen with
        | false =>
          have := h7 rfl
          simp only [if_true, List.length_nil, Bool.false_eq_true, if_false]
          rw [if_neg (by omega)]; omega
        | true =>
          simp only [Bool.true_eq_false, if_false, List.length_nil, if_true]
          omega
      · intro h; simp only at h; simp only [h, Bool.false_eq_true, if_false]; exact h7 h
  · rw [if_neg (by omega), if_pos hk, if_pos hk]
    exact ⟨rfl, h2, h3, h4, h5, rfl, fun h => by cases h⟩
theorem rd_fold {S : List UInt8} (hS : S = [] ∨ S = [43] ∨ S = [45]) : ∀ (n : Nat) (M : List UInt8), M.length = n → (∀ b ∈ M, kindN b.toNat = 0 ∨ kindN b.toNat = 1) → RdOK (S == [45]) (rdM (S ++ M)) (rFold M)
  | 0, M, h, _ => by
    obtain rfl := List.length_eq_zero_iff.1 h
    rw [List.append_nil, rd_sign hS]
    exact ⟨rfl, by simp, .inl rfl, rfl, rfl, rfl, fun _ => rfl⟩
  | n + 1, M, h, hk => by
    have hne : M ≠ [] := by intro h2; rw [h2] at h; simp at h
    have e := (List.dropLast_concat_getLast hne).symm
    have hl : M.dropLast.length = n := by rw [List.length_dropLast]; omega
    have ih := rd_fold hS n _ hl (fun c h => hk c (List.dropLast_subset _ h))
    have h1 := hk _ (List.getLast_mem hne)
    rw [e, rFold_snoc, ← List.append_assoc, rdM_snoc]
    exact rd_step h1 ih
theorem pow_caps : ∀ (n : Nat) (C : List UInt8), C.length = n → (∀ c ∈ C, kindN c.toNat = 0) → powF 1000 0 C = if powF 1099511627776 0 C ≤ 1000 then powF 1099511627776 0 C else 1000
  | 0, C, h, _ => by
    obtain rfl := List.length_eq_zero_iff.1 h
    simp [powF]
  | n + 1, C, h, hk => by
    have hne : C ≠ [] := by intro h2; rw [h2] at h; simp at h
    have e := (List.dropLast_concat_getLast hne).symm
    have hl : C.dropLast.length = n := by rw [List.length_dropLast]; omega
    have ih := pow_caps n _ hl (fun c h => hk c (List.dropLast_subset _ h))
    have hb := powF_bd (cap := 1099511627776) (by decide) n _ hl (fun c h => hk c (List.dropLast_subset _ h))
    have h0 := kindN_cases (C.getLast hne).toNat
    have h1 := hk _ (List.getLast_mem hne)
    rw [e, powF_snoc, powF_snoc, ih]
    generalize powF 1099511627776 0 C.dropLast = x at *
    generalize C.getLast hne = c at *
    by_cases hx : x ≤ 1000
    · rw [if_pos hx, if_neg (show ¬ 1099511627776 < 10 * x + ((c.toNat : Int) - 48) by omega)]
      split
      · rw [if_neg (by omega)]
      · rw [if_pos (by omega)]
    · rw [if_neg hx, if_pos (by omega)]
      split
      · rw [if_neg (by omega)]
      · rw [if_neg (by omega)]
def txtN (A : List UInt8) (B : Option (List UInt8)) : Nat := (rFold (A ++ dotL B)).1
def txtP (A : List UInt8) (B : Option (List UInt8)) (ex : Option (UInt8 × List UInt8 × List UInt8)) : Int := (if exDown ex = true then 0 - exPow 1000 ex else exPow 1000 ex) - (rFold (A ++ dotL B)).2.1
def txtV (S A : List UInt8) (B : Option (List UInt8)) (ex : Option (UInt8 × List UInt8 × List UInt8)) : AV := outV (refV (S == [45]) (txtN A B) (txtP A B ex))
theorem M_kinds {A : List UInt8} {B : Option (List UInt8)} (hA : digL A) (hB : digL (B.getD [])) : ∀ b ∈ A ++ dotL B, kindN b.toNat = 0 ∨ kindN b.toNat = 1 := fun b hb => by
  rcases List.mem_append.1 hb with h | h
  · exact .inl (hA b h)
  · cases B with
    | none => exact absurd h (by simp [dotL])
    | some B =>
      rcases List.mem_cons.1 h with rfl | h
      · exact .inr (by decide)
      · exact .inl (hB b h)
theorem c_dparse_txt {S A : List UInt8} {B : Option (List UInt8)} {ex} (h : TxtOK S A B ex) (hl : (txt S A B ex).length ≤ 400) :
    ACalls seat 8 [.str (txt S A B ex)] [] (fun x _ => x = .ret (txtV S A B ex)) := by
  have hk := M_kinds h.hA h.hB
  have hsc := scan_txt h
  rw [scan_eq, addA_zero, List.drop_zero] at hsc
  have h1 : (dfa true 0 (txt S A B ex)).1 = (txt S A B ex).length := congrArg Prod.fst hsc
  have h2 : endsT (dfa true 0 (txt S A B ex)).2 = true := congrArg Prod.snd hsc
  have et : txt S A B ex = (S ++ (A ++ dotL B)) ++ expB ex := by unfold txt; simp only [List.append_assoc]
  have hM2 : ∀ b ∈ S ++ (A ++ dotL B), kindN b.toNat ≠ 2 := fun b hb => by
    rcases List.mem_append.1 hb with hb | hb
    · rcases h.hS with rfl | rfl | rfl
      · cases hb
      · rw [List.mem_singleton.1 hb]; decide
      · rw [List.mem_singleton.1 hb]; decide
    · have := hk b hb; omega
  have cd := c_dparseV (S ++ (A ++ dotL B)) ex hM2 h.hex (by rw [← et]; omega) (by rw [← et]; exact h1) (by rw [← et]; exact h2)
  rw [← et] at cd
  have hr := rd_fold h.hS _ _ rfl hk
  have hlen : (A ++ dotL B).length ≤ 400 ∧ S.length + (A ++ dotL B).length ≤ 400 := by
    unfold txt at hl; rw [List.length_append, List.length_append] at hl; omega
  have hbd := rFold_bd _ _ rfl hk
  have hbd2 := rdM_bd _ (S ++ (A ++ dotL B)) rfl
  rw [List.length_append] at hbd2
  obtain ⟨e1, e2, e3, e4, e5, -, -⟩ := hr
  have hp : 0 ≤ exPow 1099511627776 ex := by
    cases ex with
    | none => simp [exPow]
    | some x => exact (powF_bd (by decide) _ _ rfl h.hex.2.2.2).1
  have hpc : exPow 1000 ex = if exPow 1099511627776 ex ≤ 1000 then exPow 1099511627776 ex else 1000 := by
    cases ex with
    | none => simp [exPow]
    | some x => exact pow_caps _ _ rfl h.hex.2.2.2
  have hv := dec_val (S == [45]) _ e2 e3 _ e4 (rFold (A ++ dotL B)).2.1 (by omega) (by omega) _ _ hp hpc (exDown ex)
  rw [← e5, ← e1] at hv
  rw [hv, e1] at cd
  exact cd
end Go.Proofs.YtinjgnaimmenbaaDoor
namespace Go.Proofs.YtinjgnaimmenbaaDoor
open Go.Abs
def dgB (k : Nat) : UInt8 := UInt8.ofNat (48 + k)
theorem dgB_nat {k : Nat} (h : k < 10) : (dgB k).toNat = 48 + k := by unfold dgB; rw [UInt8.toNat_ofNat']; omega
theorem dgB_kind {k : Nat} (h : k < 10) : kindN (dgB k).toNat = 0 := by
  rw [dgB_nat h]; unfold kindN; rw [if_pos (by omega)]
def decD (n : Nat) : List UInt8 := if n < 10 then [dgB n] else decD (n / 10) ++ [dgB (n % 10)]
termination_by n
decreasing_by omega
theorem decD_lt {n : Nat} (h : n < 10) : decD n = [dgB n] := by rw [decD, if_pos h]
theorem decD_ge {n : Nat} (h : ¬ n < 10) : decD n = decD (n / 10) ++ [dgB (n % 10)] := by rw [decD, if_neg h]
theorem decD_dig : ∀ (n : Nat), digL (decD n) := by
  intro n
  induction n using Nat.strongRecOn with
  | ind n ih =>
    by_cases h : n < 10
    · rw [decD_lt h]; intro b hb; rw [List.mem_singleton.1 hb]; exact dgB_kind h
    · rw [decD_ge h]; intro b hb
      rcases List.mem_append.1 hb with hb | hb
      · exact ih _ (by omega) b hb
      · rw [List.mem_singleton.1 hb]; exact dgB_kind (by omega)
theorem decD_pos (n : Nat) : 0 < (decD n).length := by
  by_cases h : n < 10
  · rw [decD_lt h]; simp
  · rw [decD_ge h]; simp
theorem decD_len : ∀ (k n : Nat), n < 10 ^ (k + 1) → (decD n).length ≤ k + 1
  | 0, n, h => by rw [decD_lt (by simpa using h)]; simp
  | k + 1, n, h => by
    by_cases g : n < 10
    · rw [decD_lt g]; simp
    · rw [decD_ge g]
      have := decD_len k (n / 10) (by rw [Nat.pow_succ] at h; omega)
      simp; omega
def valN (l : List UInt8) : Nat := l.foldl (fun a b => a * 10 + ((b.toNat : Int) - 48).toNat) 0
theorem valN_snoc (l : List UInt8) (b : UInt8) : valN (l ++ [b]) = valN l * 10 + ((b.toNat : Int) - 48).toNat := by unfold valN; rw [List.foldl_append]; rfl
theorem valN_decD : ∀ (n : Nat), valN (decD n) = n := by
  intro n
  induction n using Nat.strongRecOn with
  | ind n ih =>
    by_cases h : n < 10
    · rw [decD_lt h]; unfold valN; simp only [List.foldl_cons, List.foldl_nil]; rw [dgB_nat h]; omega
    · rw [decD_ge h, valN_snoc, ih _ (by omega), dgB_nat (by omega)]; omega
theorem valN_app (l : List UInt8) : ∀ (n : Nat) (m : List UInt8), m.length = n → valN (l ++ m) = valN l * 10 ^ m.length + valN m
  | 0, m, h => by
    obtain rfl := List.length_eq_zero_iff.1 h
    simp [valN]
  | n + 1, m, h => by
    have hne : m ≠ [] := by intro h2; rw [h2] at h; simp at h
    have e := (List.dropLast_concat_getLast hne).symm
    have hl : m.dropLast.length = n := by rw [List.length_dropLast]; omega
    have ih := valN_app l n _ hl
    rw [e, ← List.append_assoc, valN_snoc, valN_snoc, ih, List.length_append, List.length_singleton, Nat.pow_succ, Nat.add_mul, Nat.mul_assoc]
    omega
theorem rFold_dig : ∀ (n : Nat) (l : List UInt8) (N b : Nat) (pt : Bool), l.length = n → digL l → l.foldl rStep (N, b, pt) = (N * 10 ^ n + valN l, if pt = true then b + n else b, pt)
  | 0, l, N, b, pt, h, _ => by
    obtain rfl := List.length_eq_zero_iff.1 h
    cases pt <;> simp [valN]
  | n + 1, l, N, b, pt, h, hk => by
    have hne : l ≠ [] := by intro h2; rw [h2] at h; simp at h
    have e := (List.dropLast_concat_getLast hne).symm
    have hl : l.dropLast.length = n := by rw [List.length_dropLast]; omega
    have ih := rFold_dig n _ N b pt hl (fun c h => hk c (List.dropLast_subset _ h))
    have h1 := hk _ (List.getLast_mem hne)
    rw [e, List.foldl_append, ih, List.foldl_cons, List.foldl_nil, valN_snoc]
    unfold rStep
    rw [if_neg (by omega)]
    simp only [Prod.mk.injEq, and_true]
    refine ⟨by rw [Nat.pow_succ, Nat.add_mul, Nat.mul_assoc]; omega, ?_⟩
    cases pt <;> simp <;> omega
theorem txtN_val {A : List UInt8} {B : Option (List UInt8)} (hA : digL A) (hB : digL (B.getD [])) : txtN A B = valN (A ++ B.getD []) ∧ (rFold (A ++ dotL B)).2.1 = (B.getD []).length := by
  have hr := rFold_dig _ A 0 0 false rfl hA
  unfold txtN rFold
  rw [List.foldl_append, hr]
  cases B with
  | none => simp [dotL]
  | some B =>
    simp only [Option.getD_some] at hB
    simp only [dotL, List.foldl_cons, Option.getD_some]
    rw [show rStep (0 * 10 ^ A.length + valN A, (if false = true then 0 + A.length else 0), false) 46 = (valN A, 0, true) by unfold rStep; rw [if_pos (by decide)]; simp]
    rw [rFold_dig _ B _ _ _ rfl hB, valN_app _ _ _ rfl]
    simp
end Go.Proofs.YtinjgnaimmenbaaDoor
namespace Go.Proofs.YtinjgnaimmenbaaDoor
open Go.Abs
theorem wrap_u32 {n : Int} (h1 : 0 ≤ n) (h2 : n < 4294967296) : IntKind.wrap .u32 n = n := by
  have hb : IntKind.bits .u32 = 32 := rfl
  have hs : IntKind.signed .u32 = false := rfl
  unfold IntKind.wrap
  simp only [hb, hs, Bool.false_and, Bool.false_eq_true, if_false]
  omega
theorem quo_u32 {a b : Int} {k : Int → Prop} (h : 0 ≤ a ∧ 0 < b ∧ a < 4294967296) (hk : k (a / b)) : WrapH .u32 (a.tdiv b) k := by
  refine WrapH.is (a / b) ?_ hk
  rw [Int.tdiv_eq_ediv_of_nonneg h.1]
  have h3 : 0 ≤ a / b := Int.ediv_nonneg h.1 (by omega)
  have h4 : a / b ≤ a := Int.ediv_le_self b h.1
  exact wrap_u32 h3 (by omega)
def smallsL : List UInt8 := [48, 48, 48, 49, 48, 50, 48, 51, 48, 52, 48, 53, 48, 54, 48, 55, 48, 56, 48, 57, 49, 48, 49, 49, 49, 50, 49, 51, 49, 52, 49, 53, 49, 54, 49, 55, 49, 56, 49, 57, 50, 48, 50, 49, 50, 50, 50, 51, 50, 52, 50, 53, 50, 54, 50, 55, 50, 56, 50, 57, 51, 48, 51, 49, 51, 50, 51, 51, 51, 52, 51, 53, 51, 54, 51, 55, 51, 56, 51, 57, 52, 48, 52, 49, 52, 50, 52, 51, 52, 52, 52, 53, 52, 54, 52, 55, 52, 56, 52, 57, 53, 48, 53, 49, 53, 50, 53, 51, 53, 52, 53, 53, 53, 54, 53, 55, 53, 56, 53, 57, 54, 48, 54, 49, 54, 50, 54, 51, 54, 52, 54, 53, 54, 54, 54, 55, 54, 56, 54, 57, 55, 48, 55, 49, 55, 50, 55, 51, 55, 52, 55, 53, 55, 54, 55, 55, 55, 56, 55, 57, 56, 48, 56, 49, 56, 50, 56, 51, 56, 52, 56, 53, 56, 54, 56, 55, 56, 56, 56, 57, 57, 48, 57, 49, 57, 50, 57, 51, 57, 52, 57, 53, 57, 54, 57, 55, 57, 56, 57, 57]
def smB (z : Nat) : UInt8 := if z % 2 = 0 then dgB (z / 2 / 10) else dgB (z / 2 % 10)
theorem small_at (z : Nat) (h : z < 200) : smallsL[z]? = some (smB z) := by
  have : ∀ z, z < 200 → smallsL[z]? = some (smB z) := by decide +kernel
  exact this z h
theorem small_two (k : Nat) (h : k < 100) : (smallsL.drop (k * 2)).take 2 = [dgB (k / 10), dgB (k % 10)] := by
  have : ∀ k, k < 100 → (smallsL.drop (k * 2)).take 2 = [dgB (k / 10), dgB (k % 10)] := by decide +kernel
  exact this k h
def len8L : List UInt8 := [0, 1, 2, 2, 3, 3, 3, 3, 4, 4, 4, 4, 4, 4, 4, 4, 5, 5, 5, 5, 5, 5, 5, 5, 5, 5, 5, 5, 5, 5, 5, 5, 6, 6, 6, 6, 6, 6, 6, 6, 6, 6, 6, 6, 6, 6, 6, 6, 6, 6, 6, 6, 6, 6, 6, 6, 6, 6, 6, 6, 6, 6, 6, 6, 7, 7, 7, 7, 7, 7, 7, 7, 7, 7, 7, 7, 7, 7, 7, 7, 7, 7, 7, 7, 7, 7, 7, 7, 7, 7, 7, 7, 7, 7, 7, 7, 7, 7, 7, 7, 7, 7, 7, 7, 7, 7, 7, 7, 7, 7, 7, 7, 7, 7, 7, 7, 7, 7, 7, 7, 7, 7, 7, 7, 7, 7, 7, 7, 8, 8, 8, 8, 8, 8, 8, 8, 8, 8, 8, 8, 8, 8, 8, 8, 8, 8, 8, 8, 8, 8, 8, 8, 8, 8, 8, 8, 8, 8, 8, 8, 8, 8, 8, 8, 8, 8, 8, 8, 8, 8, 8, 8, 8, 8, 8, 8, 8, 8, 8, 8, 8, 8, 8, 8, 8, 8, 8, 8, 8, 8, 8, 8, 8, 8, 8, 8, 8, 8, 8, 8, 8, 8, 8, 8, 8, 8, 8, 8, 8, 8, 8, 8, 8, 8, 8, 8, 8, 8, 8, 8, 8, 8, 8, 8, 8, 8, 8, 8, 8, 8, 8, 8, 8, 8, 8, 8, 8, 8, 8, 8, 8, 8, 8, 8, 8, 8, 8, 8, 8, 8, 8, 8, 8, 8, 8, 8]
theorem len8_at (z : Nat) (h : 0 < z ∧ z < 256) : ∃ b : UInt8, len8L[z]? = some b ∧ 1 ≤ b.toNat ∧ b.toNat ≤ 8 ∧ 2 ^ (b.toNat - 1) ≤ z ∧ z < 2 ^ b.toNat := by
  have : ∀ z, z < 256 → 0 < z → 1 ≤ (len8L.getD z 0).toNat ∧ (len8L.getD z 0).toNat ≤ 8 ∧ 2 ^ ((len8L.getD z 0).toNat - 1) ≤ z ∧ z < 2 ^ (len8L.getD z 0).toNat := by decide +kernel
  have h2 := this z h.2 h.1
  have hl : z < len8L.length := by rw [show len8L.length = 256 by decide +kernel]; exact h.2
  rw [List.getD_eq_getElem?_getD, List.getElem?_eq_getElem hl] at h2
  exact ⟨len8L[z], List.getElem?_eq_getElem hl, h2⟩
theorem len8_ld {z : Int} {x : Nat} {b : UInt8} (hb : len8L[x]? = some b) (h : z.toNat = x) : len8L[z.toNat]? = some b := by rw [h]; exact hb
theorem small_ld {z : Int} (h : 0 ≤ z ∧ z < 200) : smallsL[z.toNat]? = some (smB z.toNat) := small_at _ (by omega)
theorem len_shift {n off b C : Nat} (hC : C = 2 ^ off) (hb : 1 ≤ b) (h1 : 2 ^ (b - 1) ≤ n / C) (h2 : n / C < 2 ^ b) : 2 ^ (off + b - 1) ≤ n ∧ n < 2 ^ (off + b) := by
  subst hC
  have hp : 0 < 2 ^ off := Nat.pow_pos (by decide)
  constructor
  · have := (Nat.le_div_iff_mul_le hp).1 h1
    rw [show off + b - 1 = (b - 1) + off by omega, Nat.pow_add]; exact this
  · have := (Nat.div_lt_iff_lt_mul hp).1 h2
    rw [Nat.add_comm, Nat.pow_add]; exact this
def powL : List Int := [1, 10, 100, 1000, 10000, 100000, 1000000, 10000000, 100000000, 1000000000, 10000000000, 100000000000, 1000000000000, 10000000000000, 100000000000000, 1000000000000000, 10000000000000000, 100000000000000000, 1000000000000000000, 10000000000000000000]
theorem digs_of {L n : Nat} (hL : 1 ≤ L ∧ L ≤ 60) (h1 : 2 ^ (L - 1) ≤ n) (h2 : n < 2 ^ L) :
    (n < 10 ^ (L * 78913 / 262144) → 1 ≤ L * 78913 / 262144 ∧ 10 ^ (L * 78913 / 262144 - 1) ≤ n) ∧ n < 10 ^ (L * 78913 / 262144 + 1) ∧ L * 78913 / 262144 < 19 := by
  have : ∀ L, L < 61 → 1 ≤ L → (1 ≤ L * 78913 / 262144 → 10 ^ (L * 78913 / 262144 - 1) ≤ 2 ^ (L - 1)) ∧ 2 ^ L ≤ 10 ^ (L * 78913 / 262144 + 1) ∧ L * 78913 / 262144 < 19 := by decide +kernel
  obtain ⟨h3, h4, h5⟩ := this L (by omega) hL.1
  refine ⟨fun h => ?_, Nat.lt_of_lt_of_le h2 h4, h5⟩
  by_cases g : 1 ≤ L * 78913 / 262144
  · exact ⟨g, Nat.le_trans (h3 g) h1⟩
  · have e : L * 78913 / 262144 = 0 := by omega
    rw [e] at h
    have : 0 < 2 ^ (L - 1) := Nat.pow_pos (by decide)
    omega
def decF : Nat → Nat → List UInt8
  | 0, _ => []
  | d + 1, n => decF d (n / 10) ++ [dgB (n % 10)]
theorem decF_eq : ∀ (d n : Nat), (d = 0 ∨ 10 ^ d ≤ n) → n < 10 ^ (d + 1) → decD n = decF (d + 1) n
  | 0, n, _, h => by rw [decD_lt (by omega)]; simp [decF]; rw [Nat.mod_eq_of_lt (by omega)]
  | d + 1, n, h1, h2 => by
    have h3 : 10 ^ (d + 1) ≤ n := by omega
    have hp : 0 < 10 ^ d := Nat.pow_pos (by decide)
    have e1 : 10 ^ (d + 1) = 10 ^ d * 10 := Nat.pow_succ _ _
    have e2 : 10 ^ (d + 1 + 1) = 10 ^ (d + 1) * 10 := Nat.pow_succ _ _
    rw [decD_ge (by omega), decF, decF_eq d (n / 10) (.inr (by omega)) (by omega)]
end Go.Proofs.YtinjgnaimmenbaaDoor
namespace Go.Proofs.YtinjgnaimmenbaaDoor
open Go.Abs
theorem c_len64 (n : Nat) (hn : 0 < n ∧ n < 1000000000000000) : ∃ L : Nat, (1 ≤ L ∧ L ≤ 60) ∧ 2 ^ (L - 1) ≤ n ∧ n < 2 ^ L ∧ ACalls seat 35 [.int .u64 n] [] (fun x _ => x = .ret (.int .i64 L)) := by
  have hr : (n < 256) ∨ (256 ≤ n ∧ n < 65536) ∨ (65536 ≤ n ∧ n < 16777216) ∨ (16777216 ≤ n ∧ n < 4294967296) ∨ (4294967296 ≤ n ∧ n < 1099511627776) ∨ (1099511627776 ≤ n ∧ n < 281474976710656) ∨ (281474976710656 ≤ n ∧ n < 72057594037927936) ∨ (72057594037927936 ≤ n ∧ n < 18446744073709551616) := by omega
  rcases hr with hr | hr | hr | hr | hr | hr | hr | hr
  · obtain ⟨b, hb, h1, h2, h3, h4⟩ := len8_at (n / 1) ⟨by omega, by omega⟩
    have hs := len_shift (n := n) (off := 0) (C := 1) (by decide) h1 h3 h4
    refine ⟨0 + b.toNat, by omega, hs.1, hs.2, ?_⟩
    clear hs h3 h4
    refine ACalls.body seat_ok Tryd.func35 rfl rfl ?_
    conv => whnf
    repeat' (first | exact congrArg (fun z => AEnd.ret (.int .i64 z)) (by omega) | (refine NumH.is _ (fdiv_is (c := 4294967296) rfl (by decide)) ?_; conv => whnf) | (refine NumH.is _ (fdiv_is (c := 65536) rfl (by decide)) ?_; conv => whnf) | (refine NumH.is _ (fdiv_is (c := 256) rfl (by decide)) ?_; conv => whnf) | (refine WrapH.is _ (wrap_u8 (by omega) (by omega)) ?_; conv => whnf) | (refine ldI _ (len8_ld hb (by omega)) ?_; conv => whnf) | (refine Req.mk ⟨by omega, Int.lt_of_lt_of_le (b := 256) (by omega) (by decide +kernel)⟩ ?_; conv => whnf) | ((first | refine zq1 (by omega) ?_ | refine zq2 (by omega) ?_ | refine NumH.rem (by omega) ?_ | refine zq4 (by omega) ?_ | refine zq5 (by omega) ?_ | refine zq6 ?_ | refine Req.mk (by omega) ?_ | refine Req.mk (by dsimp only; omega) ?_ | refine Req.mk (show pendP _ _ by repeat' constructor) ?_ | (with_reducible first | refine brT (by assumption) ?_ | refine brF (by assumption) ?_ | refine brDT (by omega) ?_ | refine brDF (by omega) ?_ | refine brET (by omega) ?_ | refine brEF (by omega) ?_ | refine brNET (by omega) ?_ | refine brNEF (by omega) ?_ | refine brNot ?_)); conv => whnf))
  · obtain ⟨b, hb, h1, h2, h3, h4⟩ := len8_at (n / 256) ⟨by omega, by omega⟩
    have hs := len_shift (n := n) (off := 8) (C := 256) (by decide) h1 h3 h4
    refine ⟨8 + b.toNat, by omega, hs.1, hs.2, ?_⟩
    clear hs h3 h4
    refine ACalls.body seat_ok Tryd.func35 rfl rfl ?_
    conv => whnf
    repeat' (first | exact congrArg (fun z => AEnd.ret (.int .i64 z)) (by omega) | (refine NumH.is _ (fdiv_is (c := 4294967296) rfl (by decide)) ?_; conv => whnf) | (refine NumH.is _ (fdiv_is (c := 65536) rfl (by decide)) ?_; conv => whnf) | (refine NumH.is _ (fdiv_is (c := 256) rfl (by decide)) ?_; conv => whnf) | (refine WrapH.is _ (wrap_u8 (by omega) (by omega)) ?_; conv => whnf) | (refine ldI _ (len8_ld hb (by omega)) ?_; conv => whnf) | (refine Req.mk ⟨by omega, Int.lt_of_lt_of_le (b := 256) (by omega) (by decide +kernel)⟩ ?_; conv => whnf) | ((first | refine zq1 (by omega) ?_ | refine zq2 (by omega) ?_ | refine NumH.rem (by omega) ?_ | refine zq4 (by omega) ?_ | refine zq5 (by omega) ?_ | refine zq6 ?_ | refine Req.mk (by omega) ?_ | refine Req.mk (by dsimp only; omega) ?_ | refine Req.mk (show pendP _ _ by repeat' constructor) ?_ | (with_reducible first | refine brT (by assumption) ?_ | refine brF (by assumption) ?_ | refine brDT (by omega) ?_ | refine brDF (by omega) ?_ | refine brET (by omega) ?_ | refine brEF (by omega) ?_ | refine brNET (by omega) ?_ | refine brNEF (by omega) ?_ | refine brNot ?_)); conv => whnf))
  · obtain ⟨b, hb, h1, h2, h3, h4⟩ := len8_at (n / 65536) ⟨by omega, by omega⟩
    have hs := len_shift (n := n) (off := 16) (C := 65536) (by decide) h1 h3 h4
    refine ⟨16 + b.toNat, by omega, hs.1, hs.2, ?_⟩
    clear hs h3 h4
    refine ACalls.body seat_ok Tryd.func35 rfl rfl ?_
    conv => whnf
    repeat' (first | exact congrArg (fun z => AEnd.ret (.int .i64 z)) (by omega) | (refine NumH.is _ (fdiv_is (c := 4294967296) rfl (by decide)) ?_; conv => whnf) | (refine NumH.is _ (fdiv_is (c := 65536) rfl (by decide)) ?_; conv => whnf) | (refine NumH.is _ (fdiv_is (c := 256) rfl (by decide)) ?_; conv => whnf) | (refine WrapH.is _ (wrap_u8 (by omega) (by omega)) ?_; conv => whnf) | (refine ldI _ (len8_ld hb (by omega)) ?_; conv => whnf) | (refine Req.mk ⟨by omega, Int.lt_of_lt_of_le (b := 256) (by omega) (by decide +kernel)⟩ ?_; conv => whnf) | ((first | refine zq1 (by omega) ?_ | refine zq2 (by omega) ?_ | refine NumH.rem (by omega) ?_ | refine zq4 (by omega) ?_ | refine zq5 (by omega) ?_ | refine zq6 ?_ | refine Req.mk (by omega) ?_ | refine Req.mk (by dsimp only; omega) ?_ | refine Req.mk (show pendP _ _ by repeat' constructor) ?_ | (with_reducible first | refine brT (by assumption) ?_ | refine brF (by assumption) ?_ | refine brDT (by omega) ?_ | refine brDF (by omega) ?_ | refine brET (by omega) ?_ | refine brEF (by omega) ?_ | refine brNET (by omega) ?_ | refine brNEF (by omega) ?_ | refine brNot ?_)); conv => whnf))
  · obtain ⟨b, hb, h1, h2, h3, h4⟩ := len8_at (n / 16777216) ⟨by omega, by omega⟩
    have hs := len_shift (n := n) (off := 24) (C := 16777216) (by decide) h1 h3 h4
    refine ⟨24 + b.toNat, by omega, hs.1, hs.2, ?_⟩
    clear hs h3 h4
    refine ACalls.body seat_ok Tryd.func35 rfl rfl ?_
    conv => whnf
    repeat' (first | exact congrArg (fun z => AEnd.ret (.int .i64 z)) (by omega) | (refine NumH.is _ (fdiv_is (c := 4294967296) rfl (by decide)) ?_; conv => whnf) | (refine NumH.is _ (fdiv_is (c := 65536) rfl (by decide)) ?_; conv => whnf) | (refine NumH.is _ (fdiv_is (c := 256) rfl (by decide)) ?_; conv => whnf) | (refine WrapH.is _ (wrap_u8 (by omega) (by omega)) ?_; conv => whnf) | (refine ldI _ (len8_ld hb (by omega)) ?_; conv => whnf) | (refine Req.mk ⟨by omega, Int.lt_of_lt_of_le (b := 256) (by omega) (by decide +kernel)⟩ ?_; conv => whnf) | ((first | refine zq1 (by omega) ?_ | refine zq2 (by omega) ?_ | refine NumH.rem (by omega) ?_ | refine zq4 (by omega) ?_ | refine zq5 (by omega) ?_ | refine zq6 ?_ | refine Req.mk (by omega) ?_ | refine Req.mk (by dsimp only; omega) ?_ | refine Req.mk (show pendP _ _ by repeat' constructor) ?_ | (with_reducible first | refine brT (by assumption) ?_ | refine brF (by assumption) ?_ | refine brDT (by omega) ?_ | refine brDF (by omega) ?_ | refine brET (by omega) ?_ | refine brEF (by omega) ?_ | refine brNET (by omega) ?_ | refine brNEF (by omega) ?_ | refine brNot ?_)); conv => whnf))
  · obtain ⟨b, hb, h1, h2, h3, h4⟩ := len8_at (n / 4294967296) ⟨by omega, by omega⟩
    have hs := len_shift (n := n) (off := 32) (C := 4294967296) (by decide) h1 h3 h4
    refine ⟨32 + b.toNat, by omega, hs.1, hs.2, ?_⟩
    clear hs h3 h4
    refine ACalls.body seat_ok Tryd.func35 rfl rfl ?_
    conv => whnf
    repeat' (first | exact congrArg (fun z => AEnd.ret (.int .i64 z)) (by omega) | (refine NumH.is _ (fdiv_is (c := 4294967296) rfl (by decide)) ?_; conv => whnf) | (refine NumH.is _ (fdiv_is (c := 65536) rfl (by decide)) ?_; conv => whnf) | (refine NumH.is _ (fdiv_is (c := 256) rfl (by decide)) ?_; conv => whnf) | (refine WrapH.is _ (wrap_u8 (by omega) (by omega)) ?_; conv => whnf) | (refine ldI _ (len8_ld hb (by omega)) ?_; conv => whnf) | (refine Req.mk ⟨by omega, Int.lt_of_lt_of_le (b := 256) (by omega) (by decide +kernel)⟩ ?_; conv => whnf) | ((first | refine zq1 (by omega) ?_ | refine zq2 (by omega) ?_ | refine NumH.rem (by omega) ?_ | refine zq4 (by omega) ?_ | refine zq5 (by omega) ?_ | refine zq6 ?_ | refine Req.mk (by omega) ?_ | refine Req.mk (by dsimp only; omega) ?_ | refine Req.mk (show pendP _ _ by repeat' constructor) ?_ | (with_reducible first | refine brT (by assumption) ?_ | refine brF (by assumption) ?_ | refine brDT (by omega) ?_ | refine brDF (by omega) ?_ | refine brET (by omega) ?_ | refine brEF (by omega) ?_ | refine brNET (by omega) ?_ | refine brNEF (by omega) ?_ | refine brNot ?_)); conv => whnf))
  · obtain ⟨b, hb, h1, h2, h3, h4⟩ := len8_at (n / 1099511627776) ⟨by omega, by omega⟩
    have hs := len_shift (n := n) (off := 40) (C := 1099511627776) (by decide) h1 h3 h4
    refine ⟨40 + b.toNat, by omega, hs.1, hs.2, ?_⟩
    clear hs h3 h4
    refine ACalls.body seat_ok Tryd.func35 rfl rfl ?_
    conv => whnf
    repeat' (first | exact congrArg (fun z => AEnd.ret (.int .i64 z)) (by omega) | (refine NumH.is _ (fdiv_is (c := 4294967296) rfl (by decide)) ?_; conv => whnf) | (refine NumH.is _ (fdiv_is (c := 65536) rfl (by decide)) ?_; conv => whnf) | (refine NumH.is _ (fdiv_is (c := 256) rfl (by decide)) ?_; conv => whnf) | (refine WrapH.is _ (wrap_u8 (by omega) (by omega)) ?_; conv => whnf) | (refine ldI _ (len8_ld hb (by omega)) ?_; conv => whnf) | (refine Req.mk ⟨by omega, Int.lt_of_lt_of_le (b := 256) (by omega) (by decide +kernel)⟩ ?_; conv => whnf) | ((first | refine zq1 (by omega) ?_ | refine zq2 (by omega) ?_ | refine NumH.rem (by omega) ?_ | refine zq4 (by omega) ?_ | refine zq5 (by omega) ?_ | refine zq6 ?_ | refine Req.mk (by omega) ?_ | refine Req.mk (by dsimp only; omega) ?_ | refine Req.mk (show pendP _ _ by repeat' constructor) ?_ | (with_reducible first | refine brT (by assumption) ?_ | refine brF (by assumption) ?_ | refine brDT (by omega) ?_ | refine brDF (by omega) ?_ | refine brET (by omega) ?_ | refine brEF (by omega) ?_ | refine brNET (by omega) ?_ | refine brNEF (by omega) ?_ | refine brNot ?_)); conv => whnf))
  · obtain ⟨b, hb, h1, h2, h3, h4⟩ := len8_at (n / 281474976710656) ⟨by omega, by omega⟩
    have hs := len_shift (n := n) (off := 48) (C := 281474976710656) (by decide) h1 h3 h4
    refine ⟨48 + b.toNat, by omega, hs.1, hs.2, ?_⟩
    clear hs h3 h4
    refine ACalls.body seat_ok Tryd.func35 rfl rfl ?_
    conv => whnf
    repeat' (first | exact congrArg (fun z => AEnd.ret (.int .i64 z)) (by omega) | (refine NumH.is _ (fdiv_is (c := 4294967296) rfl (by decide)) ?_; conv => whnf) | (refine NumH.is _ (fdiv_is (c := 65536) rfl (by decide)) ?_; conv => whnf) | (refine NumH.is _ (fdiv_is (c := 256) rfl (by decide)) ?_; conv => whnf) | (refine WrapH.is _ (wrap_u8 (by omega) (by omega)) ?_; conv => whnf) | (refine ldI _ (len8_ld hb (by omega)) ?_; conv => whnf) | (refine Req.mk ⟨by omega, Int.lt_of_lt_of_le (b := 256) (by omega) (by decide +kernel)⟩ ?_; conv => whnf) | ((first | refine zq1 (by omega) ?_ | refine zq2 (by omega) ?_ | refine NumH.rem (by omega) ?_ | refine zq4 (by omega) ?_ | refine zq5 (by omega) ?_ | refine zq6 ?_ | refine Req.mk (by omega) ?_ | refine Req.mk (by dsimp only; omega) ?_ | refine Req.mk (show pendP _ _ by repeat' constructor) ?_ | (with_reducible first | refine brT (by assumption) ?_ | refine brF (by assumption) ?_ | refine brDT (by omega) ?_ | refine brDF (by omega) ?_ | refine brET (by omega) ?_ | refine brEF (by omega) ?_ | refine brNET (by omega) ?_ | refine brNEF (by omega) ?_ | refine brNot ?_)); conv => whnf))
  · obtain ⟨b, hb, h1, h2, h3, h4⟩ := len8_at (n / 72057594037927936) ⟨by omega, by omega⟩
    have hs := len_shift (n := n) (off := 56) (C := 72057594037927936) (by decide) h1 h3 h4
    refine ⟨56 + b.toNat, by omega, hs.1, hs.2, ?_⟩
    clear hs h3 h4
    refine ACalls.body seat_ok Tryd.func35 rfl rfl ?_
    conv => whnf
    repeat' (first | exact congrArg (fun z => AEnd.ret (.int .i64 z)) (by omega) | (refine NumH.is _ (fdiv_is (c := 4294967296) rfl (by decide)) ?_; conv => whnf) | (refine NumH.is _ (fdiv_is (c := 65536) rfl (by decide)) ?_; conv => whnf) | (refine NumH.is _ (fdiv_is (c := 256) rfl (by decide)) ?_; conv => whnf) | (refine WrapH.is _ (wrap_u8 (by omega) (by omega)) ?_; conv => whnf) | (refine ldI _ (len8_ld hb (by omega)) ?_; conv => whnf) | (refine Req.mk ⟨by omega, Int.lt_of_lt_of_le (b := 256) (by omega) (by decide +kernel)⟩ ?_; conv => whnf) | ((first | refine zq1 (by omega) ?_ | refine zq2 (by omega) ?_ | refine NumH.rem (by omega) ?_ | refine zq4 (by omega) ?_ | refine zq5 (by omega) ?_ | refine zq6 ?_ | refine Req.mk (by omega) ?_ | refine Req.mk (by dsimp only; omega) ?_ | refine Req.mk (show pendP _ _ by repeat' constructor) ?_ | (with_reducible first | refine brT (by assumption) ?_ | refine brF (by assumption) ?_ | refine brDT (by omega) ?_ | refine brDF (by omega) ?_ | refine brET (by omega) ?_ | refine brEF (by omega) ?_ | refine brNET (by omega) ?_ | refine brNEF (by omega) ?_ | refine brNot ?_)); conv => whnf))
theorem dig36 (L : List UInt8) (hL : L = [48, 49, 50, 51, 52, 53, 54, 55, 56, 57, 97, 98, 99, 100, 101, 102, 103, 104, 105, 106, 107, 108, 109, 110, 111, 112, 113, 114, 115, 116, 117, 118, 119, 120, 121, 122]) (k : Nat) (h : k < 10) : (L.drop k).take 1 = [dgB k] := by
  subst hL
  have : ∀ k, k < 10 → (([48, 49, 50, 51, 52, 53, 54, 55, 56, 57, 97, 98, 99, 100, 101, 102, 103, 104, 105, 106, 107, 108, 109, 110, 111, 112, 113, 114, 115, 116, 117, 118, 119, 120, 121, 122] : List UInt8).drop k).take 1 = [dgB k] := by decide +kernel
  exact this k h
theorem c_ismall (k : Nat) (hk : k < 100) : ACalls seat 40 [.int .i64 k] [] (fun x _ => x = .ret (.str (decD k))) := by
  refine ACalls.body seat_ok Tryd.func40 rfl rfl ?_
  by_cases g : k < 10
  · rw [decD_lt g]
    have h2 : ((k : Int) + 1).toNat - (k : Int).toNat = 1 := by omega
    conv => whnf
    repeat' (first | exact (congrArg (fun s => AEnd.ret (.str s)) (by rw [h2]; exact dig36 _ rfl k g)) | (refine Req.mk ⟨by omega, by omega, Int.le_trans (b := 36) (by omega) (by decide +kernel)⟩ ?_; conv => whnf) | ((first | refine zq1 (by omega) ?_ | refine zq2 (by omega) ?_ | refine NumH.rem (by omega) ?_ | refine zq4 (by omega) ?_ | refine zq5 (by omega) ?_ | refine zq6 ?_ | refine Req.mk (by omega) ?_ | refine Req.mk (by dsimp only; omega) ?_ | refine Req.mk (show pendP _ _ by repeat' constructor) ?_ | (with_reducible first | refine brT (by assumption) ?_ | refine brF (by assumption) ?_ | refine brDT (by omega) ?_ | refine brDF (by omega) ?_ | refine brET (by omega) ?_ | refine brEF (by omega) ?_ | refine brNET (by omega) ?_ | refine brNEF (by omega) ?_ | refine brNot ?_)); conv => whnf))
  · rw [decD_ge g, decD_lt (by omega)]
    have h2 : ((k : Int) * 2 + 2).toNat - ((k : Int) * 2).toNat = 2 := by omega
    have h3 : ((k : Int) * 2).toNat = k * 2 := by omega
    conv => whnf
    repeat' (first | exact (congrArg (fun s => AEnd.ret (.str s)) (by rw [h2, h3]; exact small_two k hk)) | (refine Req.mk ⟨by omega, by omega, Int.le_trans (b := 200) (by omega) (by decide +kernel)⟩ ?_; conv => whnf) | ((first | refine zq1 (by omega) ?_ | refine zq2 (by omega) ?_ | refine NumH.rem (by omega) ?_ | refine zq4 (by omega) ?_ | refine zq5 (by omega) ?_ | refine zq6 ?_ | refine Req.mk (by omega) ?_ | refine Req.mk (by dsimp only; omega) ?_ | refine Req.mk (show pendP _ _ by repeat' constructor) ?_ | (with_reducible first | refine brT (by assumption) ?_ | refine brF (by assumption) ?_ | refine brDT (by omega) ?_ | refine brDF (by omega) ?_ | refine brET (by omega) ?_ | refine brEF (by omega) ?_ | refine brNET (by omega) ?_ | refine brNEF (by omega) ?_ | refine brNot ?_)); conv => whnf))
theorem c_log10 (L : Nat) (hL : L ≤ 60) : ACalls seat 44 [.int .i64 L] [] (fun x _ => x = .ret (.int .i64 ((L * 78913 / 262144 : Nat) : Int))) := by
  refine ACalls.body seat_ok Tryd.func44 rfl rfl ?_
  conv => whnf
  repeat' (first | exact congrArg (fun z => AEnd.ret (.int .i64 z)) (by omega) | (refine NumH.is _ (fdiv_is (c := 262144) rfl (by decide)) ?_; conv => whnf) | ((first | refine zq1 (by omega) ?_ | refine zq2 (by omega) ?_ | refine NumH.rem (by omega) ?_ | refine zq4 (by omega) ?_ | refine zq5 (by omega) ?_ | refine zq6 ?_ | refine Req.mk (by omega) ?_ | refine Req.mk (by dsimp only; omega) ?_ | refine Req.mk (show pendP _ _ by repeat' constructor) ?_ | (with_reducible first | refine brT (by assumption) ?_ | refine brF (by assumption) ?_ | refine brDT (by omega) ?_ | refine brDF (by omega) ?_ | refine brET (by omega) ?_ | refine brEF (by omega) ?_ | refine brNET (by omega) ?_ | refine brNEF (by omega) ?_ | refine brNot ?_)); conv => whnf))
theorem c_bool2 (b : Bool) : ACalls seat 45 [.bool b] [] (fun x _ => x = .ret (.int .i64 (if b = true then 1 else 0))) := by
  refine ACalls.body seat_ok Tryd.func45 rfl rfl ?_
  cases b
  · conv => whnf
    exact rfl
  · conv => whnf
    exact rfl
end Go.Proofs.YtinjgnaimmenbaaDoor
