/- Definitions and lemmas for the law, part 7. No condition beyond those in each statement. -/
import Derived.Test.YteicdddheaajlaaDoorT6
set_option linter.unusedSimpArgs false
set_option linter.unusedVariables false
set_option linter.deprecated false
namespace Go.Proofs.YteicdddheaajlaaDoor
open Go.Abs
def nmV (bl : Bool) (d : List Int) (p : Int) : AV := .agg [.bool bl, .vec (ci .u8 d) d.length none, .int .i64 p]
theorem nmV_closed (bl : Bool) (d : List Int) (p : Int) : Closed (nmV bl d p) := by simp [nmV, Closed, ClosedL, ci_closed]
def digZ (d : List Int) (p i : Int) : Int := if p + i - 1 < 0 ∨ d.length ≤ p + i - 1 then 0 else d[(p + i - 1).toNat]?.getD 0
theorem digZ_bd {d : List Int} (hd : ∀ x ∈ d, 0 ≤ x ∧ x ≤ 9) (p i : Int) : 0 ≤ digZ d p i ∧ digZ d p i ≤ 9 := by
  unfold digZ
  split
  · omega
  · rename_i h
    obtain ⟨x, hx⟩ : ∃ x, d[(p + i - 1).toNat]? = some x := ⟨_, List.getElem?_eq_getElem (by omega)⟩
    rw [hx]; exact hd x (List.mem_of_getElem? hx)
theorem c_digit (bl : Bool) (d : List Int) (p i : Int) (hd : ∀ x ∈ d, 0 ≤ x ∧ x ≤ 9) (hp : -4000000000000000000 ≤ p ∧ p ≤ 4000000000000000000) (hi : -100 ≤ i ∧ i ≤ 100) : ACalls seat 94 [nmV bl d p, .int .i64 i] [] (fun x _ => x = .ret (.int .u64 (digZ d p i))) := by
  refine ACalls.body seat_ok Tryd.func94 rfl rfl ?_
  unfold digZ
  by_cases g1 : p + i - 1 < 0
  · rw [if_pos (.inl g1)]
    conv => whnf
    repeat' ((first | refine zs (by omega) ?_ | refine zq6 ?_ | refine zs (by dsimp only; omega) ?_ | refine zs (show pendP _ _ by repeat' constructor) ?_ | (with_reducible first | refine brT ‹_› ?_ | refine brF ‹_› ?_ | refine zt (by omega) ?_ | refine zf (by omega) ?_ | refine brNot ?_)); conv => whnf)
    rfl
  · by_cases g2 : (d.length : Int) ≤ p + i - 1
    · rw [if_pos (.inr g2)]
      conv => whnf
      repeat' ((first | refine zs (by omega) ?_ | refine zq6 ?_ | refine zs (by dsimp only; omega) ?_ | refine zs (show pendP _ _ by repeat' constructor) ?_ | (with_reducible first | refine brT ‹_› ?_ | refine brF ‹_› ?_ | refine zt (by omega) ?_ | refine zf (by omega) ?_ | refine brNot ?_)); conv => whnf)
      rfl
    · rw [if_neg (by omega)]
      obtain ⟨x, hx⟩ : ∃ x, d[(p + i - 1).toNat]? = some x := ⟨_, List.getElem?_eq_getElem (by omega)⟩
      have hb := hd x (List.mem_of_getElem? hx)
      rw [hx]
      conv => whnf
      repeat' (first | exact rfl | (refine ldI _ (ci_sub .u8 hx) ?_; conv => whnf) | ((first | refine zs (by omega) ?_ | refine zq6 ?_ | refine zs (by dsimp only; omega) ?_ | refine zs (show pendP _ _ by repeat' constructor) ?_ | (with_reducible first | refine brT ‹_› ?_ | refine brF ‹_› ?_ | refine zt (by omega) ?_ | refine zf (by omega) ?_ | refine brNot ?_)); conv => whnf))
def accZ (d : List Int) (p a : Int) : Nat → Int
  | 0 => 0
  | n + 1 => 10 * accZ d p a n + digZ d p (a + n)
theorem accZ_bd {d : List Int} (hd : ∀ x ∈ d, 0 ≤ x ∧ x ≤ 9) (p a : Int) : ∀ n : Nat, 0 ≤ accZ d p a n ∧ accZ d p a n < 10 ^ n
  | 0 => by simp [accZ]
  | n + 1 => by
    have := accZ_bd hd p a n
    have h2 := digZ_bd hd p (a + n)
    rw [Int.pow_succ]
    simp only [accZ]
    omega
theorem accZ17 {d : List Int} (hd : ∀ x ∈ d, 0 ≤ x ∧ x ≤ 9) (p a : Int) {n : Nat} (hn : n ≤ 17) : 0 ≤ accZ d p a n ∧ accZ d p a n < 100000000000000000 := by
  have h := accZ_bd hd p a n
  have h2 : (10 : Nat) ^ n ≤ 10 ^ 17 := Nat.pow_le_pow_right (by decide) hn
  have h3 : ((10 : Int) ^ n) = ((10 ^ n : Nat) : Int) := by rw [Int.natCast_pow]; rfl
  have h4 : ((10 : Nat) ^ 17) = 100000000000000000 := by decide
  omega
def moreB (d : List Int) (p : Int) : Bool := decide (0 < d.length) && decide (p + 17 < d.length)
def rndZ (bl more : Bool) (b : Int) : Int := if b * 65536 % 100000000000000000 > 50000000000000000 ∨ (b * 65536 % 100000000000000000 = 50000000000000000 ∧ (more = true ∨ bl = false)) then 1 else 0
def vZ (bl : Bool) (d : List Int) (p : Int) : Int := accZ d p (-4) 5 * 65536 + accZ d p 1 17 * 65536 / 100000000000000000 + rndZ bl (moreB d p) (accZ d p 1 17)
def decR (bl : Bool) (d : List Int) (p : Int) : AV := if p > 5 ∧ 0 < d.length then .tup [.int .i64 0, .int .i64 2] else if vZ bl d p ≥ 4294967296 then .tup [.int .i64 0, .int .i64 2] else if bl = true then .tup [.int .i64 (0 - vZ bl d p), .int .i64 0] else .tup [.int .i64 (vZ bl d p), .int .i64 0]
end Go.Proofs.YteicdddheaajlaaDoor
namespace Go.Proofs.YteicdddheaajlaaDoor
open Go.Abs
theorem lenZ (m : Nat) : decide (((dig m).length : Int) > 0) = decide (0 < m) := by
  by_cases h : m = 0
  · subst h; simp [dig_zero]
  · rw [dig_pos h]; simp; omega
set_option maxRecDepth 20000 in
set_option maxHeartbeats 1000000 in
theorem c_plain02 (s : Bool) (m : Nat) (hm : 9223372036854775808 ≤ m) (hlm : (dig m).length ≤ 100000) : ACalls seat 82 [nv s m] [] (fun x _ => x = .ret (if s = true ∧ m = 9223372036854775808 then .tup [.int .i64 (-9223372036854775808), .bool true] else .tup [.int .i64 0, .bool false])) := by
  refine ACalls.body seat_ok Tryd.func82 rfl rfl ?_
  unfold nv
  by_cases hl : (dig m).length ≤ 4
  · have hD := dig_Dg m
    have hdv := dv_drop m
    have hend := dv_dig m
    conv => whnf
    repeat' ((first | refine zs (by omega) ?_ | refine zq6 ?_ | refine zs (by dsimp only; omega) ?_ | refine zs (show pendP _ _ by repeat' constructor) ?_ | (with_reducible first | refine brT ‹_› ?_ | refine brF ‹_› ?_ | refine zt (by omega) ?_ | refine zf (by omega) ?_ | refine brNot ?_)); conv => whnf)
    refine Sat.cut (fun x t h => (x = .exit 0 ∧ (∃ z : Int, (m = 9223372036854775808 ∧ z = -9223372036854775808) ∧ t = (uu::.ptr 0 0::uu::uu::.int .i64 z::uu::uu::uu::uu::uu::uu::uu::uu::uu::uu::uu::uu::uu::uu::uu::uu::uu::uu::uu::uu::uu::uu::uu::uu::uu::uu::uu::uu::uu::uu::uu::uu::uu::uu::uu::uu::uu::uu::uu::[])) ∧ h = [.var [.bool s, lv (dig m)] 123]) ∨ (x = .ret ∧ m ≠ 9223372036854775808 ∧ t = (uu::uu::.int .i64 0::.bool false::uu::uu::uu::uu::uu::uu::uu::uu::uu::uu::uu::uu::uu::uu::uu::uu::uu::uu::uu::uu::uu::uu::uu::uu::uu::uu::uu::uu::uu::uu::uu::uu::uu::uu::uu::uu::uu::uu::uu::uu::[]))) ?_ ?_
    · refine Sat.invP seat_ok seat_g (maskOf 44 [1, 4, 5]) 1 (fun μ t h => ∃ (j : Nat) (z : Int), j ≤ (dig m).length ∧ μ = j ∧ z = -dv ((dig m).drop j) ∧ dv ((dig m).drop j) ≤ 9223372036854775808 ∧ t = (uu::.ptr 0 0::uu::uu::.int .i64 z::.int .i64 ((j : Int) - 1)::uu::uu::uu::uu::uu::uu::uu::uu::uu::uu::uu::uu::uu::uu::uu::uu::uu::uu::uu::uu::uu::uu::uu::uu::uu::uu::uu::uu::uu::uu::uu::uu::uu::uu::uu::uu::uu::uu::[]) ∧ h = [.var [.bool s, lv (dig m)] 123])
        ?_ ⟨(dig m).length, _, WeakL.of_eq ?_, _, 0, Nat.le_refl _, rfl, ?_, ?_, rfl, rfl⟩ ?_
      · rintro _ _ _ ⟨j, z, -, -, -, -, rfl, rfl⟩
        exact ⟨rfl, (by simp [IdsL, Ids, IdsH, IdsC, lv_ids, ci_ids]), (by simp [IdsL, Ids, IdsH, IdsC, lv_ids, ci_ids])⟩
      · rfl
      · rw [List.drop_length]; rfl
      · rw [List.drop_length]; decide
      rintro j _ _ ⟨_, z, hj, rfl, hz, hzb, rfl, rfl⟩
      cases j with
      | zero =>
        rw [List.drop_zero, hend] at hz hzb
        conv => whnf
        repeat' ((first | refine zs (by omega) ?_ | refine zq6 ?_ | refine zs (by dsimp only; omega) ?_ | refine zs (show pendP _ _ by repeat' constructor) ?_ | (with_reducible first | refine brT ‹_› ?_ | refine brF ‹_› ?_ | refine zt (by omega) ?_ | refine zf (by omega) ?_ | refine brNot ?_)); conv => whnf)
        exact ⟨_, keepT_weak (maskOf 44 [1, 4]) _, .inl ⟨rfl, ⟨z, by omega, rfl⟩, rfl⟩⟩
      | succ j =>
        obtain ⟨x, hx⟩ : ∃ x, (dig m)[j]? = some x := ⟨_, List.getElem?_eq_getElem (by omega)⟩
        have hxb := hD x (List.mem_of_getElem? hx)
        have hdr := drop_cons' hx
        have h1 := hdv (j + 1)
        have h2 := hdv j
        have h3 : m / 65536 ^ j ≤ m := Nat.div_le_self _ _
        have hds : dv ((dig m).drop j) = x + 65536 * dv ((dig m).drop (j + 1)) := by rw [hdr]; rfl
        have hv0 : 0 ≤ dv ((dig m).drop (j + 1)) := by rw [h1]; exact Int.natCast_nonneg _
        have h4 : dv ((dig m).drop j) ≤ m := by omega
        clear h1 h2 h3 hdv hdr
        generalize dv ((dig m).drop (j + 1)) = V at *
        have ej : ((j + 1 : Nat) : Int) - 1 = j := by omega
        rw [ej]
        by_cases g1 : z < -140737488355328
        · conv => whnf
          repeat' ((first | refine zs (by omega) ?_ | refine zq6 ?_ | refine zs (by dsimp only; omega) ?_ | refine zs (show pendP _ _ by repeat' constructor) ?_ | (with_reducible first | refine brT ‹_› ?_ | refine brF ‹_› ?_ | refine zt (by omega) ?_ | refine zf (by omega) ?_ | refine brNot ?_)); conv => whnf)
          exact ⟨_, keepT_weak (maskOf 44 [2, 3]) _, .inr ⟨rfl, by omega, rfl⟩⟩
        · by_cases g2 : z * 65536 < -9223372036854775808 + x
          · conv => whnf
            repeat' (first | exact ⟨_, keepT_weak (maskOf 44 [2, 3]) _, .inr ⟨rfl, by omega, rfl⟩⟩ | (refine ldI _ (ci_sub .i64 hx) ?_; conv => whnf) | ((first | refine zs (by omega) ?_ | refine zq6 ?_ | refine zs (by dsimp only; omega) ?_ | refine zs (show pendP _ _ by repeat' constructor) ?_ | (with_reducible first | refine brT ‹_› ?_ | refine brF ‹_› ?_ | refine zt (by omega) ?_ | refine zf (by omega) ?_ | refine brNot ?_)); conv => whnf))
          · conv => whnf
            repeat' (first | exact ⟨_, _, Nat.lt_succ_self j, WeakL.of_eq rfl, j, z * 65536 - x, by omega, rfl, by omega, by omega, rfl, rfl⟩ | (refine ldI _ (ci_sub .i64 hx) ?_; conv => whnf) | ((first | refine zs (by omega) ?_ | refine zq6 ?_ | refine zs (by dsimp only; omega) ?_ | refine zs (show pendP _ _ by repeat' constructor) ?_ | (with_reducible first | refine brT ‹_› ?_ | refine brF ‹_› ?_ | refine zt (by omega) ?_ | refine zf (by omega) ?_ | refine brNot ?_)); conv => whnf))
    · rintro _ _ _ (⟨rfl, ⟨z, ⟨hm2, hz⟩, rfl⟩, rfl⟩ | ⟨rfl, hm2, rfl⟩)
      · cases s with
        | true =>
          rw [if_pos ⟨rfl, hm2⟩]
          subst hz
          conv => whnf
          rfl
        | false =>
          rw [if_neg (by rintro ⟨h, -⟩; cases h)]
          conv => whnf
          repeat' ((first | refine zs (by omega) ?_ | refine zq6 ?_ | refine zs (by dsimp only; omega) ?_ | refine zs (show pendP _ _ by repeat' constructor) ?_ | (with_reducible first | refine brT ‹_› ?_ | refine brF ‹_› ?_ | refine zt (by omega) ?_ | refine zf (by omega) ?_ | refine brNot ?_)); conv => whnf)
          rfl
      · rw [if_neg (fun h => hm2 h.2)]
        conv => whnf
        rfl
  · have hm2 : m ≠ 9223372036854775808 := fun h => hl (by rw [h]; exact dig_length_lt (by decide))
    rw [if_neg (fun h => hm2 h.2)]
    conv => whnf
    repeat' ((first | refine zs (by omega) ?_ | refine zq6 ?_ | refine zs (by dsimp only; omega) ?_ | refine zs (show pendP _ _ by repeat' constructor) ?_ | (with_reducible first | refine brT ‹_› ?_ | refine brF ‹_› ?_ | refine zt (by omega) ?_ | refine zf (by omega) ?_ | refine brNot ?_)); conv => whnf)
    rfl
def outV (n : Int) : AV := if 4294967296 ≤ n ∨ n ≤ -4294967296 then .tup [.int .i64 0, .int .i64 2] else .tup [.int .i64 n, .int .i64 0]
def upM (N : Nat) (P : Int) : Nat := N * 65536 * 10 ^ P.toNat
def dnM (P : Int) : Nat := 10 ^ (0 - P).toNat
def refV (bl : Bool) (N : Nat) (P : Int) : Int := sg (nearM (bl && decide (0 < upM N P)) (upM N P) (dnM P)).1 (nearM (bl && decide (0 < upM N P)) (upM N P) (dnM P)).2
theorem ten_le2 {n e : Nat} (h : 4 * n ≤ e) : 10 ^ n ≤ 2 ^ e :=
  calc 10 ^ n ≤ 16 ^ n := Nat.pow_le_pow_left (by decide) n
    _ = 2 ^ (4 * n) := by rw [Nat.pow_mul]
    _ ≤ 2 ^ e := Nat.pow_le_pow_right (by decide) h
theorem nearM_bd (s : Bool) (m C : Nat) : (nearM s m C).2 ≤ 2 * m + C + 1 := by
  have h1 : ∀ (s : Bool) (m C : Nat), flrQ s m C ≤ m + 1 := fun s m C => by
    have := Nat.div_le_self m C
    unfold flrQ; split <;> omega
  have h2 : ∀ s : Bool, addM s (2 * m) false C ≤ 2 * m + C := fun s => by unfold addM; split <;> (try split) <;> omega
  exact Nat.le_trans (h1 _ _ _) (by have := h2 s; omega)
theorem c_rparseE (s : List UInt8) (hl : s.length ≤ 400) (h : ¬ ((scR true s 0).2 = true ∧ (scR true s 0).1 = s.length)) : ACalls seat 71 [.str s] [] (fun x _ => x = .ret (.tup [.int .i64 0, .int .i64 3])) := by
  have c1 : ACalls seat 70 [.str s, .int .i64 0, .bool true] [] (fun x _ => x = .ret (.tup [.int .i64 ((scR true s 0).1 : Nat), .bool (scR true s 0).2])) := c_rscan s 0 true (by omega) (by omega)
  refine ACalls.body seat_ok Tryd.func71 rfl rfl ?_
  generalize scR true s 0 = r at *
  obtain ⟨p, b⟩ := r
  simp only at c1 h
  cases b with
  | false =>
    conv => whnf
    repeat' (first | rfl | (refine lf seat_g c1 ?_; conv => whnf) | ((first | refine zs (by omega) ?_ | refine zq6 ?_ | refine zs (by dsimp only; omega) ?_ | refine zs (show pendP _ _ by repeat' constructor) ?_ | (with_reducible first | refine brT ‹_› ?_ | refine brF ‹_› ?_ | refine zt (by omega) ?_ | refine zf (by omega) ?_ | refine brNot ?_)); conv => whnf))
  | true =>
    have g : (p : Int) ≠ s.length := fun e => h ⟨rfl, by omega⟩
    conv => whnf
    repeat' (first | rfl | (refine lf seat_g c1 ?_; conv => whnf) | ((first | refine zs (by omega) ?_ | refine zq6 ?_ | refine zs (by dsimp only; omega) ?_ | refine zs (show pendP _ _ by repeat' constructor) ?_ | (with_reducible first | refine brT ‹_› ?_ | refine brF ‹_› ?_ | refine zt (by omega) ?_ | refine zf (by omega) ?_ | refine brNot ?_)); conv => whnf))
end Go.Proofs.YteicdddheaajlaaDoor
namespace Go.Proofs.YteicdddheaajlaaDoor
open Go.Abs
def preN (d : List Int) : Nat → Int
  | 0 => 0
  | k + 1 => 10 * preN d k + (d[k]?.getD 0)
theorem preN_nil : ∀ k, preN [] k = 0
  | 0 => rfl
  | k + 1 => by simp [preN, preN_nil k]
theorem accZ_pre (d : List Int) (p a : Int) : ∀ n : Nat, accZ d p a n = preN d (p + a - 1 + n).toNat - 10 ^ n * preN d (p + a - 1).toNat
  | 0 => by simp [accZ]
  | n + 1 => by
    rw [accZ, accZ_pre d p a n, Int.pow_succ]
    unfold digZ
    by_cases h : p + (a + n) - 1 < 0
    · rw [if_pos (.inl h), show (p + a - 1 + ((n + 1 : Nat) : Int)).toNat = 0 by omega, show (p + a - 1 + (n : Int)).toNat = 0 by omega, show (p + a - 1).toNat = 0 by omega]
      simp [preN]
    · have e : (p + a - 1 + ((n + 1 : Nat) : Int)).toNat = (p + a - 1 + (n : Int)).toNat + 1 := by omega
      have e2 : (p + (a + (n : Int)) - 1).toNat = (p + a - 1 + (n : Int)).toNat := by omega
      rw [e, preN]
      have hx : (if p + (a + (n : Int)) - 1 < 0 ∨ (d.length : Int) ≤ p + (a + n) - 1 then (0 : Int) else d[(p + (a + (n : Int)) - 1).toNat]?.getD 0) = d[(p + a - 1 + (n : Int)).toNat]?.getD 0 := by
        by_cases h2 : (d.length : Int) ≤ p + (a + n) - 1
        · rw [if_pos (.inr h2), List.getElem?_eq_none (by omega)]; rfl
        · rw [if_neg (by omega), e2]
      rw [hx]
      generalize preN d (p + a - 1 + (n : Int)).toNat = x
      generalize preN d (p + a - 1).toNat = y
      generalize d[(p + a - 1 + (n : Int)).toNat]?.getD 0 = z
      generalize (10 : Int) ^ n = t
      have : t * 10 * y = 10 * (t * y) := by rw [Int.mul_comm t 10, Int.mul_assoc]
      omega
theorem preN_ge (d : List Int) (k : Nat) : preN d (d.length + k) = preN d d.length * 10 ^ k := by
  induction k with
  | zero => simp
  | succ k ih =>
    rw [← Nat.add_assoc, preN, ih, List.getElem?_eq_none (by omega), Int.pow_succ]
    simp only [Option.getD_none, Int.add_zero]
    rw [Int.mul_left_comm, Int.mul_comm 10 (10 ^ k)]
theorem preN_nonneg {d : List Int} (hd : ∀ x ∈ d, 0 ≤ x ∧ x ≤ 9) : ∀ k, 0 ≤ preN d k
  | 0 => by simp [preN]
  | k + 1 => by
    have := preN_nonneg hd k
    have h2 : 0 ≤ d[k]?.getD 0 := by
      cases h : d[k]? with
      | none => simp
      | some x => exact (hd x (List.mem_of_getElem? h)).1
    unfold preN; omega
theorem preN_rest {d : List Int} (hd : ∀ x ∈ d, 0 ≤ x ∧ x ≤ 9) (k : Nat) : ∀ j : Nat, preN d k * 10 ^ j ≤ preN d (k + j) ∧ preN d (k + j) < (preN d k + 1) * 10 ^ j
  | 0 => by simp; omega
  | j + 1 => by
    have ⟨h1, h2⟩ := preN_rest hd k j
    have h3 : 0 ≤ d[k + j]?.getD 0 ∧ d[k + j]?.getD 0 ≤ 9 := by
      cases h : d[k + j]? with
      | none => simp
      | some x => exact hd x (List.mem_of_getElem? h)
    rw [← Nat.add_assoc, preN, Int.pow_succ, ← Int.mul_assoc, ← Int.mul_assoc]
    omega
theorem preN_last {d : List Int} (hd : ∀ x ∈ d, 0 ≤ x ∧ x ≤ 9) {x : Int} (hx : 0 < x) (hd2 : ∀ y ∈ d ++ [x], 0 ≤ y ∧ y ≤ 9) {k : Nat} (hk : k ≤ d.length) : preN (d ++ [x]) k * 10 ^ (d.length + 1 - k) < preN (d ++ [x]) (d.length + 1) := by
  have h1 := (preN_rest hd2 k (d.length - k)).1
  rw [show k + (d.length - k) = d.length by omega] at h1
  rw [show d.length + 1 - k = d.length - k + 1 by omega, Int.pow_succ, ← Int.mul_assoc, preN, List.getElem?_append_right (Nat.le_refl _), Nat.sub_self]
  simp only [List.getElem?_cons_zero, Option.getD_some]
  omega
theorem preN_app (d e : List Int) : ∀ k, k ≤ d.length → preN (d ++ e) k = preN d k
  | 0, _ => rfl
  | k + 1, h => by rw [preN, preN, preN_app d e k (by omega), List.getElem?_append_left (by omega)]
def valD (d : List Int) : Int := preN d d.length
theorem valD_snoc (d : List Int) (x : Int) : valD (d ++ [x]) = 10 * valD d + x := by
  unfold valD
  rw [List.length_append, List.length_singleton, preN, preN_app d [x] d.length (Nat.le_refl _), List.getElem?_append_right (Nat.le_refl _), Nat.sub_self]
  simp
theorem valD_strip : ∀ (n : Nat) (d : List Int), d.length = n → valD d = valD (stripL d) * 10 ^ (d.length - (stripL d).length) ∧ (stripL d).length ≤ d.length
  | 0, d, h => by
    obtain rfl := List.length_eq_zero_iff.1 h
    simp [stripL, valD, preN]
  | n + 1, d, h => by
    have hne : d ≠ [] := by intro h2; rw [h2] at h; simp at h
    have e := (List.dropLast_concat_getLast hne).symm
    have hl : d.dropLast.length = n := by rw [List.length_dropLast]; omega
    have ih := valD_strip n _ hl
    generalize d.getLast hne = x at *
    generalize d.dropLast = d' at *
    rw [e, stripL_last, valD_snoc]
    by_cases hx : x = 0
    · rw [if_pos hx, ih.1, List.length_append, List.length_singleton, show d'.length + 1 - (stripL d').length = d'.length - (stripL d').length + 1 by omega, Int.pow_succ, hx, ← Int.mul_assoc]
      exact ⟨by rw [Int.add_zero, Int.mul_comm 10, Int.mul_assoc, Int.mul_comm 10 (10 ^ _)], by omega⟩
    · rw [if_neg hx, valD_snoc]
      simp
theorem stripL_end : ∀ (n : Nat) (d : List Int), d.length = n → stripL d = [] ∨ ∃ d' x, stripL d = d' ++ [x] ∧ x ≠ 0
  | 0, d, h => by
    obtain rfl := List.length_eq_zero_iff.1 h
    exact .inl rfl
  | n + 1, d, h => by
    have hne : d ≠ [] := by intro h2; rw [h2] at h; simp at h
    have e := (List.dropLast_concat_getLast hne).symm
    have hl : d.dropLast.length = n := by rw [List.length_dropLast]; omega
    have ih := stripL_end n _ hl
    rw [e, stripL_last]
    by_cases hx : d.getLast hne = 0
    · rw [if_pos hx]; exact ih
    · rw [if_neg hx]; exact .inr ⟨_, _, rfl, hx⟩
theorem ediv_is {a b z : Int} (hb : 0 < b) (h1 : z * b ≤ a) (h2 : a < (z + 1) * b) : a / b = z :=
  Int.le_antisymm (Int.lt_add_one_iff.1 (Int.ediv_lt_of_lt_mul hb h2)) ((Int.le_ediv_iff_mul_le hb).2 h1)
def rndW (bl e : Bool) (r : Int) : Int := if r > 762939453125 ∨ (r = 762939453125 ∧ (e = true ∨ bl = false)) then 1 else 0
theorem near_of (bl : Bool) (U D : Nat) (W : Int) (ρ : Int) (e : Bool) (hD : 0 < D) (hρ : 0 ≤ ρ ∧ ρ < D) (he : e = true ↔ 0 < ρ) (hU : (U : Int) * 1525878906250 = W * D + ρ) :
    sg (nearM bl U D).1 (nearM bl U D).2 = if bl = true then 0 - (W / 1525878906250 + rndW bl e (W % 1525878906250)) else W / 1525878906250 + rndW bl e (W % 1525878906250) := by
  rw [nearM_spec bl U D hD]
  have hW := Int.emod_add_mul_ediv W 1525878906250
  have hr0 := Int.emod_nonneg W (b := 1525878906250) (by decide)
  have hr1 := Int.emod_lt_of_pos W (b := 1525878906250) (by decide)
  generalize W / 1525878906250 = q at *
  generalize W % 1525878906250 = r at *
  have hWD : W * (D : Int) = r * D + 1525878906250 * (q * D) := by rw [← hW, Int.add_mul, Int.mul_assoc]
  have hD' : (0 : Int) < D := by omega
  have g1 : ∀ c : Int, c ≤ r → c * D ≤ r * D := fun c h => Int.mul_le_mul_of_nonneg_right h (by omega)
  have g2 : ∀ c : Int, r ≤ c → r * D ≤ c * D := fun c h => Int.mul_le_mul_of_nonneg_right h (by omega)
  have a1 := g1 762939453125
  have a2 := g1 762939453126
  have a3 := g2 762939453124
  have a4 := g2 762939453125
  have a5 := g1 0 hr0
  have a6 := g2 1525878906249 (by omega)
  have e1 : (q + 1) * (2 * (D : Int)) = 2 * (q * D) + 2 * D := by rw [Int.add_mul, Int.one_mul, ← Int.mul_assoc, Int.mul_comm q 2, Int.mul_assoc]
  have e0 : q * (2 * (D : Int)) = 2 * (q * D) := by rw [← Int.mul_assoc, Int.mul_comm q 2, Int.mul_assoc]
  have e2 : (q + 1 + 1) * (2 * (D : Int)) = 2 * (q * D) + 4 * D := by rw [Int.add_mul, e1]; omega
  have e3 : (0 - q) * (2 * (D : Int)) = 0 - 2 * (q * D) := by rw [Int.sub_mul, e0]; omega
  have e4 : (0 - q + 1) * (2 * (D : Int)) = 2 * D - 2 * (q * D) := by rw [Int.add_mul, e3]; omega
  have e5 : (0 - (q + 1)) * (2 * (D : Int)) = 0 - 2 * (q * D) - 2 * D := by rw [Int.sub_mul, e1]; omega
  generalize q * (D : Int) = Q at *
  generalize r * (D : Int) = A at *
  clear g1 g2 hW
  have u1 : (U : Int) < Q + D := by omega
  have u0 : Q ≤ (U : Int) := by omega
  unfold rndW
  cases bl with
  | false =>
    rw [if_neg (by decide)]
    simp only [sg, Bool.false_eq_true, if_false]
    by_cases h : r ≥ 762939453125
    · rw [if_pos (by by_cases h' : r = 762939453125; exact .inr ⟨h', .inr trivial⟩; exact .inl (by omega))]
      refine ediv_is (by omega) ?_ ?_
      · rw [e1]; omega
      · rw [e2]; omega
    · rw [if_neg (by omega), Int.add_zero]
      refine ediv_is (by omega) ?_ ?_
      · rw [e0]; omega
      · rw [e1]; omega
  | true =>
    rw [if_pos rfl]
    simp only [sg, if_true]
    by_cases h : r > 762939453125 ∨ (r = 762939453125 ∧ e = true)
    · rw [if_pos (by rcases h with h | h <;> simp [h])]
      refine ediv_is (by omega) ?_ ?_
      · rw [e5]; rcases h with h | ⟨h, h2⟩
        · omega
        · have := he.1 h2; omega
      · rw [show 0 - (q + 1) + 1 = 0 - q by omega, e3]; rcases h with h | ⟨h, h2⟩
        · omega
        · have := he.1 h2; omega
    · rw [if_neg (by simp only [Bool.true_eq_false, or_false]; exact h), Int.add_zero]
      have h2 : r = 762939453125 → ¬ 0 < ρ := fun h1 h3 => h (.inr ⟨h1, he.2 h3⟩)
      refine ediv_is (by omega) ?_ ?_
      · rw [e3]; omega
      · rw [e4]; omega
theorem rndZ_W (bl e : Bool) (F : Int) : rndZ bl e F = rndW bl e (F % 1525878906250) := by
  unfold rndZ rndW
  have : F * 65536 % 100000000000000000 = 65536 * (F % 1525878906250) := by omega
  rw [this]
  congr 1
  apply propext
  constructor
  · rintro (h | ⟨h, h2⟩)
    · exact .inl (by omega)
    · exact .inr ⟨by omega, h2⟩
  · rintro (h | ⟨h, h2⟩)
    · exact .inl (by omega)
    · exact .inr ⟨by omega, h2⟩
theorem vZ_W (bl : Bool) {d : List Int} (p : Int) (hp : p ≤ 5) : vZ bl d p = preN d (p + 17).toNat / 1525878906250 + rndW bl (moreB d p) (preN d (p + 17).toNat % 1525878906250) := by
  unfold vZ
  rw [rndZ_W, accZ_pre, accZ_pre]
  rw [show (p + -4 - 1).toNat = 0 by omega, show (p + -4 - 1 + ((5 : Nat) : Int)).toNat = p.toNat by omega, show (p + 1 - 1 + ((17 : Nat) : Int)).toNat = (p + 17).toNat by omega, show (p + 1 - 1).toNat = p.toNat by omega]
  have h0 : preN d 0 = 0 := rfl
  rw [h0]
  have h17 : (10 : Int) ^ 17 = 100000000000000000 := by decide
  rw [h17]
  generalize preN d (p + 17).toNat = W
  generalize preN d p.toNat = I
  have h1 : (W - 100000000000000000 * I) % 1525878906250 = W % 1525878906250 := by omega
  rw [h1]
  omega
end Go.Proofs.YteicdddheaajlaaDoor
namespace Go.Proofs.YteicdddheaajlaaDoor
open Go.Abs
theorem mul_pow_eq (c : Int) {a b : Nat} (h : a = b) : c * (10 : Int) ^ a = c * 10 ^ b := by rw [h]
theorem up_cast (N : Nat) (P : Int) : (upM N P : Int) * 1525878906250 = N * (10 ^ 17 * 10 ^ P.toNat) := by
  have h : (10 : Int) ^ 17 = 65536 * 1525878906250 := by decide
  unfold upM
  rw [h, Int.natCast_mul, Int.natCast_mul, Int.natCast_pow]
  show (N : Int) * 65536 * (10 : Int) ^ P.toNat * 1525878906250 = _
  generalize (10 : Int) ^ P.toNat = t
  rw [Int.mul_assoc, Int.mul_assoc, Int.mul_comm t, Int.mul_assoc]
theorem val_core (bl : Bool) (ds : List Int) (hd : ∀ x ∈ ds, 0 ≤ x ∧ x ≤ 9) (N : Nat) (hN : (N : Int) = valD ds) (hN1 : 1 ≤ N) (p : Int) (hp : p ≤ 5) :
    refV bl N (p - ds.length) = if bl = true then 0 - vZ bl (stripL ds) p else vZ bl (stripL ds) p := by
  have hU0 : 0 < upM N (p - ds.length) := Nat.mul_pos (Nat.mul_pos hN1 (by decide)) (Nat.pow_pos (by decide))
  have hD0 : 0 < dnM (p - ds.length) := Nat.pow_pos (by decide)
  unfold refV
  rw [decide_eq_true hU0, Bool.and_true, vZ_W bl p hp]
  have hs := valD_strip _ ds rfl
  have hse := stripL_end _ ds rfl
  have hd1 : ∀ x ∈ stripL ds, 0 ≤ x ∧ x ≤ 9 := fun x hx => hd x (by
    have h3 : x ∈ (ds.reverse.dropWhile (· == 0)).reverse := hx
    rw [List.mem_reverse] at h3
    exact List.mem_reverse.1 ((List.dropWhile_sublist _).subset h3))
  generalize stripL ds = d at *
  have hUT := up_cast N (p - ds.length)
  have hDc : (dnM (p - ds.length) : Int) = 10 ^ (0 - (p - ds.length)).toNat := by unfold dnM; rw [Int.natCast_pow]; rfl
  rw [hN, hs.1] at hUT
  generalize upM N (p - ds.length) = U at *
  generalize dnM (p - ds.length) = D at *
  by_cases h : (d.length : Int) ≤ p + 17
  · have hm : moreB d p = false := by unfold moreB; rw [decide_eq_false (show ¬ p + 17 < (d.length : Int) by omega), Bool.and_false]
    have hW : preN d (p + 17).toNat = valD d * 10 ^ ((p + 17).toNat - d.length) := by
      rw [show (p + 17).toNat = d.length + ((p + 17).toNat - d.length) by omega, preN_ge, Nat.add_sub_cancel_left]; rfl
    rw [hm]
    refine near_of bl U D _ 0 false hD0 (by omega) (by simp) ?_
    rw [hUT, hW, hDc, Int.add_zero, Int.mul_assoc, Int.mul_assoc, ← Int.pow_add, ← Int.pow_add, ← Int.pow_add]
    exact mul_pow_eq _ (by omega)
  · rcases hse with rfl | ⟨d', x, rfl, hx⟩
    · exfalso
      rw [hs.1] at hN
      simp [valD, preN] at hN
      omega
    · have hm : moreB (d' ++ [x]) p = true := by unfold moreB; rw [decide_eq_true (show p + 17 < ((d' ++ [x]).length : Int) by omega), Bool.and_true]; simp
      have hl : (d' ++ [x]).length = d'.length + 1 := by simp
      have hx0 : 0 < x := by have := hd1 x (by simp); omega
      have hr := preN_last (fun y hy => hd1 y (by simp [hy])) hx0 hd1 (k := (p + 17).toNat) (by omega)
      have hr2 := (preN_rest hd1 (p + 17).toNat (d'.length + 1 - (p + 17).toNat)).2
      rw [show (p + 17).toNat + (d'.length + 1 - (p + 17).toNat) = d'.length + 1 by omega] at hr2
      have hv : valD (d' ++ [x]) = preN (d' ++ [x]) (d'.length + 1) := by unfold valD; rw [hl]
      rw [hm]
      have hWD : preN (d' ++ [x]) (p + 17).toNat * (D : Int) = preN (d' ++ [x]) (p + 17).toNat * 10 ^ (d'.length + 1 - (p + 17).toNat) * 10 ^ (ds.length - (d'.length + 1) + 17) := by
        by_cases h0 : p + 17 < 0
        · rw [show (p + 17).toNat = 0 by omega]; simp [preN]
        · rw [hDc, Int.mul_assoc, ← Int.pow_add]; exact mul_pow_eq _ (by omega)
      have hP0 : (p - (ds.length : Int)).toNat = 0 := by omega
      rw [hP0, hv, hl, Int.pow_zero, Int.mul_one, Int.mul_assoc, ← Int.pow_add] at hUT
      have hpos : ∀ e : Nat, (0 : Int) < 10 ^ e := fun e => Int.pow_pos (by decide)
      refine near_of bl U D _ ((preN (d' ++ [x]) (d'.length + 1) - preN (d' ++ [x]) (p + 17).toNat * 10 ^ (d'.length + 1 - (p + 17).toNat)) * 10 ^ (ds.length - (d'.length + 1) + 17)) true hD0 ⟨?_, ?_⟩ ⟨fun _ => ?_, fun _ => rfl⟩ ?_
      · exact Int.mul_nonneg (by omega) (Int.le_of_lt (hpos _))
      · have h1 : (preN (d' ++ [x]) (d'.length + 1) - preN (d' ++ [x]) (p + 17).toNat * 10 ^ (d'.length + 1 - (p + 17).toNat)) * 10 ^ (ds.length - (d'.length + 1) + 17) < 10 ^ (d'.length + 1 - (p + 17).toNat) * 10 ^ (ds.length - (d'.length + 1) + 17) :=
          Int.mul_lt_mul_of_pos_right (by rw [Int.add_mul, Int.one_mul] at hr2; omega) (hpos _)
        refine Int.lt_of_lt_of_le h1 ?_
        rw [hDc, ← Int.pow_add]
        have h2 : (10 : Nat) ^ (d'.length + 1 - (p + 17).toNat + (ds.length - (d'.length + 1) + 17)) ≤ 10 ^ (0 - (p - (ds.length : Int))).toNat := Nat.pow_le_pow_right (by decide) (by omega)
        exact_mod_cast h2
      · exact Int.mul_pos (by omega) (hpos _)
      · rw [hWD, Int.sub_mul, hUT]; omega
end Go.Proofs.YteicdddheaajlaaDoor
namespace Go.Proofs.YteicdddheaajlaaDoor
open Go.Abs
theorem outV_big {z : Int} (h : 4294967296 ≤ z ∨ z ≤ -4294967296) : outV z = .tup [.int .i64 0, .int .i64 2] := if_pos h
theorem near_big (bl : Bool) (U D : Nat) (hD : 0 < D) (h : 4294967297 * D ≤ U) : outV (sg (nearM bl U D).1 (nearM bl U D).2) = .tup [.int .i64 0, .int .i64 2] := by
  rw [nearM_spec bl U D hD]
  have hD2 : (0 : Int) < 2 * D := by omega
  cases bl with
  | false =>
    refine outV_big (.inl ((Int.le_ediv_iff_mul_le hD2).2 ?_))
    simp only [sg, Bool.false_eq_true, if_false]; omega
  | true =>
    refine outV_big (.inr (Int.lt_add_one_iff.1 (Int.ediv_lt_of_lt_mul hD2 ?_)))
    simp only [sg, if_true]; omega
theorem near_small (bl : Bool) (U D : Nat) (hD : 0 < D) (h : 2 * U < D) : outV (sg (nearM bl U D).1 (nearM bl U D).2) = .tup [.int .i64 0, .int .i64 0] := by
  rw [nearM_spec bl U D hD]
  have hD2 : (0 : Int) < 2 * D := by omega
  rw [ediv_is (z := 0) hD2 (by cases bl <;> simp [sg] <;> omega) (by cases bl <;> simp [sg] <;> omega)]
  exact if_neg (by decide)
theorem vZ_nn (bl : Bool) {d : List Int} (hd : ∀ x ∈ d, 0 ≤ x ∧ x ≤ 9) (p : Int) (hp : p ≤ 5) : 0 ≤ vZ bl d p := by
  rw [vZ_W bl p hp]
  have h1 : 0 ≤ preN d (p + 17).toNat / 1525878906250 := Int.ediv_nonneg (preN_nonneg hd _) (by decide)
  have h2 : 0 ≤ rndW bl (moreB d p) (preN d (p + 17).toNat % 1525878906250) := by unfold rndW; split <;> decide
  omega
theorem decR_nil (bl : Bool) (p : Int) : decR bl [] p = .tup [.int .i64 0, .int .i64 0] := by
  have h0 : vZ bl [] p = 0 := by
    unfold vZ
    rw [accZ_pre, accZ_pre]
    simp only [preN_nil]
    have : rndZ bl (moreB [] p) (0 - 10 ^ 17 * 0) = 0 := by rw [Int.mul_zero, Int.sub_zero]; exact if_neg (by simp)
    rw [this]
    simp
  unfold decR
  rw [if_neg (by simp), h0, if_neg (by decide)]
  split <;> rfl
theorem stripL_dig {ds : List Int} (hd : ∀ x ∈ ds, 0 ≤ x ∧ x ≤ 9) : ∀ x ∈ stripL ds, 0 ≤ x ∧ x ≤ 9 := fun y hy => hd y (by
  have h3 : y ∈ (ds.reverse.dropWhile (· == 0)).reverse := hy
  rw [List.mem_reverse] at h3
  exact List.mem_reverse.1 ((List.dropWhile_sublist _).subset h3))
theorem dec_val (bl : Bool) (ds : List Int) (hd : ∀ x ∈ ds, 0 ≤ x ∧ x ≤ 9) (hh : ds = [] ∨ ∃ x l, ds = x :: l ∧ 0 < x) (N : Nat) (hN : (N : Int) = valD ds) (b : Nat) (hb : b ≤ 400) (hl : ds.length ≤ 400)
    (pB pR : Int) (h0 : 0 ≤ pB) (hR : pR = if pB ≤ 1000 then pB else 1000) (dn : Bool) :
    decR bl (stripL ds) ((ds.length : Int) - b + if dn = true then 0 - pB else pB) = outV (refV bl N ((if dn = true then 0 - pR else pR) - b)) := by
  rcases hh with rfl | ⟨x, l, rfl, hx⟩
  · have hN0 : N = 0 := by simp [valD, preN] at hN; omega
    rw [show stripL [] = [] from rfl, decR_nil, hN0]
    refine (near_small _ _ _ (Nat.pow_pos (by decide)) ?_).symm
    have : upM 0 ((if dn = true then 0 - pR else pR) - b) = 0 := by unfold upM; simp
    rw [this]
    exact Nat.pow_pos (by decide)
  · have hlo := (preN_rest hd 1 l.length).1
    have hhi := (preN_rest hd 0 (l.length + 1)).2
    have e1 : preN (x :: l) 1 = x := by simp [preN]
    have e0 : preN (x :: l) 0 = 0 := rfl
    have hl1 : (x :: l).length = l.length + 1 := rfl
    have ev : valD (x :: l) = preN (x :: l) (l.length + 1) := rfl
    rw [e1, Nat.add_comm 1, ← ev, ← hN] at hlo
    rw [e0, Nat.zero_add, ← ev, ← hN, Int.zero_add, Int.one_mul] at hhi
    have hlo2 : 10 ^ l.length ≤ N := by
      have h1 : (1 : Int) * 10 ^ l.length ≤ x * 10 ^ l.length := Int.mul_le_mul_of_nonneg_right (by omega) (Int.le_of_lt (Int.pow_pos (by decide)))
      rw [Int.one_mul] at h1
      have h2 : ((10 ^ l.length : Nat) : Int) ≤ N := by rw [Int.natCast_pow]; exact Int.le_trans h1 hlo
      omega
    have hhi2 : N < 10 ^ (l.length + 1) := by
      have h2 : (N : Int) < ((10 ^ (l.length + 1) : Nat) : Int) := by rw [Int.natCast_pow]; exact hhi
      omega
    have hN1 : 1 ≤ N := Nat.le_trans (Nat.pow_pos (by decide)) hlo2
    have hsl : 0 < (stripL (x :: l)).length := by
      apply Nat.pos_of_ne_zero
      intro h
      have h2 := (valD_strip _ (x :: l) rfl).1
      rw [List.length_eq_zero_iff.1 h] at h2
      simp only [valD, List.length_nil, preN, Int.zero_mul] at h2
      unfold valD at hN
      omega
    have hbl : ∀ P, (bl && decide (0 < upM N P)) = bl := fun P => by
      have h : 0 < upM N P := Nat.mul_pos (Nat.mul_pos hN1 (by decide)) (Nat.pow_pos (by decide))
      rw [decide_eq_true h, Bool.and_true]
    clear hlo hhi e1 e0 ev
    have hn : (x :: l).length = l.length + 1 := rfl
    by_cases hp5 : (((x :: l).length : Int) - b + if dn = true then 0 - pB else pB) > 5
    · rw [show decR bl (stripL (x :: l)) (((x :: l).length : Int) - b + if dn = true then 0 - pB else pB) = .tup [.int .i64 0, .int .i64 2] from if_pos ⟨hp5, hsl⟩]
      unfold refV
      rw [hbl]
      refine (near_big bl _ _ (Nat.pow_pos (by decide)) ?_).symm
      obtain ⟨P, hP⟩ : ∃ P, P = (if dn = true then 0 - pR else pR) - (b : Int) := ⟨_, rfl⟩
      rw [← hP]
      have hP6 : 5 < P + (l.length + 1 : Nat) := by
        cases dn with
        | true =>
          simp only [if_true] at hp5 hP
          split at hR <;> omega
        | false =>
          simp only [Bool.false_eq_true, if_false] at hp5 hP
          split at hR <;> omega
      unfold upM
      by_cases hs : 0 ≤ P
      · rw [show (0 - P).toNat = 0 by omega, Nat.pow_zero]
        have h1 : 10 ^ l.length * 10 ^ P.toNat ≤ N * 10 ^ P.toNat := Nat.mul_le_mul_right _ hlo2
        rw [← Nat.pow_add] at h1
        have h2 : 100000 ≤ 10 ^ (l.length + P.toNat) := Nat.le_trans (by decide : 100000 ≤ 10 ^ 5) (Nat.pow_le_pow_right (by decide) (by omega))
        rw [Nat.mul_assoc, Nat.mul_comm 65536, ← Nat.mul_assoc]
        generalize N * 10 ^ P.toNat = A at *
        generalize 10 ^ (l.length + P.toNat) = B at *
        omega
      · rw [show P.toNat = 0 by omega, Nat.pow_zero, Nat.mul_one]
        have h1 : 10 ^ l.length = 10 ^ (l.length - (0 - P).toNat) * 10 ^ (0 - P).toNat := by rw [← Nat.pow_add]; congr 1; omega
        have h2 : 100000 ≤ 10 ^ (l.length - (0 - P).toNat) := Nat.le_trans (by decide : 100000 ≤ 10 ^ 5) (Nat.pow_le_pow_right (by decide) (by omega))
        have h3 := Nat.mul_le_mul_right (10 ^ (0 - P).toNat) h2
        rw [← h1] at h3
        generalize 10 ^ (0 - P).toNat = A at *
        generalize 10 ^ l.length = B at *
        omega
    · by_cases hc : pB ≤ 1000
      · rw [if_pos hc] at hR
        subst hR
        have hd2 := stripL_dig hd
        have hc2 := val_core bl (x :: l) hd N hN hN1 _ (Int.not_lt.1 hp5)
        have hnn := vZ_nn bl hd2 _ (Int.not_lt.1 hp5)
        rw [show ((x :: l).length : Int) - b + (if dn = true then 0 - pR else pR) - ((x :: l).length : Int) = (if dn = true then 0 - pR else pR) - b by omega] at hc2
        rw [hc2]
        generalize hv : vZ bl (stripL (x :: l)) (((x :: l).length : Int) - b + if dn = true then 0 - pR else pR) = v at *
        have hd1 : decR bl (stripL (x :: l)) (((x :: l).length : Int) - b + if dn = true then 0 - pR else pR) = if v ≥ 4294967296 then .tup [.int .i64 0, .int .i64 2] else if bl = true then .tup [.int .i64 (0 - v), .int .i64 0] else .tup [.int .i64 v, .int .i64 0] := by
          unfold decR
          rw [if_neg (fun h => hp5 h.1), hv]
        rw [hd1]
        unfold outV
        by_cases hb : v ≥ 4294967296
        · rw [if_pos hb, if_pos (by cases bl <;> simp <;> omega)]
        · rw [if_neg hb]
          cases bl with
          | true =>
            simp only [if_true]
            rw [if_neg (by omega)]
          | false =>
            simp only [Bool.false_eq_true, if_false]
            rw [if_neg (by omega)]
      · rw [if_neg hc] at hR
        subst hR
        have hdn : dn = true := by
          cases dn with
          | true => rfl
          | false => simp only [Bool.false_eq_true, if_false] at hp5; omega
        subst hdn
        simp only [if_true] at hp5 ⊢
        have hv : vZ bl (stripL (x :: l)) (((x :: l).length : Int) - b + (0 - pB)) = 0 := by
          rw [vZ_W bl _ (by omega), show (((x :: l).length : Int) - b + (0 - pB) + 17).toNat = 0 by omega]
          simp only [preN]
          have : rndW bl (moreB (stripL (x :: l)) (((x :: l).length : Int) - b + (0 - pB))) (0 % 1525878906250) = 0 := if_neg (by simp)
          rw [this]; rfl
        have hd1 : decR bl (stripL (x :: l)) (((x :: l).length : Int) - b + (0 - pB)) = .tup [.int .i64 0, .int .i64 0] := by
          unfold decR
          rw [if_neg (fun h => hp5 h.1), hv, if_neg (by decide)]
          split <;> rfl
        rw [hd1]
        unfold refV
        refine (near_small _ _ _ (Nat.pow_pos (by decide)) ?_).symm
        unfold upM
        rw [show (0 - (1000 : Int) - b).toNat = 0 by omega, show (0 - (0 - (1000 : Int) - b)).toNat = 1000 + b by omega, Nat.pow_zero, Nat.mul_one]
        have h1 : 10 ^ (l.length + 1) * 10 ^ 6 ≤ 10 ^ (1000 + b) := by
          rw [← Nat.pow_add]; exact Nat.pow_le_pow_right (by decide) (by omega)
        have h6 : 10 ^ 6 = 1000000 := by decide
        rw [h6] at h1
        generalize 10 ^ (l.length + 1) = A at *
        generalize 10 ^ (1000 + b) = B at *
        omega
end Go.Proofs.YteicdddheaajlaaDoor
namespace Go.Proofs.YteicdddheaajlaaDoor
open Go.Abs
theorem rdStep_dig {r : RS} (b : UInt8) (h : ∀ x ∈ r.ds, 0 ≤ x ∧ x ≤ 9) : ∀ x ∈ (rdStep r b).ds, 0 ≤ x ∧ x ≤ 9 := by
  unfold rdStep
  split
  · rename_i hk
    intro x hx
    have hc := kindN_cases b.toNat
    simp only [dsF] at hx
    split at hx
    · rcases List.mem_append.1 hx with hx | hx
      · exact h x hx
      · simp only [List.mem_singleton] at hx; omega
    · exact h x hx
  · split
    · exact h
    · split <;> exact h
theorem rdM_dig (M : List UInt8) : ∀ x ∈ (rdM M).ds, 0 ≤ x ∧ x ≤ 9 := by
  have : ∀ (l : List UInt8) (r : RS), (∀ x ∈ r.ds, 0 ≤ x ∧ x ≤ 9) → ∀ x ∈ (l.foldl rdStep r).ds, 0 ≤ x ∧ x ≤ 9 := by
    intro l
    induction l with
    | nil => intro r h; exact h
    | cons b l ih => intro r h; exact ih _ (rdStep_dig b h)
  exact this M _ (by simp)
theorem stripL_mem {l : List Int} {x : Int} (h : x ∈ stripL l) : x ∈ l := by
  unfold stripL at h
  rw [List.mem_reverse] at h
  have := (List.dropWhile_sublist _).subset h
  simpa using this
theorem stripL_len (l : List Int) : (stripL l).length ≤ l.length := by
  unfold stripL
  rw [List.length_reverse]
  have := (List.dropWhile_sublist (fun x : Int => x == 0) (l := l.reverse)).length_le
  simpa using this
theorem c_dparseE (s : List UInt8) (hl : s.length ≤ 1000000) (h : ¬ (endsT (dfa true 0 s).2 = true ∧ (dfa true 0 s).1 = s.length)) : ACalls seat 85 [.str s] [] (fun x _ => x = .ret (.tup [.int .i64 0, .int .i64 3])) := by
  refine ACalls.body seat_ok Tryd.func85 rfl rfl ?_
  have c := c_dscan s 0 true (by omega)
  rw [if_neg (by omega)] at c
  have hle := (dfa_le true s 0 (by omega)).1
  simp only [Int.toNat_zero, List.drop_zero, Int.zero_add] at c
  generalize (dfa true 0 s).1 = n at *
  generalize endsT (dfa true 0 s).2 = f at *
  cases f with
  | false =>
    conv => whnf
    refine lf seat_g c ?_
    conv => whnf
    repeat' ((first | refine zs (by omega) ?_ | refine zq6 ?_ | refine zs (by dsimp only; omega) ?_ | refine zs (show pendP _ _ by repeat' constructor) ?_ | (with_reducible first | refine brT ‹_› ?_ | refine brF ‹_› ?_ | refine zt (by omega) ?_ | refine zf (by omega) ?_ | refine brNot ?_)); conv => whnf)
    rfl
  | true =>
    have hn : n < s.length := by simp at h; omega
    conv => whnf
    refine lf seat_g c ?_
    conv => whnf
    repeat' ((first | refine zs (by omega) ?_ | refine zq6 ?_ | refine zs (by dsimp only; omega) ?_ | refine zs (show pendP _ _ by repeat' constructor) ?_ | (with_reducible first | refine brT ‹_› ?_ | refine brF ‹_› ?_ | refine zt (by omega) ?_ | refine zf (by omega) ?_ | refine brNot ?_)); conv => whnf)
    rfl
set_option maxRecDepth 20000 in
set_option maxHeartbeats 2000000 in
theorem c_dparseV (M : List UInt8) (ex : Option (UInt8 × List UInt8 × List UInt8)) (hM : ∀ b ∈ M, kindN b.toNat ≠ 2) (hex : exOK ex) (hl : (M ++ expB ex).length ≤ 1000000)
    (h1 : (dfa true 0 (M ++ expB ex)).1 = (M ++ expB ex).length) (h2 : endsT (dfa true 0 (M ++ expB ex)).2 = true) :
    ACalls seat 85 [.str (M ++ expB ex)] [] (fun x _ => x = .ret (decR (rdM M).below (stripL (rdM M).ds) ((rdM M).pt + if exDown ex then 0 - exPow 1099511627776 ex else exPow 1099511627776 ex))) := by
  refine ACalls.body seat_ok Tryd.func85 rfl rfl ?_
  have c := c_dscan (M ++ expB ex) 0 true (by omega)
  rw [if_neg (by omega)] at c
  simp only [Int.toNat_zero, List.drop_zero, Int.zero_add] at c
  rw [h1, h2] at c
  have cr := c_dread M ex hM hex hl
  unfold numV at cr
  have hdig : ∀ x ∈ stripL (rdM M).ds, 0 ≤ x ∧ x ≤ 9 := fun x hx => rdM_dig M x (stripL_mem hx)
  have hbd := rdM_bd M.length M rfl
  have hpw : 0 ≤ exPow 1099511627776 ex ∧ exPow 1099511627776 ex ≤ 1099511627776 := by
    cases ex with
    | none => simp [exPow]
    | some x => exact powF_bd (by decide) _ _ rfl hex.2.2.2
  have hlM : M.length ≤ 1000000 := by rw [List.length_append] at hl; omega
  have hdl : (stripL (rdM M).ds).length ≤ 1000000 := Nat.le_trans (stripL_len _) (by omega)
  have hpp : -2000000000000 ≤ (rdM M).pt + (if exDown ex then 0 - exPow 1099511627776 ex else exPow 1099511627776 ex) ∧ (rdM M).pt + (if exDown ex then 0 - exPow 1099511627776 ex else exPow 1099511627776 ex) ≤ 2000000000000 := by split <;> omega
  generalize (rdM M).pt + (if exDown ex then 0 - exPow 1099511627776 ex else exPow 1099511627776 ex) = p at *
  generalize stripL (rdM M).ds = d at *
  generalize (rdM M).below = bl at *
  generalize M ++ expB ex = s at *
  clear h1 h2 hbd hpw hM hex hlM
  by_cases g1 : p > 5
  · by_cases g2 : 0 < d.length
    · have e : decR bl d p = .tup [.int .i64 0, .int .i64 2] := if_pos ⟨g1, g2⟩
      rw [e]
      have g2' : (0 : Int) < d.length := by omega
      conv => whnf
      refine lf seat_g c ?_
      conv => whnf
      repeat' ((first | refine zs (by omega) ?_ | refine zq6 ?_ | refine zs (by dsimp only; omega) ?_ | refine zs (show pendP _ _ by repeat' constructor) ?_ | (with_reducible first | refine brT ‹_› ?_ | refine brF ‹_› ?_ | refine zt (by omega) ?_ | refine zf (by omega) ?_ | refine brNot ?_)); conv => whnf)
      refine CallH.lift seat_g cr (by simp [Closed, ClosedL]) (nmV_closed bl d p) ?_
      conv => whnf
      repeat' ((first | refine zs (by omega) ?_ | refine zq6 ?_ | refine zs (by dsimp only; omega) ?_ | refine zs (show pendP _ _ by repeat' constructor) ?_ | (with_reducible first | refine brT ‹_› ?_ | refine brF ‹_› ?_ | refine zt (by omega) ?_ | refine zf (by omega) ?_ | refine brNot ?_)); conv => whnf)
      rfl
    · have g2' : ¬ ((0 : Int) < d.length) := by omega
      have g0 : ¬ (p > 5 ∧ 0 < d.length) := fun h => g2 h.2
      conv => whnf
      refine lf seat_g c ?_
      conv => whnf
      repeat' ((first | refine zs (by omega) ?_ | refine zq6 ?_ | refine zs (by dsimp only; omega) ?_ | refine zs (show pendP _ _ by repeat' constructor) ?_ | (with_reducible first | refine brT ‹_› ?_ | refine brF ‹_› ?_ | refine zt (by omega) ?_ | refine zf (by omega) ?_ | refine brNot ?_)); conv => whnf)
      refine CallH.lift seat_g cr (by simp [Closed, ClosedL]) (nmV_closed bl d p) ?_
      conv => whnf
      repeat' ((first | refine zs (by omega) ?_ | refine zq6 ?_ | refine zs (by dsimp only; omega) ?_ | refine zs (show pendP _ _ by repeat' constructor) ?_ | (with_reducible first | refine brT ‹_› ?_ | refine brF ‹_› ?_ | refine zt (by omega) ?_ | refine zf (by omega) ?_ | refine brNot ?_)); conv => whnf)
      refine Sat.cut (fun x t h => x = .exit 0 ∧ t = (uu::uu::uu::uu::uu::uu::.ptr 0 0::.int .u64 (accZ d p (-4) 5)::uu::uu::uu::uu::uu::uu::uu::uu::uu::uu::uu::uu::uu::uu::uu::uu::uu::uu::uu::uu::uu::uu::uu::uu::uu::uu::uu::uu::uu::uu::uu::uu::uu::uu::uu::uu::uu::uu::uu::uu::uu::uu::uu::uu::uu::uu::uu::uu::uu::uu::uu::uu::uu::uu::uu::uu::uu::uu::uu::uu::uu::uu::uu::uu::uu::uu::uu::uu::uu::uu::uu::uu::uu::uu::uu::uu::uu::uu::uu::uu::uu::uu::uu::uu::uu::uu::uu::uu::uu::uu::uu::uu::uu::uu::uu::uu::uu::uu::uu::uu::uu::uu::uu::uu::uu::uu::[]) ∧ h = [.var [.bool bl, .vec (ci .u8 d) d.length none, .int .i64 p] 141]) ?_ ?_
      · refine Sat.invP seat_ok seat_g (maskOf 114 [6, 7, 8]) 1 (fun μ t h => ∃ (j : Nat) (i : Int), j ≤ 5 ∧ i = -4 + j ∧ μ = 5 - j ∧ t = (uu::uu::uu::uu::uu::uu::.ptr 0 0::.int .u64 (accZ d p (-4) j)::.int .i64 i::uu::uu::uu::uu::uu::uu::uu::uu::uu::uu::uu::uu::uu::uu::uu::uu::uu::uu::uu::uu::uu::uu::uu::uu::uu::uu::uu::uu::uu::uu::uu::uu::uu::uu::uu::uu::uu::uu::uu::uu::uu::uu::uu::uu::uu::uu::uu::uu::uu::uu::uu::uu::uu::uu::uu::uu::uu::uu::uu::uu::uu::uu::uu::uu::uu::uu::uu::uu::uu::uu::uu::uu::uu::uu::uu::uu::uu::uu::uu::uu::uu::uu::uu::uu::uu::uu::uu::uu::uu::uu::uu::uu::uu::uu::uu::uu::uu::uu::uu::uu::uu::uu::uu::uu::uu::[]) ∧ h = [.var [.bool bl, .vec (ci .u8 d) d.length none, .int .i64 p] 141]) ?_ ⟨_, _, WeakL.of_eq rfl, 0, -4, by omega, by omega, rfl, rfl, rfl⟩ ?_
        · rintro _ _ _ ⟨j, i, -, -, -, rfl, rfl⟩
          exact ⟨rfl, (by simp [IdsL, Ids, IdsH, IdsC, lv_ids, ci_ids]), (by simp [IdsL, Ids, IdsH, IdsC, lv_ids, ci_ids])⟩
        rintro _ _ _ ⟨j, i, hj, hi, rfl, rfl, rfl⟩
        have cd := c_digit bl d p i hdig (by omega) (by omega)
        have hst : accZ d p (-4) (j + 1) = 10 * accZ d p (-4) j + digZ d p i := by rw [hi]; rfl
        have hb1 := accZ17 hdig p (-4) (n := j) (by omega)
        have hb2 := digZ_bd hdig p i
        generalize digZ d p i = z at *
        by_cases gj : j < 5
        · generalize accZ d p (-4) j = acc at *
          conv => whnf
          repeat' (first | exact ⟨_, _, Nat.sub_lt_sub_left gj (Nat.lt_succ_self j), WeakL.of_eq rfl, j + 1, i + 1, by omega, by omega, rfl, by rw [hst]; rfl, rfl⟩ | (refine CallH.lift seat_g cd ⟨nmV_closed bl d p, by simp [Closed], trivial⟩ (by simp [Closed]) ?_; conv => whnf) | ((first | refine zs (by omega) ?_ | refine zq6 ?_ | refine zs (by dsimp only; omega) ?_ | refine zs (show pendP _ _ by repeat' constructor) ?_ | (with_reducible first | refine brT ‹_› ?_ | refine brF ‹_› ?_ | refine zt (by omega) ?_ | refine zf (by omega) ?_ | refine brNot ?_)); conv => whnf))
        · obtain rfl : j = 5 := by omega
          conv => whnf
          repeat' ((first | refine zs (by omega) ?_ | refine zq6 ?_ | refine zs (by dsimp only; omega) ?_ | refine zs (show pendP _ _ by repeat' constructor) ?_ | (with_reducible first | refine brT ‹_› ?_ | refine brF ‹_› ?_ | refine zt (by omega) ?_ | refine zf (by omega) ?_ | refine brNot ?_)); conv => whnf)
          exact ⟨_, keepT_weak (maskOf 114 [6, 7]) _, rfl, rfl, rfl⟩
      rintro _ _ _ ⟨rfl, rfl, rfl⟩
      have hup := accZ_bd hdig p (-4) 5
      obtain ⟨up, eup⟩ : ∃ up, up = accZ d p (-4) 5 := ⟨_, rfl⟩
      rw [← eup] at hup ⊢
      rw [show ((10 : Int) ^ 5) = 100000 by decide] at hup
      conv => whnf
      refine Sat.cut (fun x t h => x = .exit 2 ∧ t = (uu::uu::uu::uu::uu::uu::.ptr 0 0::.int .u64 up::uu::.int .u64 (accZ d p 1 17)::uu::uu::uu::uu::uu::uu::uu::uu::uu::uu::uu::uu::uu::uu::uu::uu::uu::uu::uu::uu::uu::uu::uu::uu::uu::uu::uu::uu::uu::uu::uu::uu::uu::uu::uu::uu::uu::uu::uu::uu::uu::uu::uu::uu::uu::uu::uu::uu::uu::uu::uu::uu::uu::uu::uu::uu::uu::uu::uu::uu::uu::uu::uu::uu::uu::uu::uu::uu::uu::uu::uu::uu::uu::uu::uu::uu::uu::uu::uu::uu::uu::uu::uu::uu::uu::uu::uu::uu::uu::uu::uu::uu::uu::uu::uu::uu::uu::uu::uu::uu::uu::uu::uu::uu::[]) ∧ h = [.var [.bool bl, .vec (ci .u8 d) d.length none, .int .i64 p] 141]) ?_ ?_
      · refine Sat.invP seat_ok seat_g (maskOf 114 [6, 7, 9, 10]) 1 (fun μ t h => ∃ (j : Nat) (i : Int), j ≤ 17 ∧ i = 1 + j ∧ μ = 17 - j ∧ t = (uu::uu::uu::uu::uu::uu::.ptr 0 0::.int .u64 up::uu::.int .u64 (accZ d p 1 j)::.int .i64 i::uu::uu::uu::uu::uu::uu::uu::uu::uu::uu::uu::uu::uu::uu::uu::uu::uu::uu::uu::uu::uu::uu::uu::uu::uu::uu::uu::uu::uu::uu::uu::uu::uu::uu::uu::uu::uu::uu::uu::uu::uu::uu::uu::uu::uu::uu::uu::uu::uu::uu::uu::uu::uu::uu::uu::uu::uu::uu::uu::uu::uu::uu::uu::uu::uu::uu::uu::uu::uu::uu::uu::uu::uu::uu::uu::uu::uu::uu::uu::uu::uu::uu::uu::uu::uu::uu::uu::uu::uu::uu::uu::uu::uu::uu::uu::uu::uu::uu::uu::uu::uu::uu::uu::[]) ∧ h = [.var [.bool bl, .vec (ci .u8 d) d.length none, .int .i64 p] 141]) ?_ ⟨_, _, WeakL.of_eq rfl, 0, 1, by omega, by omega, rfl, rfl, rfl⟩ ?_
        · rintro _ _ _ ⟨j, i, -, -, -, rfl, rfl⟩
          exact ⟨rfl, (by simp [IdsL, Ids, IdsH, IdsC, lv_ids, ci_ids]), (by simp [IdsL, Ids, IdsH, IdsC, lv_ids, ci_ids])⟩
        rintro _ _ _ ⟨j, i, hj, hi, rfl, rfl, rfl⟩
        have cd := c_digit bl d p i hdig (by omega) (by omega)
        have hst : accZ d p 1 (j + 1) = 10 * accZ d p 1 j + digZ d p i := by rw [hi]; rfl
        have hb1 := accZ17 hdig p 1 (n := j) (by omega)
        have hb2 := digZ_bd hdig p i
        generalize digZ d p i = z at *
        by_cases gj : j < 17
        · generalize accZ d p 1 j = acc at *
          conv => whnf
          repeat' (first | exact ⟨_, _, Nat.sub_lt_sub_left gj (Nat.lt_succ_self j), WeakL.of_eq rfl, j + 1, i + 1, by omega, by omega, rfl, by rw [hst]; rfl, rfl⟩ | (refine CallH.lift seat_g cd ⟨nmV_closed bl d p, by simp [Closed], trivial⟩ (by simp [Closed]) ?_; conv => whnf) | ((first | refine zs (by omega) ?_ | refine zq6 ?_ | refine zs (by dsimp only; omega) ?_ | refine zs (show pendP _ _ by repeat' constructor) ?_ | (with_reducible first | refine brT ‹_› ?_ | refine brF ‹_› ?_ | refine zt (by omega) ?_ | refine zf (by omega) ?_ | refine brNot ?_)); conv => whnf))
        · obtain rfl : j = 17 := by omega
          conv => whnf
          repeat' ((first | refine zs (by omega) ?_ | refine zq6 ?_ | refine zs (by dsimp only; omega) ?_ | refine zs (show pendP _ _ by repeat' constructor) ?_ | (with_reducible first | refine brT ‹_› ?_ | refine brF ‹_› ?_ | refine zt (by omega) ?_ | refine zf (by omega) ?_ | refine brNot ?_)); conv => whnf)
          exact ⟨_, keepT_weak (maskOf 114 [6, 7, 9]) _, rfl, rfl, rfl⟩
      rintro _ _ _ ⟨rfl, rfl, rfl⟩
      have hbh := accZ17 hdig p 1 (n := 17) (by omega)
      have hvz : vZ bl d p = up * 65536 + accZ d p 1 17 * 65536 / 100000000000000000 + rndZ bl (moreB d p) (accZ d p 1 17) := by rw [eup]; rfl
      generalize accZ d p 1 17 = b at *
      have cm := c_mul64 b 65536 ⟨by omega, by omega⟩ ⟨by omega, by omega⟩
      have cd := c_div17 (b * 65536 / 18446744073709551616) (b * 65536 % 18446744073709551616) (by omega) ⟨by omega, by omega⟩
      rw [show b * 65536 / 18446744073709551616 * 18446744073709551616 + b * 65536 % 18446744073709551616 = b * 65536 by omega] at cd
      have hq : 0 ≤ b * 65536 / 100000000000000000 ∧ b * 65536 / 100000000000000000 < 65536 := by omega
      unfold rndZ at hvz
      generalize b * 65536 / 100000000000000000 = q at *
      generalize b * 65536 % 100000000000000000 = r at *
      clear c cr
      by_cases m1 : 0 < d.length
      · exact absurd m1 g2
      · have m1' : ¬ ((0 : Int) < d.length) := by omega
        have hmm : moreB d p = false := by simp [moreB]; omega
        cases bl with
        | false =>
          by_cases r1 : r > 50000000000000000
          · have hv : vZ false d p = up * 65536 + q + 1 := by rw [hvz, if_pos (by simp [hmm]; omega)]
            by_cases gv : up * 65536 + q + 1 ≥ 4294967296
            · have hdec : decR false d p = .tup [.int .i64 0, .int .i64 2] := by rw [decR, if_neg g0, hv, if_pos gv]
              rw [hdec]
              clear hdec hv hvz eup
              conv => whnf
              repeat' (first | exact rfl | (refine lf seat_g cm ?_; conv => whnf) | (refine lf seat_g cd ?_; conv => whnf) | (refine Req.mk (by decide) ?_; refine WrapH.is (up * 65536) (wrap_u64 (n := up * 65536) (by omega) (by omega)) ?_; conv => whnf) | ((first | refine zs (by omega) ?_ | refine zq6 ?_ | refine zs (by dsimp only; omega) ?_ | refine zs (show pendP _ _ by repeat' constructor) ?_ | (with_reducible first | refine brT ‹_› ?_ | refine brF ‹_› ?_ | refine zt (by omega) ?_ | refine zf (by omega) ?_ | refine brNot ?_)); conv => whnf))
            · have hdec : decR false d p = .tup [.int .i64 (up * 65536 + q + 1), .int .i64 0] := by rw [decR, if_neg g0, hv, if_neg gv, if_neg (by decide)]
              rw [hdec]
              clear hdec hv hvz eup
              conv => whnf
              repeat' (first | exact rfl | (refine lf seat_g cm ?_; conv => whnf) | (refine lf seat_g cd ?_; conv => whnf) | (refine Req.mk (by decide) ?_; refine WrapH.is (up * 65536) (wrap_u64 (n := up * 65536) (by omega) (by omega)) ?_; conv => whnf) | ((first | refine zs (by omega) ?_ | refine zq6 ?_ | refine zs (by dsimp only; omega) ?_ | refine zs (show pendP _ _ by repeat' constructor) ?_ | (with_reducible first | refine brT ‹_› ?_ | refine brF ‹_› ?_ | refine zt (by omega) ?_ | refine zf (by omega) ?_ | refine brNot ?_)); conv => whnf))
          by_cases r2 : r = 50000000000000000
          · have hv : vZ false d p = up * 65536 + q + 1 := by rw [hvz, if_pos (by simp [hmm]; omega)]
            by_cases gv : up * 65536 + q + 1 ≥ 4294967296
            · have hdec : decR false d p = .tup [.int .i64 0, .int .i64 2] := by rw [decR, if_neg g0, hv, if_pos gv]
              rw [hdec]
              clear hdec hv hvz eup
              conv => whnf
              repeat' (first | exact rfl | (refine lf seat_g cm ?_; conv => whnf) | (refine lf seat_g cd ?_; conv => whnf) | (refine Req.mk (by decide) ?_; refine WrapH.is (up * 65536) (wrap_u64 (n := up * 65536) (by omega) (by omega)) ?_; conv => whnf) | ((first | refine zs (by omega) ?_ | refine zq6 ?_ | refine zs (by dsimp only; omega) ?_ | refine zs (show pendP _ _ by repeat' constructor) ?_ | (with_reducible first | refine brT ‹_› ?_ | refine brF ‹_› ?_ | refine zt (by omega) ?_ | refine zf (by omega) ?_ | refine brNot ?_)); conv => whnf))
            · have hdec : decR false d p = .tup [.int .i64 (up * 65536 + q + 1), .int .i64 0] := by rw [decR, if_neg g0, hv, if_neg gv, if_neg (by decide)]
              rw [hdec]
              clear hdec hv hvz eup
              conv => whnf
              repeat' (first | exact rfl | (refine lf seat_g cm ?_; conv => whnf) | (refine lf seat_g cd ?_; conv => whnf) | (refine Req.mk (by decide) ?_; refine WrapH.is (up * 65536) (wrap_u64 (n := up * 65536) (by omega) (by omega)) ?_; conv => whnf) | ((first | refine zs (by omega) ?_ | refine zq6 ?_ | refine zs (by dsimp only; omega) ?_ | refine zs (show pendP _ _ by repeat' constructor) ?_ | (with_reducible first | refine brT ‹_› ?_ | refine brF ‹_› ?_ | refine zt (by omega) ?_ | refine zf (by omega) ?_ | refine brNot ?_)); conv => whnf))
          have hv : vZ false d p = up * 65536 + q := by rw [hvz, if_neg (by simp [hmm]; omega), Int.add_zero]
          by_cases gv : up * 65536 + q ≥ 4294967296
          · have hdec : decR false d p = .tup [.int .i64 0, .int .i64 2] := by rw [decR, if_neg g0, hv, if_pos gv]
            rw [hdec]
            clear hdec hv hvz eup
            conv => whnf
            repeat' (first | exact rfl | (refine lf seat_g cm ?_; conv => whnf) | (refine lf seat_g cd ?_; conv => whnf) | (refine Req.mk (by decide) ?_; refine WrapH.is (up * 65536) (wrap_u64 (n := up * 65536) (by omega) (by omega)) ?_; conv => whnf) | ((first | refine zs (by omega) ?_ | refine zq6 ?_ | refine zs (by dsimp only; omega) ?_ | refine zs (show pendP _ _ by repeat' constructor) ?_ | (with_reducible first | refine brT ‹_› ?_ | refine brF ‹_› ?_ | refine zt (by omega) ?_ | refine zf (by omega) ?_ | refine brNot ?_)); conv => whnf))
          · have hdec : decR false d p = .tup [.int .i64 (up * 65536 + q), .int .i64 0] := by rw [decR, if_neg g0, hv, if_neg gv, if_neg (by decide)]
            rw [hdec]
            clear hdec hv hvz eup
            conv => whnf
            repeat' (first | exact rfl | (refine lf seat_g cm ?_; conv => whnf) | (refine lf seat_g cd ?_; conv => whnf) | (refine Req.mk (by decide) ?_; refine WrapH.is (up * 65536) (wrap_u64 (n := up * 65536) (by omega) (by omega)) ?_; conv => whnf) | ((first | refine zs (by omega) ?_ | refine zq6 ?_ | refine zs (by dsimp only; omega) ?_ | refine zs (show pendP _ _ by repeat' constructor) ?_ | (with_reducible first | refine brT ‹_› ?_ | refine brF ‹_› ?_ | refine zt (by omega) ?_ | refine zf (by omega) ?_ | refine brNot ?_)); conv => whnf))
        | true =>
          by_cases r1 : r > 50000000000000000
          · have hv : vZ true d p = up * 65536 + q + 1 := by rw [hvz, if_pos (by simp [hmm]; omega)]
            by_cases gv : up * 65536 + q + 1 ≥ 4294967296
            · have hdec : decR true d p = .tup [.int .i64 0, .int .i64 2] := by rw [decR, if_neg g0, hv, if_pos gv]
              rw [hdec]
              clear hdec hv hvz eup
              conv => whnf
              repeat' (first | exact rfl | (refine lf seat_g cm ?_; conv => whnf) | (refine lf seat_g cd ?_; conv => whnf) | (refine Req.mk (by decide) ?_; refine WrapH.is (up * 65536) (wrap_u64 (n := up * 65536) (by omega) (by omega)) ?_; conv => whnf) | ((first | refine zs (by omega) ?_ | refine zq6 ?_ | refine zs (by dsimp only; omega) ?_ | refine zs (show pendP _ _ by repeat' constructor) ?_ | (with_reducible first | refine brT ‹_› ?_ | refine brF ‹_› ?_ | refine zt (by omega) ?_ | refine zf (by omega) ?_ | refine brNot ?_)); conv => whnf))
            · have hdec : decR true d p = .tup [.int .i64 (0 - (up * 65536 + q + 1)), .int .i64 0] := by rw [decR, if_neg g0, hv, if_neg gv, if_pos rfl]
              rw [hdec]
              clear hdec hv hvz eup
              conv => whnf
              repeat' (first | exact rfl | (refine lf seat_g cm ?_; conv => whnf) | (refine lf seat_g cd ?_; conv => whnf) | (refine Req.mk (by decide) ?_; refine WrapH.is (up * 65536) (wrap_u64 (n := up * 65536) (by omega) (by omega)) ?_; conv => whnf) | ((first | refine zs (by omega) ?_ | refine zq6 ?_ | refine zs (by dsimp only; omega) ?_ | refine zs (show pendP _ _ by repeat' constructor) ?_ | (with_reducible first | refine brT ‹_› ?_ | refine brF ‹_› ?_ | refine zt (by omega) ?_ | refine zf (by omega) ?_ | refine brNot ?_)); conv => whnf))
          by_cases r2 : r = 50000000000000000
          · have hv : vZ true d p = up * 65536 + q := by rw [hvz, if_neg (by simp [hmm]; omega), Int.add_zero]
            by_cases gv : up * 65536 + q ≥ 4294967296
            · have hdec : decR true d p = .tup [.int .i64 0, .int .i64 2] := by rw [decR, if_neg g0, hv, if_pos gv]
              rw [hdec]
              clear hdec hv hvz eup
              conv => whnf
              repeat' (first | exact rfl | (refine lf seat_g cm ?_; conv => whnf) | (refine lf seat_g cd ?_; conv => whnf) | (refine Req.mk (by decide) ?_; refine WrapH.is (up * 65536) (wrap_u64 (n := up * 65536) (by omega) (by omega)) ?_; conv => whnf) | ((first | refine zs (by omega) ?_ | refine zq6 ?_ | refine zs (by dsimp only; omega) ?_ | refine zs (show pendP _ _ by repeat' constructor) ?_ | (with_reducible first | refine brT ‹_› ?_ | refine brF ‹_› ?_ | refine zt (by omega) ?_ | refine zf (by omega) ?_ | refine brNot ?_)); conv => whnf))
            · have hdec : decR true d p = .tup [.int .i64 (0 - (up * 65536 + q)), .int .i64 0] := by rw [decR, if_neg g0, hv, if_neg gv, if_pos rfl]
              rw [hdec]
              clear hdec hv hvz eup
              conv => whnf
              repeat' (first | exact rfl | (refine lf seat_g cm ?_; conv => whnf) | (refine lf seat_g cd ?_; conv => whnf) | (refine Req.mk (by decide) ?_; refine WrapH.is (up * 65536) (wrap_u64 (n := up * 65536) (by omega) (by omega)) ?_; conv => whnf) | ((first | refine zs (by omega) ?_ | refine zq6 ?_ | refine zs (by dsimp only; omega) ?_ | refine zs (show pendP _ _ by repeat' constructor) ?_ | (with_reducible first | refine brT ‹_› ?_ | refine brF ‹_› ?_ | refine zt (by omega) ?_ | refine zf (by omega) ?_ | refine brNot ?_)); conv => whnf))
          have hv : vZ true d p = up * 65536 + q := by rw [hvz, if_neg (by simp [hmm]; omega), Int.add_zero]
          by_cases gv : up * 65536 + q ≥ 4294967296
          · have hdec : decR true d p = .tup [.int .i64 0, .int .i64 2] := by rw [decR, if_neg g0, hv, if_pos gv]
            rw [hdec]
            clear hdec hv hvz eup
            conv => whnf
            repeat' (first | exact rfl | (refine lf seat_g cm ?_; conv => whnf) | (refine lf seat_g cd ?_; conv => whnf) | (refine Req.mk (by decide) ?_; refine WrapH.is (up * 65536) (wrap_u64 (n := up * 65536) (by omega) (by omega)) ?_; conv => whnf) | ((first | refine zs (by omega) ?_ | refine zq6 ?_ | refine zs (by dsimp only; omega) ?_ | refine zs (show pendP _ _ by repeat' constructor) ?_ | (with_reducible first | refine brT ‹_› ?_ | refine brF ‹_› ?_ | refine zt (by omega) ?_ | refine zf (by omega) ?_ | refine brNot ?_)); conv => whnf))
          · have hdec : decR true d p = .tup [.int .i64 (0 - (up * 65536 + q)), .int .i64 0] := by rw [decR, if_neg g0, hv, if_neg gv, if_pos rfl]
            rw [hdec]
            clear hdec hv hvz eup
            conv => whnf
            repeat' (first | exact rfl | (refine lf seat_g cm ?_; conv => whnf) | (refine lf seat_g cd ?_; conv => whnf) | (refine Req.mk (by decide) ?_; refine WrapH.is (up * 65536) (wrap_u64 (n := up * 65536) (by omega) (by omega)) ?_; conv => whnf) | ((first | refine zs (by omega) ?_ | refine zq6 ?_ | refine zs (by dsimp only; omega) ?_ | refine zs (show pendP _ _ by repeat' constructor) ?_ | (with_reducible first | refine brT ‹_› ?_ | refine brF ‹_› ?_ | refine zt (by omega) ?_ | refine zf (by omega) ?_ | refine brNot ?_)); conv => whnf))
  · have g0 : ¬ (p > 5 ∧ 0 < d.length) := fun h => g1 h.1
    conv => whnf
    refine lf seat_g c ?_
    conv => whnf
    repeat' ((first | refine zs (by omega) ?_ | refine zq6 ?_ | refine zs (by dsimp only; omega) ?_ | refine zs (show pendP _ _ by repeat' constructor) ?_ | (with_reducible first | refine brT ‹_› ?_ | refine brF ‹_› ?_ | refine zt (by omega) ?_ | refine zf (by omega) ?_ | refine brNot ?_)); conv => whnf)
    refine CallH.lift seat_g cr (by simp [Closed, ClosedL]) (nmV_closed bl d p) ?_
    conv => whnf
    repeat' ((first | refine zs (by omega) ?_ | refine zq6 ?_ | refine zs (by dsimp only; omega) ?_ | refine zs (show pendP _ _ by repeat' constructor) ?_ | (with_reducible first | refine brT ‹_› ?_ | refine brF ‹_› ?_ | refine zt (by omega) ?_ | refine zf (by omega) ?_ | refine brNot ?_)); conv => whnf)
    refine Sat.cut (fun x t h => x = .exit 0 ∧ t = (uu::uu::uu::uu::uu::uu::.ptr 0 0::.int .u64 (accZ d p (-4) 5)::uu::uu::uu::uu::uu::uu::uu::uu::uu::uu::uu::uu::uu::uu::uu::uu::uu::uu::uu::uu::uu::uu::uu::uu::uu::uu::uu::uu::uu::uu::uu::uu::uu::uu::uu::uu::uu::uu::uu::uu::uu::uu::uu::uu::uu::uu::uu::uu::uu::uu::uu::uu::uu::uu::uu::uu::uu::uu::uu::uu::uu::uu::uu::uu::uu::uu::uu::uu::uu::uu::uu::uu::uu::uu::uu::uu::uu::uu::uu::uu::uu::uu::uu::uu::uu::uu::uu::uu::uu::uu::uu::uu::uu::uu::uu::uu::uu::uu::uu::uu::uu::uu::uu::uu::uu::uu::[]) ∧ h = [.var [.bool bl, .vec (ci .u8 d) d.length none, .int .i64 p] 141]) ?_ ?_
    · refine Sat.invP seat_ok seat_g (maskOf 114 [6, 7, 8]) 1 (fun μ t h => ∃ (j : Nat) (i : Int), j ≤ 5 ∧ i = -4 + j ∧ μ = 5 - j ∧ t = (uu::uu::uu::uu::uu::uu::.ptr 0 0::.int .u64 (accZ d p (-4) j)::.int .i64 i::uu::uu::uu::uu::uu::uu::uu::uu::uu::uu::uu::uu::uu::uu::uu::uu::uu::uu::uu::uu::uu::uu::uu::uu::uu::uu::uu::uu::uu::uu::uu::uu::uu::uu::uu::uu::uu::uu::uu::uu::uu::uu::uu::uu::uu::uu::uu::uu::uu::uu::uu::uu::uu::uu::uu::uu::uu::uu::uu::uu::uu::uu::uu::uu::uu::uu::uu::uu::uu::uu::uu::uu::uu::uu::uu::uu::uu::uu::uu::uu::uu::uu::uu::uu::uu::uu::uu::uu::uu::uu::uu::uu::uu::uu::uu::uu::uu::uu::uu::uu::uu::uu::uu::uu::uu::[]) ∧ h = [.var [.bool bl, .vec (ci .u8 d) d.length none, .int .i64 p] 141]) ?_ ⟨_, _, WeakL.of_eq rfl, 0, -4, by omega, by omega, rfl, rfl, rfl⟩ ?_
      · rintro _ _ _ ⟨j, i, -, -, -, rfl, rfl⟩
        exact ⟨rfl, (by simp [IdsL, Ids, IdsH, IdsC, lv_ids, ci_ids]), (by simp [IdsL, Ids, IdsH, IdsC, lv_ids, ci_ids])⟩
      rintro _ _ _ ⟨j, i, hj, hi, rfl, rfl, rfl⟩
      have cd := c_digit bl d p i hdig (by omega) (by omega)
      have hst : accZ d p (-4) (j + 1) = 10 * accZ d p (-4) j + digZ d p i := by rw [hi]; rfl
      have hb1 := accZ17 hdig p (-4) (n := j) (by omega)
      have hb2 := digZ_bd hdig p i
      generalize digZ d p i = z at *
      by_cases gj : j < 5
      · generalize accZ d p (-4) j = acc at *
        conv => whnf
        repeat' (first | exact ⟨_, _, Nat.sub_lt_sub_left gj (Nat.lt_succ_self j), WeakL.of_eq rfl, j + 1, i + 1, by omega, by omega, rfl, by rw [hst]; rfl, rfl⟩ | (refine CallH.lift seat_g cd ⟨nmV_closed bl d p, by simp [Closed], trivial⟩ (by simp [Closed]) ?_; conv => whnf) | ((first | refine zs (by omega) ?_ | refine zq6 ?_ | refine zs (by dsimp only; omega) ?_ | refine zs (show pendP _ _ by repeat' constructor) ?_ | (with_reducible first | refine brT ‹_› ?_ | refine brF ‹_› ?_ | refine zt (by omega) ?_ | refine zf (by omega) ?_ | refine brNot ?_)); conv => whnf))
      · obtain rfl : j = 5 := by omega
        conv => whnf
        repeat' ((first | refine zs (by omega) ?_ | refine zq6 ?_ | refine zs (by dsimp only; omega) ?_ | refine zs (show pendP _ _ by repeat' constructor) ?_ | (with_reducible first | refine brT ‹_› ?_ | refine brF ‹_› ?_ | refine zt (by omega) ?_ | refine zf (by omega) ?_ | refine brNot ?_)); conv => whnf)
        exact ⟨_, keepT_weak (maskOf 114 [6, 7]) _, rfl, rfl, rfl⟩
    rintro _ _ _ ⟨rfl, rfl, rfl⟩
    have hup := accZ_bd hdig p (-4) 5
    obtain ⟨up, eup⟩ : ∃ up, up = accZ d p (-4) 5 := ⟨_, rfl⟩
    rw [← eup] at hup ⊢
    rw [show ((10 : Int) ^ 5) = 100000 by decide] at hup
    conv => whnf
    refine Sat.cut (fun x t h => x = .exit 2 ∧ t = (uu::uu::uu::uu::uu::uu::.ptr 0 0::.int .u64 up::uu::.int .u64 (accZ d p 1 17)::uu::uu::uu::uu::uu::uu::uu::uu::uu::uu::uu::uu::uu::uu::uu::uu::uu::uu::uu::uu::uu::uu::uu::uu::uu::uu::uu::uu::uu::uu::uu::uu::uu::uu::uu::uu::uu::uu::uu::uu::uu::uu::uu::uu::uu::uu::uu::uu::uu::uu::uu::uu::uu::uu::uu::uu::uu::uu::uu::uu::uu::uu::uu::uu::uu::uu::uu::uu::uu::uu::uu::uu::uu::uu::uu::uu::uu::uu::uu::uu::uu::uu::uu::uu::uu::uu::uu::uu::uu::uu::uu::uu::uu::uu::uu::uu::uu::uu::uu::uu::uu::uu::uu::uu::[]) ∧ h = [.var [.bool bl, .vec (ci .u8 d) d.length none, .int .i64 p] 141]) ?_ ?_
    · refine Sat.invP seat_ok seat_g (maskOf 114 [6, 7, 9, 10]) 1 (fun μ t h => ∃ (j : Nat) (i : Int), j ≤ 17 ∧ i = 1 + j ∧ μ = 17 - j ∧ t = (uu::uu::uu::uu::uu::uu::.ptr 0 0::.int .u64 up::uu::.int .u64 (accZ d p 1 j)::.int .i64 i::uu::uu::uu::uu::uu::uu::uu::uu::uu::uu::uu::uu::uu::uu::uu::uu::uu::uu::uu::uu::uu::uu::uu::uu::uu::uu::uu::uu::uu::uu::uu::uu::uu::uu::uu::uu::uu::uu::uu::uu::uu::uu::uu::uu::uu::uu::uu::uu::uu::uu::uu::uu::uu::uu::uu::uu::uu::uu::uu::uu::uu::uu::uu::uu::uu::uu::uu::uu::uu::uu::uu::uu::uu::uu::uu::uu::uu::uu::uu::uu::uu::uu::uu::uu::uu::uu::uu::uu::uu::uu::uu::uu::uu::uu::uu::uu::uu::uu::uu::uu::uu::uu::uu::[]) ∧ h = [.var [.bool bl, .vec (ci .u8 d) d.length none, .int .i64 p] 141]) ?_ ⟨_, _, WeakL.of_eq rfl, 0, 1, by omega, by omega, rfl, rfl, rfl⟩ ?_
      · rintro _ _ _ ⟨j, i, -, -, -, rfl, rfl⟩
        exact ⟨rfl, (by simp [IdsL, Ids, IdsH, IdsC, lv_ids, ci_ids]), (by simp [IdsL, Ids, IdsH, IdsC, lv_ids, ci_ids])⟩
      rintro _ _ _ ⟨j, i, hj, hi, rfl, rfl, rfl⟩
      have cd := c_digit bl d p i hdig (by omega) (by omega)
      have hst : accZ d p 1 (j + 1) = 10 * accZ d p 1 j + digZ d p i := by rw [hi]; rfl
      have hb1 := accZ17 hdig p 1 (n := j) (by omega)
      have hb2 := digZ_bd hdig p i
      generalize digZ d p i = z at *
      by_cases gj : j < 17
      · generalize accZ d p 1 j = acc at *
        conv => whnf
        repeat' (first | exact ⟨_, _, Nat.sub_lt_sub_left gj (Nat.lt_succ_self j), WeakL.of_eq rfl, j + 1, i + 1, by omega, by omega, rfl, by rw [hst]; rfl, rfl⟩ | (refine CallH.lift seat_g cd ⟨nmV_closed bl d p, by simp [Closed], trivial⟩ (by simp [Closed]) ?_; conv => whnf) | ((first | refine zs (by omega) ?_ | refine zq6 ?_ | refine zs (by dsimp only; omega) ?_ | refine zs (show pendP _ _ by repeat' constructor) ?_ | (with_reducible first | refine brT ‹_› ?_ | refine brF ‹_› ?_ | refine zt (by omega) ?_ | refine zf (by omega) ?_ | refine brNot ?_)); conv => whnf))
      · obtain rfl : j = 17 := by omega
        conv => whnf
        repeat' ((first | refine zs (by omega) ?_ | refine zq6 ?_ | refine zs (by dsimp only; omega) ?_ | refine zs (show pendP _ _ by repeat' constructor) ?_ | (with_reducible first | refine brT ‹_› ?_ | refine brF ‹_› ?_ | refine zt (by omega) ?_ | refine zf (by omega) ?_ | refine brNot ?_)); conv => whnf)
        exact ⟨_, keepT_weak (maskOf 114 [6, 7, 9]) _, rfl, rfl, rfl⟩
    rintro _ _ _ ⟨rfl, rfl, rfl⟩
    have hbh := accZ17 hdig p 1 (n := 17) (by omega)
    have hvz : vZ bl d p = up * 65536 + accZ d p 1 17 * 65536 / 100000000000000000 + rndZ bl (moreB d p) (accZ d p 1 17) := by rw [eup]; rfl
    generalize accZ d p 1 17 = b at *
    have cm := c_mul64 b 65536 ⟨by omega, by omega⟩ ⟨by omega, by omega⟩
    have cd := c_div17 (b * 65536 / 18446744073709551616) (b * 65536 % 18446744073709551616) (by omega) ⟨by omega, by omega⟩
    rw [show b * 65536 / 18446744073709551616 * 18446744073709551616 + b * 65536 % 18446744073709551616 = b * 65536 by omega] at cd
    have hq : 0 ≤ b * 65536 / 100000000000000000 ∧ b * 65536 / 100000000000000000 < 65536 := by omega
    unfold rndZ at hvz
    generalize b * 65536 / 100000000000000000 = q at *
    generalize b * 65536 % 100000000000000000 = r at *
    clear c cr
    by_cases m1 : 0 < d.length
    · have m1' : (0 : Int) < d.length := by omega
      by_cases m2 : p + 17 < d.length
      · have hmm : moreB d p = true := by simp [moreB, m1, m2]
        cases bl with
        | false =>
          by_cases r1 : r > 50000000000000000
          · have hv : vZ false d p = up * 65536 + q + 1 := by rw [hvz, if_pos (by simp [hmm]; omega)]
            by_cases gv : up * 65536 + q + 1 ≥ 4294967296
            · have hdec : decR false d p = .tup [.int .i64 0, .int .i64 2] := by rw [decR, if_neg g0, hv, if_pos gv]
              rw [hdec]
              clear hdec hv hvz eup
              conv => whnf
              repeat' (first | exact rfl | (refine lf seat_g cm ?_; conv => whnf) | (refine lf seat_g cd ?_; conv => whnf) | (refine Req.mk (by decide) ?_; refine WrapH.is (up * 65536) (wrap_u64 (n := up * 65536) (by omega) (by omega)) ?_; conv => whnf) | ((first | refine zs (by omega) ?_ | refine zq6 ?_ | refine zs (by dsimp only; omega) ?_ | refine zs (show pendP _ _ by repeat' constructor) ?_ | (with_reducible first | refine brT ‹_› ?_ | refine brF ‹_› ?_ | refine zt (by omega) ?_ | refine zf (by omega) ?_ | refine brNot ?_)); conv => whnf))
            · have hdec : decR false d p = .tup [.int .i64 (up * 65536 + q + 1), .int .i64 0] := by rw [decR, if_neg g0, hv, if_neg gv, if_neg (by decide)]
              rw [hdec]
              clear hdec hv hvz eup
              conv => whnf
              repeat' (first | exact rfl | (refine lf seat_g cm ?_; conv => whnf) | (refine lf seat_g cd ?_; conv => whnf) | (refine Req.mk (by decide) ?_; refine WrapH.is (up * 65536) (wrap_u64 (n := up * 65536) (by omega) (by omega)) ?_; conv => whnf) | ((first | refine zs (by omega) ?_ | refine zq6 ?_ | refine zs (by dsimp only; omega) ?_ | refine zs (show pendP _ _ by repeat' constructor) ?_ | (with_reducible first | refine brT ‹_› ?_ | refine brF ‹_› ?_ | refine zt (by omega) ?_ | refine zf (by omega) ?_ | refine brNot ?_)); conv => whnf))
          by_cases r2 : r = 50000000000000000
          · have hv : vZ false d p = up * 65536 + q + 1 := by rw [hvz, if_pos (by simp [hmm]; omega)]
            by_cases gv : up * 65536 + q + 1 ≥ 4294967296
            · have hdec : decR false d p = .tup [.int .i64 0, .int .i64 2] := by rw [decR, if_neg g0, hv, if_pos gv]
              rw [hdec]
              clear hdec hv hvz eup
              conv => whnf
              repeat' (first | exact rfl | (refine lf seat_g cm ?_; conv => whnf) | (refine lf seat_g cd ?_; conv => whnf) | (refine Req.mk (by decide) ?_; refine WrapH.is (up * 65536) (wrap_u64 (n := up * 65536) (by omega) (by omega)) ?_; conv => whnf) | ((first | refine zs (by omega) ?_ | refine zq6 ?_ | refine zs (by dsimp only; omega) ?_ | refine zs (show pendP _ _ by repeat' constructor) ?_ | (with_reducible first | refine brT ‹_› ?_ | refine brF ‹_› ?_ | refine zt (by omega) ?_ | refine zf (by omega) ?_ | refine brNot ?_)); conv => whnf))
            · have hdec : decR false d p = .tup [.int .i64 (up * 65536 + q + 1), .int .i64 0] := by rw [decR, if_neg g0, hv, if_neg gv, if_neg (by decide)]
              rw [hdec]
              clear hdec hv hvz eup
              conv => whnf
              repeat' (first | exact rfl | (refine lf seat_g cm ?_; conv => whnf) | (refine lf seat_g cd ?_; conv => whnf) | (refine Req.mk (by decide) ?_; refine WrapH.is (up * 65536) (wrap_u64 (n := up * 65536) (by omega) (by omega)) ?_; conv => whnf) | ((first | refine zs (by omega) ?_ | refine zq6 ?_ | refine zs (by dsimp only; omega) ?_ | refine zs (show pendP _ _ by repeat' constructor) ?_ | (with_reducible first | refine brT ‹_› ?_ | refine brF ‹_› ?_ | refine zt (by omega) ?_ | refine zf (by omega) ?_ | refine brNot ?_)); conv => whnf))
          have hv : vZ false d p = up * 65536 + q := by rw [hvz, if_neg (by simp [hmm]; omega), Int.add_zero]
          by_cases gv : up * 65536 + q ≥ 4294967296
          · have hdec : decR false d p = .tup [.int .i64 0, .int .i64 2] := by rw [decR, if_neg g0, hv, if_pos gv]
            rw [hdec]
            clear hdec hv hvz eup
            conv => whnf
            repeat' (first | exact rfl | (refine lf seat_g cm ?_; conv => whnf) | (refine lf seat_g cd ?_; conv => whnf) | (refine Req.mk (by decide) ?_; refine WrapH.is (up * 65536) (wrap_u64 (n := up * 65536) (by omega) (by omega)) ?_; conv => whnf) | ((first | refine zs (by omega) ?_ | refine zq6 ?_ | refine zs (by dsimp only; omega) ?_ | refine zs (show pendP _ _ by repeat' constructor) ?_ | (with_reducible first | refine brT ‹_› ?_ | refine brF ‹_› ?_ | refine zt (by omega) ?_ | refine zf (by omega) ?_ | refine brNot ?_)); conv => whnf))
          · have hdec : decR false d p = .tup [.int .i64 (up * 65536 + q), .int .i64 0] := by rw [decR, if_neg g0, hv, if_neg gv, if_neg (by decide)]
            rw [hdec]
            clear hdec hv hvz eup
            conv => whnf
            repeat' (first | exact rfl | (refine lf seat_g cm ?_; conv => whnf) | (refine lf seat_g cd ?_; conv => whnf) | (refine Req.mk (by decide) ?_; refine WrapH.is (up * 65536) (wrap_u64 (n := up * 65536) (by omega) (by omega)) ?_; conv => whnf) | ((first | refine zs (by omega) ?_ | refine zq6 ?_ | refine zs (by dsimp only; omega) ?_ | refine zs (show pendP _ _ by repeat' constructor) ?_ | (with_reducible first | refine brT ‹_› ?_ | refine brF ‹_› ?_ | refine zt (by omega) ?_ | refine zf (by omega) ?_ | refine brNot ?_)); conv => whnf))
        | true =>
          by_cases r1 : r > 50000000000000000
          · have hv : vZ true d p = up * 65536 + q + 1 := by rw [hvz, if_pos (by simp [hmm]; omega)]
            by_cases gv : up * 65536 + q + 1 ≥ 4294967296
            · have hdec : decR true d p = .tup [.int .i64 0, .int .i64 2] := by rw [decR, if_neg g0, hv, if_pos gv]
              rw [hdec]
              clear hdec hv hvz eup
              conv => whnf
              repeat' (first | exact rfl | (refine lf seat_g cm ?_; conv => whnf) | (refine lf seat_g cd ?_; conv => whnf) | (refine Req.mk (by decide) ?_; refine WrapH.is (up * 65536) (wrap_u64 (n := up * 65536) (by omega) (by omega)) ?_; conv => whnf) | ((first | refine zs (by omega) ?_ | refine zq6 ?_ | refine zs (by dsimp only; omega) ?_ | refine zs (show pendP _ _ by repeat' constructor) ?_ | (with_reducible first | refine brT ‹_› ?_ | refine brF ‹_› ?_ | refine zt (by omega) ?_ | refine zf (by omega) ?_ | refine brNot ?_)); conv => whnf))
            · have hdec : decR true d p = .tup [.int .i64 (0 - (up * 65536 + q + 1)), .int .i64 0] := by rw [decR, if_neg g0, hv, if_neg gv, if_pos rfl]
              rw [hdec]
              clear hdec hv hvz eup
              conv => whnf
              repeat' (first | exact rfl | (refine lf seat_g cm ?_; conv => whnf) | (refine lf seat_g cd ?_; conv => whnf) | (refine Req.mk (by decide) ?_; refine WrapH.is (up * 65536) (wrap_u64 (n := up * 65536) (by omega) (by omega)) ?_; conv => whnf) | ((first | refine zs (by omega) ?_ | refine zq6 ?_ | refine zs (by dsimp only; omega) ?_ | refine zs (show pendP _ _ by repeat' constructor) ?_ | (with_reducible first | refine brT ‹_› ?_ | refine brF ‹_› ?_ | refine zt (by omega) ?_ | refine zf (by omega) ?_ | refine brNot ?_)); conv => whnf))
          by_cases r2 : r = 50000000000000000
          · have hv : vZ true d p = up * 65536 + q + 1 := by rw [hvz, if_pos (by simp [hmm]; omega)]
            by_cases gv : up * 65536 + q + 1 ≥ 4294967296
            · have hdec : decR true d p = .tup [.int .i64 0, .int .i64 2] := by rw [decR, if_neg g0, hv, if_pos gv]
              rw [hdec]
              clear hdec hv hvz eup
              conv => whnf
              repeat' (first | exact rfl | (refine lf seat_g cm ?_; conv => whnf) | (refine lf seat_g cd ?_; conv => whnf) | (refine Req.mk (by decide) ?_; refine WrapH.is (up * 65536) (wrap_u64 (n := up * 65536) (by omega) (by omega)) ?_; conv => whnf) | ((first | refine zs (by omega) ?_ | refine zq6 ?_ | refine zs (by dsimp only; omega) ?_ | refine zs (show pendP _ _ by repeat' constructor) ?_ | (with_reducible first | refine brT ‹_› ?_ | refine brF ‹_› ?_ | refine zt (by omega) ?_ | refine zf (by omega) ?_ | refine brNot ?_)); conv => whnf))
            · have hdec : decR true d p = .tup [.int .i64 (0 - (up * 65536 + q + 1)), .int .i64 0] := by rw [decR, if_neg g0, hv, if_neg gv, if_pos rfl]
              rw [hdec]
              clear hdec hv hvz eup
              conv => whnf
              repeat' (first | exact rfl | (refine lf seat_g cm ?_; conv => whnf) | (refine lf seat_g cd ?_; conv => whnf) | (refine Req.mk (by decide) ?_; refine WrapH.is (up * 65536) (wrap_u64 (n := up * 65536) (by omega) (by omega)) ?_; conv => whnf) | ((first | refine zs (by omega) ?_ | refine zq6 ?_ | refine zs (by dsimp only; omega) ?_ | refine zs (show pendP _ _ by repeat' constructor) ?_ | (with_reducible first | refine brT ‹_› ?_ | refine brF ‹_› ?_ | refine zt (by omega) ?_ | refine zf (by omega) ?_ | refine brNot ?_)); conv => whnf))
          have hv : vZ true d p = up * 65536 + q := by rw [hvz, if_neg (by simp [hmm]; omega), Int.add_zero]
          by_cases gv : up * 65536 + q ≥ 4294967296
          · have hdec : decR true d p = .tup [.int .i64 0, .int .i64 2] := by rw [decR, if_neg g0, hv, if_pos gv]
            rw [hdec]
            clear hdec hv hvz eup
            conv => whnf
            repeat' (first | exact rfl | (refine lf seat_g cm ?_; conv => whnf) | (refine lf seat_g cd ?_; conv => whnf) | (refine Req.mk (by decide) ?_; refine WrapH.is (up * 65536) (wrap_u64 (n := up * 65536) (by omega) (by omega)) ?_; conv => whnf) | ((first | refine zs (by omega) ?_ | refine zq6 ?_ | refine zs (by dsimp only; omega) ?_ | refine zs (show pendP _ _ by repeat' constructor) ?_ | (with_reducible first | refine brT ‹_› ?_ | refine brF ‹_› ?_ | refine zt (by omega) ?_ | refine zf (by omega) ?_ | refine brNot ?_)); conv => whnf))
          · have hdec : decR true d p = .tup [.int .i64 (0 - (up * 65536 + q)), .int .i64 0] := by rw [decR, if_neg g0, hv, if_neg gv, if_pos rfl]
            rw [hdec]
            clear hdec hv hvz eup
            conv => whnf
            repeat' (first | exact rfl | (refine lf seat_g cm ?_; conv => whnf) | (refine lf seat_g cd ?_; conv => whnf) | (refine Req.mk (by decide) ?_; refine WrapH.is (up * 65536) (wrap_u64 (n := up * 65536) (by omega) (by omega)) ?_; conv => whnf) | ((first | refine zs (by omega) ?_ | refine zq6 ?_ | refine zs (by dsimp only; omega) ?_ | refine zs (show pendP _ _ by repeat' constructor) ?_ | (with_reducible first | refine brT ‹_› ?_ | refine brF ‹_› ?_ | refine zt (by omega) ?_ | refine zf (by omega) ?_ | refine brNot ?_)); conv => whnf))
      · have hmm : moreB d p = false := by simp [moreB, m1]; omega
        cases bl with
        | false =>
          by_cases r1 : r > 50000000000000000
          · have hv : vZ false d p = up * 65536 + q + 1 := by rw [hvz, if_pos (by simp [hmm]; omega)]
            by_cases gv : up * 65536 + q + 1 ≥ 4294967296
            · have hdec : decR false d p = .tup [.int .i64 0, .int .i64 2] := by rw [decR, if_neg g0, hv, if_pos gv]
              rw [hdec]
              clear hdec hv hvz eup
              conv => whnf
              repeat' (first | exact rfl | (refine lf seat_g cm ?_; conv => whnf) | (refine lf seat_g cd ?_; conv => whnf) | (refine Req.mk (by decide) ?_; refine WrapH.is (up * 65536) (wrap_u64 (n := up * 65536) (by omega) (by omega)) ?_; conv => whnf) | ((first | refine zs (by omega) ?_ | refine zq6 ?_ | refine zs (by dsimp only; omega) ?_ | refine zs (show pendP _ _ by repeat' constructor) ?_ | (with_reducible first | refine brT ‹_› ?_ | refine brF ‹_› ?_ | refine zt (by omega) ?_ | refine zf (by omega) ?_ | refine brNot ?_)); conv => whnf))
            · have hdec : decR false d p = .tup [.int .i64 (up * 65536 + q + 1), .int .i64 0] := by rw [decR, if_neg g0, hv, if_neg gv, if_neg (by decide)]
              rw [hdec]
              clear hdec hv hvz eup
              conv => whnf
              repeat' (first | exact rfl | (refine lf seat_g cm ?_; conv => whnf) | (refine lf seat_g cd ?_; conv => whnf) | (refine Req.mk (by decide) ?_; refine WrapH.is (up * 65536) (wrap_u64 (n := up * 65536) (by omega) (by omega)) ?_; conv => whnf) | ((first | refine zs (by omega) ?_ | refine zq6 ?_ | refine zs (by dsimp only; omega) ?_ | refine zs (show pendP _ _ by repeat' constructor) ?_ | (with_reducible first | refine brT ‹_› ?_ | refine brF ‹_› ?_ | refine zt (by omega) ?_ | refine zf (by omega) ?_ | refine brNot ?_)); conv => whnf))
          by_cases r2 : r = 50000000000000000
          · have hv : vZ false d p = up * 65536 + q + 1 := by rw [hvz, if_pos (by simp [hmm]; omega)]
            by_cases gv : up * 65536 + q + 1 ≥ 4294967296
            · have hdec : decR false d p = .tup [.int .i64 0, .int .i64 2] := by rw [decR, if_neg g0, hv, if_pos gv]
              rw [hdec]
              clear hdec hv hvz eup
              conv => whnf
              repeat' (first | exact rfl | (refine lf seat_g cm ?_; conv => whnf) | (refine lf seat_g cd ?_; conv => whnf) | (refine Req.mk (by decide) ?_; refine WrapH.is (up * 65536) (wrap_u64 (n := up * 65536) (by omega) (by omega)) ?_; conv => whnf) | ((first | refine zs (by omega) ?_ | refine zq6 ?_ | refine zs (by dsimp only; omega) ?_ | refine zs (show pendP _ _ by repeat' constructor) ?_ | (with_reducible first | refine brT ‹_› ?_ | refine brF ‹_› ?_ | refine zt (by omega) ?_ | refine zf (by omega) ?_ | refine brNot ?_)); conv => whnf))
            · have hdec : decR false d p = .tup [.int .i64 (up * 65536 + q + 1), .int .i64 0] := by rw [decR, if_neg g0, hv, if_neg gv, if_neg (by decide)]
              rw [hdec]
              clear hdec hv hvz eup
              conv => whnf
              repeat' (first | exact rfl | (refine lf seat_g cm ?_; conv => whnf) | (refine lf seat_g cd ?_; conv => whnf) | (refine Req.mk (by decide) ?_; refine WrapH.is (up * 65536) (wrap_u64 (n := up * 65536) (by omega) (by omega)) ?_; conv => whnf) | ((first | refine zs (by omega) ?_ | refine zq6 ?_ | refine zs (by dsimp only; omega) ?_ | refine zs (show pendP _ _ by repeat' constructor) ?_ | (with_reducible first | refine brT ‹_› ?_ | refine brF ‹_› ?_ | refine zt (by omega) ?_ | refine zf (by omega) ?_ | refine brNot ?_)); conv => whnf))
          have hv : vZ false d p = up * 65536 + q := by rw [hvz, if_neg (by simp [hmm]; omega), Int.add_zero]
          by_cases gv : up * 65536 + q ≥ 4294967296
          · have hdec : decR false d p = .tup [.int .i64 0, .int .i64 2] := by rw [decR, if_neg g0, hv, if_pos gv]
            rw [hdec]
            clear hdec hv hvz eup
            conv => whnf
            repeat' (first | exact rfl | (refine lf seat_g cm ?_; conv => whnf) | (refine lf seat_g cd ?_; conv => whnf) | (refine Req.mk (by decide) ?_; refine WrapH.is (up * 65536) (wrap_u64 (n := up * 65536) (by omega) (by omega)) ?_; conv => whnf) | ((first | refine zs (by omega) ?_ | refine zq6 ?_ | refine zs (by dsimp only; omega) ?_ | refine zs (show pendP _ _ by repeat' constructor) ?_ | (with_reducible first | refine brT ‹_› ?_ | refine brF ‹_› ?_ | refine zt (by omega) ?_ | refine zf (by omega) ?_ | refine brNot ?_)); conv => whnf))
          · have hdec : decR false d p = .tup [.int .i64 (up * 65536 + q), .int .i64 0] := by rw [decR, if_neg g0, hv, if_neg gv, if_neg (by decide)]
            rw [hdec]
            clear hdec hv hvz eup
            conv => whnf
            repeat' (first | exact rfl | (refine lf seat_g cm ?_; conv => whnf) | (refine lf seat_g cd ?_; conv => whnf) | (refine Req.mk (by decide) ?_; refine WrapH.is (up * 65536) (wrap_u64 (n := up * 65536) (by omega) (by omega)) ?_; conv => whnf) | ((first | refine zs (by omega) ?_ | refine zq6 ?_ | refine zs (by dsimp only; omega) ?_ | refine zs (show pendP _ _ by repeat' constructor) ?_ | (with_reducible first | refine brT ‹_› ?_ | refine brF ‹_› ?_ | refine zt (by omega) ?_ | refine zf (by omega) ?_ | refine brNot ?_)); conv => whnf))
        | true =>
          by_cases r1 : r > 50000000000000000
          · have hv : vZ true d p = up * 65536 + q + 1 := by rw [hvz, if_pos (by simp [hmm]; omega)]
            by_cases gv : up * 65536 + q + 1 ≥ 4294967296
            · have hdec : decR true d p = .tup [.int .i64 0, .int .i64 2] := by rw [decR, if_neg g0, hv, if_pos gv]
              rw [hdec]
              clear hdec hv hvz eup
              conv => whnf
              repeat' (first | exact rfl | (refine lf seat_g cm ?_; conv => whnf) | (refine lf seat_g cd ?_; conv => whnf) | (refine Req.mk (by decide) ?_; refine WrapH.is (up * 65536) (wrap_u64 (n := up * 65536) (by omega) (by omega)) ?_; conv => whnf) | ((first | refine zs (by omega) ?_ | refine zq6 ?_ | refine zs (by dsimp only; omega) ?_ | refine zs (show pendP _ _ by repeat' constructor) ?_ | (with_reducible first | refine brT ‹_› ?_ | refine brF ‹_› ?_ | refine zt (by omega) ?_ | refine zf (by omega) ?_ | refine brNot ?_)); conv => whnf))
            · have hdec : decR true d p = .tup [.int .i64 (0 - (up * 65536 + q + 1)), .int .i64 0] := by rw [decR, if_neg g0, hv, if_neg gv, if_pos rfl]
              rw [hdec]
              clear hdec hv hvz eup
              conv => whnf
              repeat' (first | exact rfl | (refine lf seat_g cm ?_; conv => whnf) | (refine lf seat_g cd ?_; conv => whnf) | (refine Req.mk (by decide) ?_; refine WrapH.is (up * 65536) (wrap_u64 (n := up * 65536) (by omega) (by omega)) ?_; conv => whnf) | ((first | refine zs (by omega) ?_ | refine zq6 ?_ | refine zs (by dsimp only; omega) ?_ | refine zs (show pendP _ _ by repeat' constructor) ?_ | (with_reducible first | refine brT ‹_› ?_ | refine brF ‹_› ?_ | refine zt (by omega) ?_ | refine zf (by omega) ?_ | refine brNot ?_)); conv => whnf))
          by_cases r2 : r = 50000000000000000
          · have hv : vZ true d p = up * 65536 + q := by rw [hvz, if_neg (by simp [hmm]; omega), Int.add_zero]
            by_cases gv : up * 65536 + q ≥ 4294967296
            · have hdec : decR true d p = .tup [.int .i64 0, .int .i64 2] := by rw [decR, if_neg g0, hv, if_pos gv]
              rw [hdec]
              clear hdec hv hvz eup
              conv => whnf
              repeat' (first | exact rfl | (refine lf seat_g cm ?_; conv => whnf) | (refine lf seat_g cd ?_; conv => whnf) | (refine Req.mk (by decide) ?_; refine WrapH.is (up * 65536) (wrap_u64 (n := up * 65536) (by omega) (by omega)) ?_; conv => whnf) | ((first | refine zs (by omega) ?_ | refine zq6 ?_ | refine zs (by dsimp only; omega) ?_ | refine zs (show pendP _ _ by repeat' constructor) ?_ | (with_reducible first | refine brT ‹_› ?_ | refine brF ‹_› ?_ | refine zt (by omega) ?_ | refine zf (by omega) ?_ | refine brNot ?_)); conv => whnf))
            · have hdec : decR true d p = .tup [.int .i64 (0 - (up * 65536 + q)), .int .i64 0] := by rw [decR, if_neg g0, hv, if_neg gv, if_pos rfl]
              rw [hdec]
              clear hdec hv hvz eup
              conv => whnf
              repeat' (first | exact rfl | (refine lf seat_g cm ?_; conv => whnf) | (refine lf seat_g cd ?_; conv => whnf) | (refine Req.mk (by decide) ?_; refine WrapH.is (up * 65536) (wrap_u64 (n := up * 65536) (by omega) (by omega)) ?_; conv => whnf) | ((first | refine zs (by omega) ?_ | refine zq6 ?_ | refine zs (by dsimp only; omega) ?_ | refine zs (show pendP _ _ by repeat' constructor) ?_ | (with_reducible first | refine brT ‹_› ?_ | refine brF ‹_› ?_ | refine zt (by omega) ?_ | refine zf (by omega) ?_ | refine brNot ?_)); conv => whnf))
          have hv : vZ true d p = up * 65536 + q := by rw [hvz, if_neg (by simp [hmm]; omega), Int.add_zero]
          by_cases gv : up * 65536 + q ≥ 4294967296
          · have hdec : decR true d p = .tup [.int .i64 0, .int .i64 2] := by rw [decR, if_neg g0, hv, if_pos gv]
            rw [hdec]
            clear hdec hv hvz eup
            conv => whnf
            repeat' (first | exact rfl | (refine lf seat_g cm ?_; conv => whnf) | (refine lf seat_g cd ?_; conv => whnf) | (refine Req.mk (by decide) ?_; refine WrapH.is (up * 65536) (wrap_u64 (n := up * 65536) (by omega) (by omega)) ?_; conv => whnf) | ((first | refine zs (by omega) ?_ | refine zq6 ?_ | refine zs (by dsimp only; omega) ?_ | refine zs (show pendP _ _ by repeat' constructor) ?_ | (with_reducible first | refine brT ‹_› ?_ | refine brF ‹_› ?_ | refine zt (by omega) ?_ | refine zf (by omega) ?_ | refine brNot ?_)); conv => whnf))
          · have hdec : decR true d p = .tup [.int .i64 (0 - (up * 65536 + q)), .int .i64 0] := by rw [decR, if_neg g0, hv, if_neg gv, if_pos rfl]
            rw [hdec]
            clear hdec hv hvz eup
            conv => whnf
            repeat' (first | exact rfl | (refine lf seat_g cm ?_; conv => whnf) | (refine lf seat_g cd ?_; conv => whnf) | (refine Req.mk (by decide) ?_; refine WrapH.is (up * 65536) (wrap_u64 (n := up * 65536) (by omega) (by omega)) ?_; conv => whnf) | ((first | refine zs (by omega) ?_ | refine zq6 ?_ | refine zs (by dsimp only; omega) ?_ | refine zs (show pendP _ _ by repeat' constructor) ?_ | (with_reducible first | refine brT ‹_› ?_ | refine brF ‹_› ?_ | refine zt (by omega) ?_ | refine zf (by omega) ?_ | refine brNot ?_)); conv => whnf))
    · have m1' : ¬ ((0 : Int) < d.length) := by omega
      have hmm : moreB d p = false := by simp [moreB]; omega
      cases bl with
      | false =>
        by_cases r1 : r > 50000000000000000
        · have hv : vZ false d p = up * 65536 + q + 1 := by rw [hvz, if_pos (by simp [hmm]; omega)]
          by_cases gv : up * 65536 + q + 1 ≥ 4294967296
          · have hdec : decR false d p = .tup [.int .i64 0, .int .i64 2] := by rw [decR, if_neg g0, hv, if_pos gv]
            rw [hdec]
            clear hdec hv hvz eup
            conv => whnf
            repeat' (first | exact rfl | (refine lf seat_g cm ?_; conv => whnf) | (refine lf seat_g cd ?_; conv => whnf) | (refine Req.mk (by decide) ?_; refine WrapH.is (up * 65536) (wrap_u64 (n := up * 65536) (by omega) (by omega)) ?_; conv => whnf) | ((first | refine zs (by omega) ?_ | refine zq6 ?_ | refine zs (by dsimp only; omega) ?_ | refine zs (show pendP _ _ by repeat' constructor) ?_ | (with_reducible first | refine brT ‹_› ?_ | refine brF ‹_› ?_ | refine zt (by omega) ?_ | refine zf (by omega) ?_ | refine brNot ?_)); conv => whnf))
          · have hdec : decR false d p = .tup [.int .i64 (up * 65536 + q + 1), .int .i64 0] := by rw [decR, if_neg g0, hv, if_neg gv, if_neg (by decide)]
            rw [hdec]
            clear hdec hv hvz eup
            conv => whnf
            repeat' (first | exact rfl | (refine lf seat_g cm ?_; conv => whnf) | (refine lf seat_g cd ?_; conv => whnf) | (refine Req.mk (by decide) ?_; refine WrapH.is (up * 65536) (wrap_u64 (n := up * 65536) (by omega) (by omega)) ?_; conv => whnf) | ((first | refine zs (by omega) ?_ | refine zq6 ?_ | refine zs (by dsimp only; omega) ?_ | refine zs (show pendP _ _ by repeat' constructor) ?_ | (with_reducible first | refine brT ‹_› ?_ | refine brF ‹_› ?_ | refine zt (by omega) ?_ | refine zf (by omega) ?_ | refine brNot ?_)); conv => whnf))
        by_cases r2 : r = 50000000000000000
        · have hv : vZ false d p = up * 65536 + q + 1 := by rw [hvz, if_pos (by simp [hmm]; omega)]
          by_cases gv : up * 65536 + q + 1 ≥ 4294967296
          · have hdec : decR false d p = .tup [.int .i64 0, .int .i64 2] := by rw [decR, if_neg g0, hv, if_pos gv]
            rw [hdec]
            clear hdec hv hvz eup
            conv => whnf
            repeat' (first | exact rfl | (refine lf seat_g cm ?_; conv => whnf) | (refine lf seat_g cd ?_; conv => whnf) | (refine Req.mk (by decide) ?_; refine WrapH.is (up * 65536) (wrap_u64 (n := up * 65536) (by omega) (by omega)) ?_; conv => whnf) | ((first | refine zs (by omega) ?_ | refine zq6 ?_ | refine zs (by dsimp only; omega) ?_ | refine zs (show pendP _ _ by repeat' constructor) ?_ | (with_reducible first | refine brT ‹_› ?_ | refine brF ‹_› ?_ | refine zt (by omega) ?_ | refine zf (by omega) ?_ | refine brNot ?_)); conv => whnf))
          · have hdec : decR false d p = .tup [.int .i64 (up * 65536 + q + 1), .int .i64 0] := by rw [decR, if_neg g0, hv, if_neg gv, if_neg (by decide)]
            rw [hdec]
            clear hdec hv hvz eup
            conv => whnf
            repeat' (first | exact rfl | (refine lf seat_g cm ?_; conv => whnf) | (refine lf seat_g cd ?_; conv => whnf) | (refine Req.mk (by decide) ?_; refine WrapH.is (up * 65536) (wrap_u64 (n := up * 65536) (by omega) (by omega)) ?_; conv => whnf) | ((first | refine zs (by omega) ?_ | refine zq6 ?_ | refine zs (by dsimp only; omega) ?_ | refine zs (show pendP _ _ by repeat' constructor) ?_ | (with_reducible first | refine brT ‹_› ?_ | refine brF ‹_› ?_ | refine zt (by omega) ?_ | refine zf (by omega) ?_ | refine brNot ?_)); conv => whnf))
        have hv : vZ false d p = up * 65536 + q := by rw [hvz, if_neg (by simp [hmm]; omega), Int.add_zero]
        by_cases gv : up * 65536 + q ≥ 4294967296
        · have hdec : decR false d p = .tup [.int .i64 0, .int .i64 2] := by rw [decR, if_neg g0, hv, if_pos gv]
          rw [hdec]
          clear hdec hv hvz eup
          conv => whnf
          repeat' (first | exact rfl | (refine lf seat_g cm ?_; conv => whnf) | (refine lf seat_g cd ?_; conv => whnf) | (refine Req.mk (by decide) ?_; refine WrapH.is (up * 65536) (wrap_u64 (n := up * 65536) (by omega) (by omega)) ?_; conv => whnf) | ((first | refine zs (by omega) ?_ | refine zq6 ?_ | refine zs (by dsimp only; omega) ?_ | refine zs (show pendP _ _ by repeat' constructor) ?_ | (with_reducible first | refine brT ‹_› ?_ | refine brF ‹_› ?_ | refine zt (by omega) ?_ | refine zf (by omega) ?_ | refine brNot ?_)); conv => whnf))
        · have hdec : decR false d p = .tup [.int .i64 (up * 65536 + q), .int .i64 0] := by rw [decR, if_neg g0, hv, if_neg gv, if_neg (by decide)]
          rw [hdec]
          clear hdec hv hvz eup
          conv => whnf
          repeat' (first | exact rfl | (refine lf seat_g cm ?_; conv => whnf) | (refine lf seat_g cd ?_; conv => whnf) | (refine Req.mk (by decide) ?_; refine WrapH.is (up * 65536) (wrap_u64 (n := up * 65536) (by omega) (by omega)) ?_; conv => whnf) | ((first | refine zs (by omega) ?_ | refine zq6 ?_ | refine zs (by dsimp only; omega) ?_ | refine zs (show pendP _ _ by repeat' constructor) ?_ | (with_reducible first | refine brT ‹_› ?_ | refine brF ‹_› ?_ | refine zt (by omega) ?_ | refine zf (by omega) ?_ | refine brNot ?_)); conv => whnf))
      | true =>
        by_cases r1 : r > 50000000000000000
        · have hv : vZ true d p = up * 65536 + q + 1 := by rw [hvz, if_pos (by simp [hmm]; omega)]
          by_cases gv : up * 65536 + q + 1 ≥ 4294967296
          · have hdec : decR true d p = .tup [.int .i64 0, .int .i64 2] := by rw [decR, if_neg g0, hv, if_pos gv]
            rw [hdec]
            clear hdec hv hvz eup
            conv => whnf
            repeat' (first | exact rfl | (refine lf seat_g cm ?_; conv => whnf) | (refine lf seat_g cd ?_; conv => whnf) | (refine Req.mk (by decide) ?_; refine WrapH.is (up * 65536) (wrap_u64 (n := up * 65536) (by omega) (by omega)) ?_; conv => whnf) | ((first | refine zs (by omega) ?_ | refine zq6 ?_ | refine zs (by dsimp only; omega) ?_ | refine zs (show pendP _ _ by repeat' constructor) ?_ | (with_reducible first | refine brT ‹_› ?_ | refine brF ‹_› ?_ | refine zt (by omega) ?_ | refine zf (by omega) ?_ | refine brNot ?_)); conv => whnf))
          · have hdec : decR true d p = .tup [.int .i64 (0 - (up * 65536 + q + 1)), .int .i64 0] := by rw [decR, if_neg g0, hv, if_neg gv, if_pos rfl]
            rw [hdec]
            clear hdec hv hvz eup
            conv => whnf
            repeat' (first | exact rfl | (refine lf seat_g cm ?_; conv => whnf) | (refine lf seat_g cd ?_; conv => whnf) | (refine Req.mk (by decide) ?_; refine WrapH.is (up * 65536) (wrap_u64 (n := up * 65536) (by omega) (by omega)) ?_; conv => whnf) | ((first | refine zs (by omega) ?_ | refine zq6 ?_ | refine zs (by dsimp only; omega) ?_ | refine zs (show pendP _ _ by repeat' constructor) ?_ | (with_reducible first | refine brT ‹_› ?_ | refine brF ‹_› ?_ | refine zt (by omega) ?_ | refine zf (by omega) ?_ | refine brNot ?_)); conv => whnf))
        by_cases r2 : r = 50000000000000000
        · have hv : vZ true d p = up * 65536 + q := by rw [hvz, if_neg (by simp [hmm]; omega), Int.add_zero]
          by_cases gv : up * 65536 + q ≥ 4294967296
          · have hdec : decR true d p = .tup [.int .i64 0, .int .i64 2] := by rw [decR, if_neg g0, hv, if_pos gv]
            rw [hdec]
            clear hdec hv hvz eup
            conv => whnf
            repeat' (first | exact rfl | (refine lf seat_g cm ?_; conv => whnf) | (refine lf seat_g cd ?_; conv => whnf) | (refine Req.mk (by decide) ?_; refine WrapH.is (up * 65536) (wrap_u64 (n := up * 65536) (by omega) (by omega)) ?_; conv => whnf) | ((first | refine zs (by omega) ?_ | refine zq6 ?_ | refine zs (by dsimp only; omega) ?_ | refine zs (show pendP _ _ by repeat' constructor) ?_ | (with_reducible first | refine brT ‹_› ?_ | refine brF ‹_› ?_ | refine zt (by omega) ?_ | refine zf (by omega) ?_ | refine brNot ?_)); conv => whnf))
          · have hdec : decR true d p = .tup [.int .i64 (0 - (up * 65536 + q)), .int .i64 0] := by rw [decR, if_neg g0, hv, if_neg gv, if_pos rfl]
            rw [hdec]
            clear hdec hv hvz eup
            conv => whnf
            repeat' (first | exact rfl | (refine lf seat_g cm ?_; conv => whnf) | (refine lf seat_g cd ?_; conv => whnf) | (refine Req.mk (by decide) ?_; refine WrapH.is (up * 65536) (wrap_u64 (n := up * 65536) (by omega) (by omega)) ?_; conv => whnf) | ((first | refine zs (by omega) ?_ | refine zq6 ?_ | refine zs (by dsimp only; omega) ?_ | refine zs (show pendP _ _ by repeat' constructor) ?_ | (with_reducible first | refine brT ‹_› ?_ | refine brF ‹_› ?_ | refine zt (by omega) ?_ | refine zf (by omega) ?_ | refine brNot ?_)); conv => whnf))
        have hv : vZ true d p = up * 65536 + q := by rw [hvz, if_neg (by simp [hmm]; omega), Int.add_zero]
        by_cases gv : up * 65536 + q ≥ 4294967296
        · have hdec : decR true d p = .tup [.int .i64 0, .int .i64 2] := by rw [decR, if_neg g0, hv, if_pos gv]
          rw [hdec]
          clear hdec hv hvz eup
          conv => whnf
          repeat' (first | exact rfl | (refine lf seat_g cm ?_; conv => whnf) | (refine lf seat_g cd ?_; conv => whnf) | (refine Req.mk (by decide) ?_; refine WrapH.is (up * 65536) (wrap_u64 (n := up * 65536) (by omega) (by omega)) ?_; conv => whnf) | ((first | refine zs (by omega) ?_ | refine zq6 ?_ | refine zs (by dsimp only; omega) ?_ | refine zs (show pendP _ _ by repeat' constructor) ?_ | (with_reducible first | refine brT ‹_› ?_ | refine brF ‹_› ?_ | refine zt (by omega) ?_ | refine zf (by omega) ?_ | refine brNot ?_)); conv => whnf))
        · have hdec : decR true d p = .tup [.int .i64 (0 - (up * 65536 + q)), .int .i64 0] := by rw [decR, if_neg g0, hv, if_neg gv, if_pos rfl]
          rw [hdec]
          clear hdec hv hvz eup
          conv => whnf
          repeat' (first | exact rfl | (refine lf seat_g cm ?_; conv => whnf) | (refine lf seat_g cd ?_; conv => whnf) | (refine Req.mk (by decide) ?_; refine WrapH.is (up * 65536) (wrap_u64 (n := up * 65536) (by omega) (by omega)) ?_; conv => whnf) | ((first | refine zs (by omega) ?_ | refine zq6 ?_ | refine zs (by dsimp only; omega) ?_ | refine zs (show pendP _ _ by repeat' constructor) ?_ | (with_reducible first | refine brT ‹_› ?_ | refine brF ‹_› ?_ | refine zt (by omega) ?_ | refine zf (by omega) ?_ | refine brNot ?_)); conv => whnf))
end Go.Proofs.YteicdddheaajlaaDoor
namespace Go.Proofs.YteicdddheaajlaaDoor
open Go.Abs
def memP (bl : Bool) (N : Nat) (P : Int) (u d : Nat) : Heap := [.var [.bool bl, .bool false, lv (dig N), .int .i64 P] 125, .var [.bool false, lv (dig u)] 123, .var [.bool false, lv (dig d)] 123]
theorem dig_le16 {n k : Nat} (h : n < 10 ^ (4 * k)) (hk : k ≤ 400) : (dig n).length ≤ 400 := Nat.le_trans (dig_length_lt (Nat.lt_of_lt_of_le h (ten_le (Nat.le_refl _)))) hk
theorem pow_step {b e f : Nat} (hb : 0 < b) (h : e + 1 ≤ f) : b ^ e * b ≤ b ^ f := by rw [← Nat.pow_succ]; exact Nat.pow_le_pow_right hb h
set_option maxRecDepth 20000 in
set_option maxHeartbeats 2000000 in
theorem c_rparseV (s : List UInt8) (bl : Bool) (N : Nat) (P : Int) (hl : s.length ≤ 400) (hsc : scR true s 0 = (s.length, true)) (cr : ACalls seat 79 [.str s] [] (fun x _ => x = .ret (rV bl N P))) (hN : N < 10 ^ (4 * 100)) (hP : -(1400 : Int) ≤ P ∧ P ≤ 1000) :
    ACalls seat 71 [.str s] [] (fun x _ => x = .ret (outV (refV bl N P))) := by
  have c1 : ACalls seat 70 [.str s, .int .i64 0, .bool true] [] (fun x _ => x = .ret (.tup [.int .i64 (s.length : Nat), .bool true])) := by
    have := c_rscan s 0 true (by omega) (by omega)
    rw [hsc] at this; exact this
  have hdl10 : (dig 10).length ≤ 400 := Nat.le_trans (dig_length_lt (k := 1) (by decide)) (by decide)
  have s10 := c_small 10 (by decide)
  have hNU : ∀ k, k ≤ 1000 → N * 65536 * 10 ^ k < 10 ^ (4 * 352) := fun k hk => by
    obtain ⟨A, hA⟩ : ∃ A, A = 4 * 100 := ⟨_, rfl⟩
    rw [← hA] at hN
    have h1 : N * 65536 < 10 ^ A * 10 ^ 5 := Nat.mul_lt_mul'' hN (by decide)
    have h2 : N * 65536 * 10 ^ k < 10 ^ A * 10 ^ 5 * 10 ^ k := Nat.mul_lt_mul_of_pos_right h1 (Nat.pow_pos (by decide))
    refine Nat.lt_of_lt_of_le h2 ?_
    rw [← Nat.pow_add, ← Nat.pow_add]
    have h3 : A + 5 + k ≤ 4 * 352 := by omega
    generalize 4 * 352 = E at *
    exact Nat.pow_le_pow_right (by decide) h3
  have hND : ∀ k, k ≤ 1400 → 10 ^ k < 10 ^ (4 * 352) := fun k hk => by
    have h3 : k < 4 * 352 := by omega
    generalize 4 * 352 = E at *
    exact Nat.pow_lt_pow_right (by decide) h3
  refine ACalls.bodyS seat_ok Tryd.func71 rfl rfl ?_
  refine Sat.splitAt seat_ok (fun t h => t = (uu::uu::uu::uu::uu::uu::.ptr 0 0::.ptr 1 0::.ptr 2 0::uu::uu::uu::uu::uu::uu::uu::uu::uu::uu::uu::uu::uu::uu::uu::uu::uu::uu::uu::uu::uu::uu::uu::uu::uu::uu::uu::uu::uu::uu::uu::uu::uu::uu::uu::uu::uu::uu::uu::uu::uu::uu::uu::uu::uu::uu::uu::uu::uu::uu::uu::uu::uu::uu::uu::uu::uu::uu::uu::uu::uu::uu::uu::uu::uu::uu::uu::uu::uu::[]) ∧ h = memP bl N P (N * 65536) 1) 6 ?_ ?_
  · have s6 := c_small 65536 (by decide)
    have s1 := c_small 1 (by decide)
    have hdn : (dig N).length ≤ 400 := dig_le16 hN (by decide)
    have m1 : ACalls seat 80 [nv false N, nv false 65536] [] (fun x _ => x = .ret (nv false (N * 65536))) := c_mul false false N 65536 (by omega) (Nat.le_trans (dig_length_lt (k := 2) (by decide)) (by decide))
    conv => whnf
    repeat' (first | exact ⟨_, keepT_weak (maskOf 78 [6, 7, 8]) _, rfl, rfl⟩ | (refine lf seat_g c1 ?_; conv => whnf) | (refine CallH.lift seat_g cr (by simp [Closed, ClosedL]) (rV_closed _ _ _) ?_; conv => whnf) | (refine CallH.lift seat_g s6 (by simp [Closed, ClosedL]) (nv_closed _ _) ?_; conv => whnf) | (refine CallH.lift seat_g s1 (by simp [Closed, ClosedL]) (nv_closed _ _) ?_; conv => whnf) | (refine CallH.lift seat_g m1 ⟨nv_closed _ _, nv_closed _ _, trivial⟩ (nv_closed _ _) ?_; conv => whnf) | (refine DrawH.plan seat_ok (.take 0 (.take 1 (.both (.perform 2 none (.both (.perform 3 none (.perform 4 (some 1) (.perform 5 none Plan.done))) (.perform 4 (some 1) (.perform 3 none (.perform 5 none Plan.done))))) (.perform 4 (some 1) (.perform 2 none (.perform 3 none (.perform 5 none Plan.done))))))) 1 (by kernel_rfl) ?_; conv => whnf) | ((first | refine zs (by omega) ?_ | refine zq6 ?_ | refine zs (by dsimp only; omega) ?_ | refine zs (show pendP _ _ by repeat' constructor) ?_ | (with_reducible first | refine brT ‹_› ?_ | refine brF ‹_› ?_ | refine zt (by omega) ?_ | refine zf (by omega) ?_ | refine brNot ?_)); conv => whnf) | (refine And.intro ?_ ?_ <;> (conv => whnf)))
  rintro _ _ ⟨rfl, rfl⟩
  clear cr c1 hsc
  refine Sat.splitAt seat_ok (fun t h => t = (uu::uu::uu::uu::uu::uu::.ptr 0 0::.ptr 1 0::.ptr 2 0::uu::uu::uu::uu::uu::uu::uu::uu::uu::uu::uu::uu::uu::uu::uu::uu::uu::uu::uu::uu::uu::uu::uu::uu::uu::uu::uu::uu::uu::uu::uu::uu::uu::uu::uu::uu::uu::uu::uu::uu::uu::uu::uu::uu::uu::uu::uu::uu::uu::uu::uu::uu::uu::uu::uu::uu::uu::uu::uu::uu::uu::uu::uu::uu::uu::uu::uu::uu::uu::[]) ∧ h = memP bl N P (upM N P) 1) 1 ?_ ?_
  · conv => whnf
    refine Sat.cut (fun x t h => x = .exit 0 ∧ t = (uu::uu::uu::uu::uu::uu::.ptr 0 0::.ptr 1 0::.ptr 2 0::uu::uu::uu::uu::uu::uu::uu::uu::uu::uu::uu::uu::uu::uu::uu::uu::uu::uu::uu::uu::uu::uu::uu::uu::uu::uu::uu::uu::uu::uu::uu::uu::uu::uu::uu::uu::uu::uu::uu::uu::uu::uu::uu::uu::uu::uu::uu::uu::uu::uu::uu::uu::uu::uu::uu::uu::uu::uu::uu::uu::uu::uu::uu::uu::uu::uu::uu::uu::uu::[]) ∧ h = memP bl N P (upM N P) 1) ?_ ?_
    · refine Sat.invP seat_ok seat_g (maskOf 78 [6, 7, 8, 9]) 3 (fun μ t h => ∃ (i : Nat) (n : Int) (u : Nat), i ≤ P.toNat ∧ n = i ∧ u = N * 65536 * 10 ^ i ∧ μ = P.toNat - i ∧ t = (uu::uu::uu::uu::uu::uu::.ptr 0 0::.ptr 1 0::.ptr 2 0::.int .i64 n::uu::uu::uu::uu::uu::uu::uu::uu::uu::uu::uu::uu::uu::uu::uu::uu::uu::uu::uu::uu::uu::uu::uu::uu::uu::uu::uu::uu::uu::uu::uu::uu::uu::uu::uu::uu::uu::uu::uu::uu::uu::uu::uu::uu::uu::uu::uu::uu::uu::uu::uu::uu::uu::uu::uu::uu::uu::uu::uu::uu::uu::uu::uu::uu::uu::uu::uu::uu::[]) ∧ h = memP bl N P u 1)
        ?_ ⟨_, _, WeakL.of_eq rfl, 0, 0, _, by omega, rfl, by rw [Nat.pow_zero, Nat.mul_one], rfl, rfl, rfl⟩ ?_
      · rintro _ _ _ ⟨i, n, u, -, -, -, -, rfl, rfl⟩
        exact ⟨rfl, (by simp [IdsL, Ids, IdsH, IdsC, lv_ids, ci_ids]), by simp [memP, IdsH, IdsC, IdsL, Ids, lv_ids]⟩
      rintro _ _ _ ⟨i, n, u, hi, hn, hu, rfl, rfl, rfl⟩
      have hub := hNU i (by omega)
      rw [← hu] at hub
      have hud := dig_le16 hub (by decide)
      by_cases g : n < P
      · have m1 : ACalls seat 80 [nv false u, nv false 10] [] (fun x _ => x = .ret (nv false (u * 10))) := c_mul false false u 10 (by omega) (by omega)
        have hu2 : u * 10 = N * 65536 * 10 ^ (i + 1) := by rw [hu, Nat.pow_succ, Nat.mul_assoc]
        clear hNU hND
        unfold memP
        conv => whnf
        repeat' (first | exact ⟨_, _, Nat.sub_lt_sub_left (by omega) (Nat.lt_succ_self i), WeakL.of_eq rfl, i + 1, n + 1, u * 10, by omega, by omega, hu2, rfl, rfl, rfl⟩ | (refine CallH.lift seat_g s10 (by simp [Closed, ClosedL]) (nv_closed _ _) ?_; conv => whnf) | (refine CallH.lift seat_g m1 ⟨nv_closed _ _, nv_closed _ _, trivial⟩ (nv_closed _ _) ?_; conv => whnf) | (refine DrawH.plan seat_ok (.take 0 (.perform 1 none (.perform 2 none (.perform 3 none Plan.done)))) 0 (by kernel_rfl) ?_; conv => whnf) | ((first | refine zs (by omega) ?_ | refine zq6 ?_ | refine zs (by dsimp only; omega) ?_ | refine zs (show pendP _ _ by repeat' constructor) ?_ | (with_reducible first | refine brT ‹_› ?_ | refine brF ‹_› ?_ | refine zt (by omega) ?_ | refine zf (by omega) ?_ | refine brNot ?_)); conv => whnf))
      · have hu2 : u = upM N P := by rw [hu, show i = P.toNat by omega]; rfl
        rw [← hu2]
        unfold memP
        conv => whnf
        repeat' ((first | refine zs (by omega) ?_ | refine zq6 ?_ | refine zs (by dsimp only; omega) ?_ | refine zs (show pendP _ _ by repeat' constructor) ?_ | (with_reducible first | refine brT ‹_› ?_ | refine brF ‹_› ?_ | refine zt (by omega) ?_ | refine zf (by omega) ?_ | refine brNot ?_)); conv => whnf)
        exact ⟨_, keepT_weak (maskOf 78 [6, 7, 8]) _, rfl, rfl, rfl⟩
    · rintro _ _ _ ⟨rfl, rfl, rfl⟩
      conv => whnf
      exact ⟨_, keepT_weak (maskOf 78 [6, 7, 8]) _, rfl, rfl⟩
  rintro _ _ ⟨rfl, rfl⟩
  have hUb : upM N P < 10 ^ (4 * 352) := hNU _ (by omega)
  have hDb : dnM P < 10 ^ (4 * 352) := hND _ (by omega)
  generalize hU : upM N P = U at *
  refine Sat.splitAt seat_ok (fun t h => t = (uu::uu::uu::uu::uu::uu::.ptr 0 0::.ptr 1 0::.ptr 2 0::uu::uu::uu::uu::uu::uu::uu::uu::uu::uu::uu::uu::uu::uu::uu::uu::uu::uu::uu::uu::uu::uu::uu::uu::uu::uu::uu::uu::uu::uu::uu::uu::uu::uu::uu::uu::uu::uu::uu::uu::uu::uu::uu::uu::uu::uu::uu::uu::uu::uu::uu::uu::uu::uu::uu::uu::uu::uu::uu::uu::uu::uu::uu::uu::uu::uu::uu::uu::uu::[]) ∧ h = memP bl N P U (dnM P)) 1 ?_ ?_
  · conv => whnf
    refine Sat.cut (fun x t h => x = .exit 2 ∧ t = (uu::uu::uu::uu::uu::uu::.ptr 0 0::.ptr 1 0::.ptr 2 0::uu::uu::uu::uu::uu::uu::uu::uu::uu::uu::uu::uu::uu::uu::uu::uu::uu::uu::uu::uu::uu::uu::uu::uu::uu::uu::uu::uu::uu::uu::uu::uu::uu::uu::uu::uu::uu::uu::uu::uu::uu::uu::uu::uu::uu::uu::uu::uu::uu::uu::uu::uu::uu::uu::uu::uu::uu::uu::uu::uu::uu::uu::uu::uu::uu::uu::uu::uu::uu::[]) ∧ h = memP bl N P U (dnM P)) ?_ ?_
    · refine Sat.invP seat_ok seat_g (maskOf 78 [6, 7, 8, 10]) 3 (fun μ t h => ∃ (i : Nat) (n : Int) (d : Nat), i ≤ (0 - P).toNat ∧ n = 0 - (i : Int) ∧ d = 10 ^ i ∧ μ = (0 - P).toNat - i ∧ t = (uu::uu::uu::uu::uu::uu::.ptr 0 0::.ptr 1 0::.ptr 2 0::uu::.int .i64 n::uu::uu::uu::uu::uu::uu::uu::uu::uu::uu::uu::uu::uu::uu::uu::uu::uu::uu::uu::uu::uu::uu::uu::uu::uu::uu::uu::uu::uu::uu::uu::uu::uu::uu::uu::uu::uu::uu::uu::uu::uu::uu::uu::uu::uu::uu::uu::uu::uu::uu::uu::uu::uu::uu::uu::uu::uu::uu::uu::uu::uu::uu::uu::uu::uu::uu::uu::[]) ∧ h = memP bl N P U d)
        ?_ ⟨_, _, WeakL.of_eq rfl, 0, 0, _, by omega, rfl, by rw [Nat.pow_zero], rfl, rfl, rfl⟩ ?_
      · rintro _ _ _ ⟨i, n, u, -, -, -, -, rfl, rfl⟩
        exact ⟨rfl, (by simp [IdsL, Ids, IdsH, IdsC, lv_ids, ci_ids]), by simp [memP, IdsH, IdsC, IdsL, Ids, lv_ids]⟩
      rintro _ _ _ ⟨i, n, u, hi, hn, hu, rfl, rfl, rfl⟩
      have hub := hND i (by omega)
      rw [← hu] at hub
      have hud := dig_le16 hub (by decide)
      by_cases g : n > P
      · have m1 : ACalls seat 80 [nv false u, nv false 10] [] (fun x _ => x = .ret (nv false (u * 10))) := c_mul false false u 10 (by omega) (by omega)
        have hu2 : u * 10 = 10 ^ (i + 1) := by rw [hu, Nat.pow_succ]
        clear hNU hND
        unfold memP
        conv => whnf
        repeat' (first | exact ⟨_, _, Nat.sub_lt_sub_left (by omega) (Nat.lt_succ_self i), WeakL.of_eq rfl, i + 1, n - 1, u * 10, by omega, by omega, hu2, rfl, rfl, rfl⟩ | (refine CallH.lift seat_g s10 (by simp [Closed, ClosedL]) (nv_closed _ _) ?_; conv => whnf) | (refine CallH.lift seat_g m1 ⟨nv_closed _ _, nv_closed _ _, trivial⟩ (nv_closed _ _) ?_; conv => whnf) | (refine DrawH.plan seat_ok (.take 0 (.perform 1 none (.perform 2 none (.perform 3 none Plan.done)))) 0 (by kernel_rfl) ?_; conv => whnf) | ((first | refine zs (by omega) ?_ | refine zq6 ?_ | refine zs (by dsimp only; omega) ?_ | refine zs (show pendP _ _ by repeat' constructor) ?_ | (with_reducible first | refine brT ‹_› ?_ | refine brF ‹_› ?_ | refine zt (by omega) ?_ | refine zf (by omega) ?_ | refine brNot ?_)); conv => whnf))
      · have hu2 : u = dnM P := by rw [hu, show i = (0 - P).toNat by omega]; rfl
        rw [← hu2]
        unfold memP
        conv => whnf
        repeat' ((first | refine zs (by omega) ?_ | refine zq6 ?_ | refine zs (by dsimp only; omega) ?_ | refine zs (show pendP _ _ by repeat' constructor) ?_ | (with_reducible first | refine brT ‹_› ?_ | refine brF ‹_› ?_ | refine zt (by omega) ?_ | refine zf (by omega) ?_ | refine brNot ?_)); conv => whnf)
        exact ⟨_, keepT_weak (maskOf 78 [6, 7, 8]) _, rfl, rfl, rfl⟩
    · rintro _ _ _ ⟨rfl, rfl, rfl⟩
      conv => whnf
      exact ⟨_, keepT_weak (maskOf 78 [6, 7, 8]) _, rfl, rfl⟩
  rintro _ _ ⟨rfl, rfl⟩
  unfold refV
  rw [hU]
  have hD0 : 0 < dnM P := Nat.pow_pos (by decide)
  generalize dnM P = D at *
  have hdU := dig_le16 hUb (by decide)
  have hdD := dig_le16 hDb (by decide)
  have hz := lenZ U
  refine Sat.splitAt seat_ok (fun t h => t = (uu::uu::uu::uu::uu::uu::.ptr 0 0::.ptr 1 0::.ptr 2 0::uu::uu::uu::uu::uu::uu::uu::uu::uu::uu::uu::uu::uu::uu::uu::uu::uu::uu::uu::uu::uu::uu::uu::uu::uu::uu::uu::uu::uu::uu::uu::uu::uu::uu::uu::uu::uu::uu::uu::uu::uu::uu::uu::uu::uu::uu::uu::uu::uu::uu::uu::uu::uu::uu::uu::uu::uu::uu::uu::uu::uu::uu::uu::uu::uu::uu::uu::uu::uu::[]) ∧ h = [.var [.bool bl, .bool false, lv (dig N), .int .i64 P] 125, .var [.bool (bl && decide (0 < U)), lv (dig U)] 123, .var [.bool false, lv (dig D)] 123]) 1 ?_ ?_
  · unfold memP
    cases bl with
    | false =>
      conv => whnf
      repeat' (first | exact ⟨_, keepT_weak (maskOf 78 [6, 7, 8]) _, rfl, rfl⟩ | ((first | refine zs (by omega) ?_ | refine zq6 ?_ | refine zs (by dsimp only; omega) ?_ | refine zs (show pendP _ _ by repeat' constructor) ?_ | (with_reducible first | refine brT ‹_› ?_ | refine brF ‹_› ?_ | refine zt (by omega) ?_ | refine zf (by omega) ?_ | refine brNot ?_)); conv => whnf))
    | true =>
      conv => whnf
      repeat' (first | exact ⟨_, keepT_weak (maskOf 78 [6, 7, 8]) _, rfl, by rw [hz]; rfl⟩ | ((first | refine zs (by omega) ?_ | refine zq6 ?_ | refine zs (by dsimp only; omega) ?_ | refine zs (show pendP _ _ by repeat' constructor) ?_ | (with_reducible first | refine brT ‹_› ?_ | refine brF ‹_› ?_ | refine zt (by omega) ?_ | refine zf (by omega) ?_ | refine brNot ?_)); conv => whnf))
  rintro _ _ ⟨rfl, rfl⟩
  generalize (bl && decide (0 < U)) = sU
  have h14 := @ten_le2 (4 * 352) 6400 (by decide)
  have cn := c_near01 6400 402 (by decide) (by decide) sU U D hD0 (Nat.lt_of_lt_of_le hUb h14) (Nat.lt_of_lt_of_le hDb h14)
  have hmb := nearM_bd sU U D
  generalize nearM sU U D = NR at *
  obtain ⟨sN, mN⟩ := NR
  simp only at hmb cn ⊢
  have hmN : mN < 65536 ^ 401 := by
    have h1 := @ten_le (4 * 352) 352 (by decide)
    have h2 := @pow_step 65536 352 401 (by decide) (by decide)
    generalize 65536 ^ 352 = A at *
    generalize 65536 ^ 401 = B at *
    omega
  have hlN := dig_length_lt hmN
  clear h14 hmN hmb hUb hDb hNU hND
  refine codeR_sound seat_ok _ _ _ _ ?_
  by_cases hb : mN < 9223372036854775808
  · have cp := c_plain01 sN mN hb
    by_cases h1 : 4294967296 ≤ sg sN mN
    · rw [show outV (sg sN mN) = .tup [.int .i64 0, .int .i64 2] from if_pos (.inl h1)]
      generalize sg sN mN = v at *
      conv => whnf
      repeat' (first | rfl | (refine CallH.lift seat_g cn ⟨nv_closed _ _, nv_closed _ _, trivial⟩ (nv_closed _ _) ?_; conv => whnf) | (refine CallH.lift seat_g cp ⟨nv_closed _ _, trivial⟩ (by simp [Closed, ClosedL]) ?_; conv => whnf) | ((first | refine zs (by omega) ?_ | refine zq6 ?_ | refine zs (by dsimp only; omega) ?_ | refine zs (show pendP _ _ by repeat' constructor) ?_ | (with_reducible first | refine brT ‹_› ?_ | refine brF ‹_› ?_ | refine zt (by omega) ?_ | refine zf (by omega) ?_ | refine brNot ?_)); conv => whnf))
    · by_cases h2 : sg sN mN ≤ -4294967296
      · rw [show outV (sg sN mN) = .tup [.int .i64 0, .int .i64 2] from if_pos (.inr h2)]
        generalize sg sN mN = v at *
        conv => whnf
        repeat' (first | rfl | (refine CallH.lift seat_g cn ⟨nv_closed _ _, nv_closed _ _, trivial⟩ (nv_closed _ _) ?_; conv => whnf) | (refine CallH.lift seat_g cp ⟨nv_closed _ _, trivial⟩ (by simp [Closed, ClosedL]) ?_; conv => whnf) | ((first | refine zs (by omega) ?_ | refine zq6 ?_ | refine zs (by dsimp only; omega) ?_ | refine zs (show pendP _ _ by repeat' constructor) ?_ | (with_reducible first | refine brT ‹_› ?_ | refine brF ‹_› ?_ | refine zt (by omega) ?_ | refine zf (by omega) ?_ | refine brNot ?_)); conv => whnf))
      · rw [show outV (sg sN mN) = .tup [.int .i64 (sg sN mN), .int .i64 0] from if_neg (by omega)]
        generalize sg sN mN = v at *
        conv => whnf
        repeat' (first | rfl | (refine CallH.lift seat_g cn ⟨nv_closed _ _, nv_closed _ _, trivial⟩ (nv_closed _ _) ?_; conv => whnf) | (refine CallH.lift seat_g cp ⟨nv_closed _ _, trivial⟩ (by simp [Closed, ClosedL]) ?_; conv => whnf) | ((first | refine zs (by omega) ?_ | refine zq6 ?_ | refine zs (by dsimp only; omega) ?_ | refine zs (show pendP _ _ by repeat' constructor) ?_ | (with_reducible first | refine brT ‹_› ?_ | refine brF ‹_› ?_ | refine zt (by omega) ?_ | refine zf (by omega) ?_ | refine brNot ?_)); conv => whnf))
  · have cp := c_plain02 sN mN (by omega) (by omega)
    have hv : outV (sg sN mN) = .tup [.int .i64 0, .int .i64 2] := if_pos (by cases sN <;> simp [sg] <;> omega)
    rw [hv]
    by_cases hs : sN = true ∧ mN = 9223372036854775808
    · rw [if_pos hs] at cp
      conv => whnf
      repeat' (first | rfl | (refine CallH.lift seat_g cn ⟨nv_closed _ _, nv_closed _ _, trivial⟩ (nv_closed _ _) ?_; conv => whnf) | (refine CallH.lift seat_g cp ⟨nv_closed _ _, trivial⟩ (by simp [Closed, ClosedL]) ?_; conv => whnf) | ((first | refine zs (by omega) ?_ | refine zq6 ?_ | refine zs (by dsimp only; omega) ?_ | refine zs (show pendP _ _ by repeat' constructor) ?_ | (with_reducible first | refine brT ‹_› ?_ | refine brF ‹_› ?_ | refine zt (by omega) ?_ | refine zf (by omega) ?_ | refine brNot ?_)); conv => whnf))
    · rw [if_neg hs] at cp
      conv => whnf
      repeat' (first | rfl | (refine CallH.lift seat_g cn ⟨nv_closed _ _, nv_closed _ _, trivial⟩ (nv_closed _ _) ?_; conv => whnf) | (refine CallH.lift seat_g cp ⟨nv_closed _ _, trivial⟩ (by simp [Closed, ClosedL]) ?_; conv => whnf) | ((first | refine zs (by omega) ?_ | refine zq6 ?_ | refine zs (by dsimp only; omega) ?_ | refine zs (show pendP _ _ by repeat' constructor) ?_ | (with_reducible first | refine brT ‹_› ?_ | refine brF ‹_› ?_ | refine zt (by omega) ?_ | refine zf (by omega) ?_ | refine brNot ?_)); conv => whnf))
end Go.Proofs.YteicdddheaajlaaDoor
namespace Go.Proofs.YteicdddheaajlaaDoor
open Go.Abs
theorem rd_sign {S : List UInt8} (hS : S = [] ∨ S = [43] ∨ S = [45]) : rdM S = ⟨S == [45], [], 0, false⟩ := by
  rcases hS with rfl | rfl | rfl <;> rfl
def RdOK (bl : Bool) (r : RS) (f : Nat × Nat × Bool) : Prop :=
  r.below = bl ∧ (∀ x ∈ r.ds, 0 ≤ x ∧ x ≤ 9) ∧ (r.ds = [] ∨ ∃ x l, r.ds = x :: l ∧ 0 < x) ∧ (f.1 : Int) = valD r.ds ∧ r.pt = (r.ds.length : Int) - f.2.1 ∧ r.seen = f.2.2 ∧ (f.2.2 = false → f.2.1 = 0)
theorem rd_step {bl : Bool} {r : RS} {f : Nat × Nat × Bool} {b : UInt8} (hk : kindN b.toNat = 0 ∨ kindN b.toNat = 1) (h : RdOK bl r f) : RdOK bl (rdStep r b) (rStep f b) := by
  obtain ⟨below, ds, pt, seen⟩ := r
  obtain ⟨N, bh, dot⟩ := f
  obtain ⟨h1, h2, h3, h4, h5, h6, h7⟩ := h
  simp only at h1 h2 h3 h4 h5 h6 h7
  subst h1 h6
  have hc := kindN_cases b.toNat
  unfold rdStep rStep
  rcases hk with hk | hk
  · rw [if_pos hk, if_neg (by omega)]
    simp only
    have hb : 48 ≤ (b.toNat : Int) ∧ (b.toNat : Int) ≤ 57 := by omega
    obtain ⟨c, hcc⟩ : ∃ c : Nat, (b.toNat : Int) - 48 = c := ⟨((b.toNat : Int) - 48).toNat, by omega⟩
    rw [hcc, Int.toNat_natCast]
    have hv : ((N * 10 + c : Nat) : Int) = 10 * valD ds + c := by rw [← h4]; omega
    have hds : dsF ds b.toNat = ds ++ [(c : Int)] ∨ (dsF ds b.toNat = [] ∧ ds = [] ∧ c = 0) := by
      unfold dsF
      by_cases h : (b.toNat : Int) ≠ 48 ∨ 0 < ds.length
      · rw [if_pos h, hcc]; exact .inl rfl
      · rw [if_neg h]
        obtain rfl : ds = [] := List.length_eq_zero_iff.1 (by omega)
        exact .inr ⟨rfl, rfl, by omega⟩
    have hne : dsF ds b.toNat = ds ++ [(c : Int)] → ds = [] → 0 < (c : Int) := fun h he => by
      subst he
      unfold dsF at h
      by_cases h8 : (b.toNat : Int) ≠ 48 ∨ 0 < ([] : List Int).length
      · simp at h8; omega
      · rw [if_neg h8] at h; exact absurd h (by simp)
    rcases hds with hds | ⟨hds, rfl, rfl⟩
    · have hn := hne hds
      rw [hds]
      refine ⟨rfl, ?_, ?_, by rw [valD_snoc]; exact hv, ?_, rfl, ?_⟩
      · intro x hx
        rcases List.mem_append.1 hx with hx | hx
        · exact h2 x hx
        · rw [List.mem_singleton.1 hx]; omega
      · refine .inr ?_
        rcases h3 with rfl | ⟨x, l, rfl, hx⟩
        · exact ⟨c, [], rfl, hn rfl⟩
        · exact ⟨x, l ++ [(c : Int)], rfl, hx⟩
      · simp only [List.length_append, List.length_singleton]
        unfold ptF
        cases seen with
        | false =>
          have := h7 rfl
          simp only [if_true, List.length_append, List.length_singleton, Bool.false_eq_true, if_false]
          rw [if_pos (by omega)]; omega
        | true =>
          simp only [Bool.true_eq_false, if_false, List.length_append, List.length_singleton, if_true]
          rw [if_neg (by omega)]; omega
      · intro h; simp only at h; simp only [h, Bool.false_eq_true, if_false]; exact h7 h
    · rw [hds]
      refine ⟨rfl, by simp, .inl rfl, by simpa [valD, preN] using hv, ?_, rfl, ?_⟩
      · simp only [List.length_nil] at h5 ⊢
        unfold ptF
        cases seen with
        | false =>
          have := h7 rfl
          simp only [if_true, List.length_nil, Bool.false_eq_true, if_false]
          rw [if_neg (by omega)]; omega
        | true =>
          simp only [Bool.true_eq_false, if_false, List.length_nil, if_true]
          omega
      · intro h; simp only at h; simp only [h, Bool.false_eq_true, if_false]; exact h7 h
  · rw [if_neg (by omega), if_pos hk, if_pos hk]
    exact ⟨rfl, h2, h3, h4, h5, rfl, fun h => by cases h⟩
theorem rd_fold {S : List UInt8} (hS : S = [] ∨ S = [43] ∨ S = [45]) : ∀ (n : Nat) (M : List UInt8), M.length = n → (∀ b ∈ M, kindN b.toNat = 0 ∨ kindN b.toNat = 1) → RdOK (S == [45]) (rdM (S ++ M)) (rFold M)
  | 0, M, h, _ => by
    obtain rfl := List.length_eq_zero_iff.1 h
    rw [List.append_nil, rd_sign hS]
    exact ⟨rfl, by simp, .inl rfl, rfl, rfl, rfl, fun _ => rfl⟩
  | n + 1, M, h, hk => by
    have hne : M ≠ [] := by intro h2; rw [h2] at h; simp at h
    have e := (List.dropLast_concat_getLast hne).symm
    have hl : M.dropLast.length = n := by rw [List.length_dropLast]; omega
    have ih := rd_fold hS n _ hl (fun c h => hk c (List.dropLast_subset _ h))
    have h1 := hk _ (List.getLast_mem hne)
    rw [e, rFold_snoc, ← List.append_assoc, rdM_snoc]
    exact rd_step h1 ih
theorem pow_caps : ∀ (n : Nat) (C : List UInt8), C.length = n → (∀ c ∈ C, kindN c.toNat = 0) → powF 1000 0 C = if powF 1099511627776 0 C ≤ 1000 then powF 1099511627776 0 C else 1000
  | 0, C, h, _ => by
    obtain rfl := List.length_eq_zero_iff.1 h
    simp [powF]
  | n + 1, C, h, hk => by
    have hne : C ≠ [] := by intro h2; rw [h2] at h; simp at h
    have e := (List.dropLast_concat_getLast hne).symm
    have hl : C.dropLast.length = n := by rw [List.length_dropLast]; omega
    have ih := pow_caps n _ hl (fun c h => hk c (List.dropLast_subset _ h))
    have hb := powF_bd (cap := 1099511627776) (by decide) n _ hl (fun c h => hk c (List.dropLast_subset _ h))
    have h0 := kindN_cases (C.getLast hne).toNat
    have h1 := hk _ (List.getLast_mem hne)
    rw [e, powF_snoc, powF_snoc, ih]
    generalize powF 1099511627776 0 C.dropLast = x at *
    generalize C.getLast hne = c at *
    by_cases hx : x ≤ 1000
    · rw [if_pos hx, if_neg (show ¬ 1099511627776 < 10 * x + ((c.toNat : Int) - 48) by omega)]
      split
      · rw [if_neg (by omega)]
      · rw [if_pos (by omega)]
    · rw [if_neg hx, if_pos (by omega)]
      split
      · rw [if_neg (by omega)]
      · rw [if_neg (by omega)]
def txtN (A : List UInt8) (B : Option (List UInt8)) : Nat := (rFold (A ++ dotL B)).1
def txtP (A : List UInt8) (B : Option (List UInt8)) (ex : Option (UInt8 × List UInt8 × List UInt8)) : Int := (if exDown ex = true then 0 - exPow 1000 ex else exPow 1000 ex) - (rFold (A ++ dotL B)).2.1
def txtV (S A : List UInt8) (B : Option (List UInt8)) (ex : Option (UInt8 × List UInt8 × List UInt8)) : AV := outV (refV (S == [45]) (txtN A B) (txtP A B ex))
theorem M_kinds {A : List UInt8} {B : Option (List UInt8)} (hA : digL A) (hB : digL (B.getD [])) : ∀ b ∈ A ++ dotL B, kindN b.toNat = 0 ∨ kindN b.toNat = 1 := fun b hb => by
  rcases List.mem_append.1 hb with h | h
  · exact .inl (hA b h)
  · cases B with
    | none => exact absurd h (by simp [dotL])
    | some B =>
      rcases List.mem_cons.1 h with rfl | h
      · exact .inr (by decide)
      · exact .inl (hB b h)
theorem c_rparse_txt {S A : List UInt8} {B : Option (List UInt8)} {ex} (h : TxtOK S A B ex) (hl : (txt S A B ex).length ≤ 400) :
    ACalls seat 71 [.str (txt S A B ex)] [] (fun x _ => x = .ret (txtV S A B ex)) := by
  have hk := M_kinds h.hA h.hB
  have cr := c_rread S (A ++ dotL B) ex h.hS hk h.hex hl
  have hlen : (A ++ dotL B).length ≤ 400 := by
    unfold txt at hl; rw [List.length_append, List.length_append] at hl; omega
  have hbd := rFold_bd _ _ rfl hk
  have hp : 0 ≤ exPow 1000 ex ∧ exPow 1000 ex ≤ 1000 := by
    cases ex with
    | none => simp [exPow]
    | some x => exact powF_bd (by decide) _ _ rfl h.hex.2.2.2
  have hN : (rFold (A ++ dotL B)).1 < 10 ^ (4 * 100) := by
    have h3 : (A ++ dotL B).length ≤ 4 * 100 := hlen
    generalize 4 * 100 = E at *
    exact Nat.lt_of_lt_of_le hbd.1 (Nat.pow_le_pow_right (by decide) h3)
  refine c_rparseV _ _ _ _ hl (scan_txt h) cr hN ?_
  unfold txtP
  split <;> omega
theorem c_dparse_txt {S A : List UInt8} {B : Option (List UInt8)} {ex} (h : TxtOK S A B ex) (hl : (txt S A B ex).length ≤ 400) :
    ACalls seat 85 [.str (txt S A B ex)] [] (fun x _ => x = .ret (txtV S A B ex)) := by
  have hk := M_kinds h.hA h.hB
  have hsc := scan_txt h
  rw [scan_eq, addA_zero, List.drop_zero] at hsc
  have h1 : (dfa true 0 (txt S A B ex)).1 = (txt S A B ex).length := congrArg Prod.fst hsc
  have h2 : endsT (dfa true 0 (txt S A B ex)).2 = true := congrArg Prod.snd hsc
  have et : txt S A B ex = (S ++ (A ++ dotL B)) ++ expB ex := by unfold txt; simp only [List.append_assoc]
  have hM2 : ∀ b ∈ S ++ (A ++ dotL B), kindN b.toNat ≠ 2 := fun b hb => by
    rcases List.mem_append.1 hb with hb | hb
    · rcases h.hS with rfl | rfl | rfl
      · cases hb
      · rw [List.mem_singleton.1 hb]; decide
      · rw [List.mem_singleton.1 hb]; decide
    · have := hk b hb; omega
  have cd := c_dparseV (S ++ (A ++ dotL B)) ex hM2 h.hex (by rw [← et]; omega) (by rw [← et]; exact h1) (by rw [← et]; exact h2)
  rw [← et] at cd
  have hr := rd_fold h.hS _ _ rfl hk
  have hlen : (A ++ dotL B).length ≤ 400 ∧ S.length + (A ++ dotL B).length ≤ 400 := by
    unfold txt at hl; rw [List.length_append, List.length_append] at hl; omega
  have hbd := rFold_bd _ _ rfl hk
  have hbd2 := rdM_bd _ (S ++ (A ++ dotL B)) rfl
  rw [List.length_append] at hbd2
  obtain ⟨e1, e2, e3, e4, e5, -, -⟩ := hr
  have hp : 0 ≤ exPow 1099511627776 ex := by
    cases ex with
    | none => simp [exPow]
    | some x => exact (powF_bd (by decide) _ _ rfl h.hex.2.2.2).1
  have hpc : exPow 1000 ex = if exPow 1099511627776 ex ≤ 1000 then exPow 1099511627776 ex else 1000 := by
    cases ex with
    | none => simp [exPow]
    | some x => exact pow_caps _ _ rfl h.hex.2.2.2
  have hv := dec_val (S == [45]) _ e2 e3 _ e4 (rFold (A ++ dotL B)).2.1 (by omega) (by omega) _ _ hp hpc (exDown ex)
  rw [← e5, ← e1] at hv
  rw [hv, e1] at cd
  exact cd
end Go.Proofs.YteicdddheaajlaaDoor
namespace Go.Proofs.YteicdddheaajlaaDoor
open Go.Abs
def blankN (n : Int) : Bool := n == 9 || n == 10 || n == 13 || n == 32
theorem blankN_iff (n : Int) : blankN n = true ↔ n = 9 ∨ n = 10 ∨ n = 13 ∨ n = 32 := by simp [blankN, or_assoc]
def blk : List UInt8 → Nat
  | [] => 0
  | b :: l => if blankN b.toNat = true then blk l + 1 else 0
theorem blk_le : ∀ l, blk l ≤ l.length
  | [] => Nat.le_refl _
  | b :: l => by
    have := blk_le l
    unfold blk; split
    · simp; omega
    · exact Nat.zero_le _
def isB (l : List UInt8) : Bool := match l with | [] => false | b :: _ => blankN b.toNat
def isC (l : List UInt8) : Bool := match l with | [] => false | b :: _ => (b.toNat : Int) == 44
def gapN (l : List UInt8) : Nat := if isC (l.drop (blk l)) = true then blk l + 1 + blk (l.drop (blk l + 1)) else blk l
theorem isB_some {s : List UInt8} {p : Nat} {b : UInt8} (h : s[p]? = some b) : isB (s.drop p) = blankN b.toNat := by rw [drop_cons' h]; rfl
theorem isC_some {s : List UInt8} {p : Nat} {b : UInt8} (h : s[p]? = some b) : isC (s.drop p) = ((b.toNat : Int) == 44) := by rw [drop_cons' h]; rfl
theorem blk_step {s : List UInt8} {p : Nat} (h : isB (s.drop p) = true) : blk (s.drop p) = blk (s.drop (p + 1)) + 1 ∧ p < s.length := by
  have hp : p < s.length := by
    apply Nat.lt_of_not_le; intro h2; rw [List.drop_eq_nil_of_le h2] at h; cases h
  obtain ⟨b, hb⟩ : ∃ b, s[p]? = some b := ⟨_, List.getElem?_eq_getElem hp⟩
  rw [isB_some hb] at h
  rw [drop_cons' hb]
  exact ⟨if_pos h, hp⟩
theorem blk_stop {s : List UInt8} {p : Nat} (h : isB (s.drop p) = false) : blk (s.drop p) = 0 := by
  cases hd : s.drop p with
  | nil => rfl
  | cons b l => rw [hd] at h; exact if_neg (by rw [show blankN b.toNat = false from h]; decide)
theorem blk_in (s : List UInt8) (p : Nat) (h : p ≤ s.length) : p + blk (s.drop p) ≤ s.length := by
  have := blk_le (s.drop p); rw [List.length_drop] at this; omega
theorem isC_lt {s : List UInt8} {p : Nat} (h : isC (s.drop p) = true) : p < s.length := by
  apply Nat.lt_of_not_le; intro h2; rw [List.drop_eq_nil_of_le h2] at h; cases h
theorem gap_in (s : List UInt8) (p : Nat) (h : p ≤ s.length) : p + gapN (s.drop p) ≤ s.length := by
  have h1 := blk_in s p h
  unfold gapN
  split
  · rename_i hc
    rw [List.drop_drop] at hc
    have h2 := isC_lt hc
    have h3 := blk_in s (p + blk (s.drop p) + 1) (by omega)
    rw [List.drop_drop, ← Nat.add_assoc p]
    omega
  · omega
end Go.Proofs.YteicdddheaajlaaDoor
namespace Go.Proofs.YteicdddheaajlaaDoor
open Go.Abs
def valN (l : List UInt8) : Nat := l.foldl (fun a b => a * 10 + ((b.toNat : Int) - 48).toNat) 0
theorem valN_snoc (l : List UInt8) (b : UInt8) : valN (l ++ [b]) = valN l * 10 + ((b.toNat : Int) - 48).toNat := by unfold valN; rw [List.foldl_append]; rfl
theorem valN_app (l : List UInt8) : ∀ (n : Nat) (m : List UInt8), m.length = n → valN (l ++ m) = valN l * 10 ^ m.length + valN m
  | 0, m, h => by
    obtain rfl := List.length_eq_zero_iff.1 h
    simp [valN]
  | n + 1, m, h => by
    have hne : m ≠ [] := by intro h2; rw [h2] at h; simp at h
    have e := (List.dropLast_concat_getLast hne).symm
    have hl : m.dropLast.length = n := by rw [List.length_dropLast]; omega
    have ih := valN_app l n _ hl
    rw [e, ← List.append_assoc, valN_snoc, valN_snoc, ih, List.length_append, List.length_singleton, Nat.pow_succ, Nat.add_mul, Nat.mul_assoc]
    omega
theorem rFold_dig : ∀ (n : Nat) (l : List UInt8) (N b : Nat) (pt : Bool), l.length = n → digL l → l.foldl rStep (N, b, pt) = (N * 10 ^ n + valN l, if pt = true then b + n else b, pt)
  | 0, l, N, b, pt, h, _ => by
    obtain rfl := List.length_eq_zero_iff.1 h
    cases pt <;> simp [valN]
  | n + 1, l, N, b, pt, h, hk => by
    have hne : l ≠ [] := by intro h2; rw [h2] at h; simp at h
    have e := (List.dropLast_concat_getLast hne).symm
    have hl : l.dropLast.length = n := by rw [List.length_dropLast]; omega
    have ih := rFold_dig n _ N b pt hl (fun c h => hk c (List.dropLast_subset _ h))
    have h1 := hk _ (List.getLast_mem hne)
    rw [e, List.foldl_append, ih, List.foldl_cons, List.foldl_nil, valN_snoc]
    unfold rStep
    rw [if_neg (by omega)]
    simp only [Prod.mk.injEq, and_true]
    refine ⟨by rw [Nat.pow_succ, Nat.add_mul, Nat.mul_assoc]; omega, ?_⟩
    cases pt <;> simp <;> omega
theorem txtN_val {A : List UInt8} {B : Option (List UInt8)} (hA : digL A) (hB : digL (B.getD [])) : txtN A B = valN (A ++ B.getD []) ∧ (rFold (A ++ dotL B)).2.1 = (B.getD []).length := by
  have hr := rFold_dig _ A 0 0 false rfl hA
  unfold txtN rFold
  rw [List.foldl_append, hr]
  cases B with
  | none => simp [dotL]
  | some B =>
    simp only [Option.getD_some] at hB
    simp only [dotL, List.foldl_cons, Option.getD_some]
    rw [show rStep (0 * 10 ^ A.length + valN A, (if false = true then 0 + A.length else 0), false) 46 = (valN A, 0, true) by unfold rStep; rw [if_pos (by decide)]; simp]
    rw [rFold_dig _ B _ _ _ rfl hB, valN_app _ _ _ rfl]
    simp
end Go.Proofs.YteicdddheaajlaaDoor
namespace Go.Proofs.YteicdddheaajlaaDoor
open Go.Abs
end Go.Proofs.YteicdddheaajlaaDoor
namespace Go.Proofs.YteicdddheaajlaaDoor
open Go.Abs
theorem scS_pos {sg : Bool} {l : List UInt8} (h : (scS sg l).2 = true) : 0 < (scS sg l).1 := by
  have hpt : ∀ (sm : Bool) (m : List UInt8), (ptS sm m).2 = true → sm = true ∨ 0 < (ptS sm m).1 := fun sm m h => by
    cases sm with
    | true => exact .inl rfl
    | false =>
      refine .inr ?_
      unfold ptS at h ⊢
      split
      · simp only [addA]; omega
      · rename_i hk; rw [if_neg hk] at h; exact absurd h (by unfold eS; simp)
  have hc : ∀ m : List UInt8, (addA (runN m) (ptS (decide (0 < runN m)) (m.drop (runN m)))).2 = true → 0 < (addA (runN m) (ptS (decide (0 < runN m)) (m.drop (runN m)))).1 := fun m h => by
    simp only [addA] at h ⊢
    rcases hpt _ _ h with h | h
    · have := of_decide_eq_true h; omega
    · omega
  unfold scS at h ⊢
  split
  · rename_i hs; rw [if_pos hs] at h; simp only [addA]; omega
  · rename_i hs; rw [if_neg hs] at h; exact hc _ h
end Go.Proofs.YteicdddheaajlaaDoor
namespace Go.Proofs.YteicdddheaajlaaDoor
open Go.Abs
def blanksL : List Int := [0, 0, 0, 0, 0, 0, 0, 0, 0, 1, 1, 0, 0, 1, 0, 0, 0, 0, 0, 0, 0, 0, 0, 0, 0, 0, 0, 0, 0, 0, 0, 0, 1]
theorem blanks_ld : ∀ {n : Nat} (_ : n < 33), partK false (dropL (ci .i64 blanksL) (n * 1)) 0 1 = some (.int .i64 (if blankN (n : Nat) = true then 1 else 0))
  | 0, _ => rfl
  | 1, _ => rfl
  | 2, _ => rfl
  | 3, _ => rfl
  | 4, _ => rfl
  | 5, _ => rfl
  | 6, _ => rfl
  | 7, _ => rfl
  | 8, _ => rfl
  | 9, _ => rfl
  | 10, _ => rfl
  | 11, _ => rfl
  | 12, _ => rfl
  | 13, _ => rfl
  | 14, _ => rfl
  | 15, _ => rfl
  | 16, _ => rfl
  | 17, _ => rfl
  | 18, _ => rfl
  | 19, _ => rfl
  | 20, _ => rfl
  | 21, _ => rfl
  | 22, _ => rfl
  | 23, _ => rfl
  | 24, _ => rfl
  | 25, _ => rfl
  | 26, _ => rfl
  | 27, _ => rfl
  | 28, _ => rfl
  | 29, _ => rfl
  | 30, _ => rfl
  | 31, _ => rfl
  | 32, _ => rfl
  | n + 33, h => absurd h (by omega)
def flR (s : List UInt8) (p : Nat) : Int × Int × Nat := match s[p]? with
  | some b => if (b.toNat : Int) = 48 ∨ (b.toNat : Int) = 49 then ((b.toNat : Int) - 48, 0, p + 1) else (0, 3, p)
  | none => (0, 3, p)
theorem flR_some {s : List UInt8} {p : Nat} {b : UInt8} (h : s[p]? = some b) : flR s p = if (b.toNat : Int) = 48 ∨ (b.toNat : Int) = 49 then ((b.toNat : Int) - 48, 0, p + 1) else (0, 3, p) := by unfold flR; rw [h]
theorem flR_none {s : List UInt8} {p : Nat} (h : s.length ≤ p) : flR s p = (0, 3, p) := by unfold flR; rw [List.getElem?_eq_none h]
def gotV (v e : Int) (p : Nat) : AV := .agg [.int .i64 v, .int .i64 e, .int .i64 p]
end Go.Proofs.YteicdddheaajlaaDoor
