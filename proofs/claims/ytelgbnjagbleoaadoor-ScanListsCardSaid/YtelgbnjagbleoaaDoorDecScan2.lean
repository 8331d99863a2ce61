/- The kinds of bytes and the scan of a number's text. Conditions: none but the text's length. -/
import Derived.Test.YtelgbnjagbleoaaDoorDecScan
import Derived.Test.YtelgbnjagbleoaaDoorAbsE
set_option linter.unusedSimpArgs false
set_option linter.unusedVariables false
set_option linter.deprecated false
namespace Go.Proofs.YtelgbnjagbleoaaDoor
open Go.Abs
def nextL : List Int := [2, 3, 0, 1, 2, 3, 0, 0, 2, 4, 6, 0, 5, 0, 0, 0, 5, 0, 6, 0, 5, 0, 6, 0, 8, 0, 0, 7, 8, 0, 0, 0, 8, 0, 0, 0]
def nextT (s : Nat) (k : Int) : Nat := (nextL[s * 4 + k.toNat]?.getD 0).toNat
def endsT (s : Nat) : Bool := s == 2 || s == 4 || s == 5 || s == 8
def stopT (signed : Bool) (st : Nat) (k : Int) : Bool := decide (k < 0) || (decide (k = 3) && decide (st = 0) && !signed) || decide (nextT st k = 0)
/-- how far, and the state there -/
def dfa (signed : Bool) : Nat → List UInt8 → Nat × Nat
  | st, [] => (0, st)
  | st, b :: l => if stopT signed st (kindN b.toNat) = true then (0, st) else ((dfa signed (nextT st (kindN b.toNat)) l).1 + 1, (dfa signed (nextT st (kindN b.toNat)) l).2)
theorem nextT_lt {s : Nat} {k : Int} (hs : s < 9) (hk : 0 ≤ k ∧ k < 4) : nextT s k < 9 := by
  obtain ⟨j, rfl⟩ := Int.eq_ofNat_of_zero_le hk.1
  have : ∀ s < 9, ∀ j < 4, nextT s ((j : Nat) : Int) < 9 := by decide
  exact this s hs j (by omega)
theorem next_ld {s : Nat} {k : Int} (hs : s < 9) (hk : 0 ≤ k ∧ k < 4) : partK false (dropL (dropL (ci .i64 nextL) (s * 4)) (k.toNat * 1)) 0 1 = some (.int .i64 (nextT s k)) := by
  obtain ⟨j, rfl⟩ := Int.eq_ofNat_of_zero_le hk.1
  have : ∀ s : Fin 9, ∀ j : Fin 4, partK false (dropL (dropL (ci .i64 nextL) (s.val * 4)) (j.val * 1)) 0 1 = some (.int .i64 (nextT s.val (j.val : Nat))) := by
    intro s j
    match s, j with
    | ⟨0, _⟩, ⟨0, _⟩ => rfl
    | ⟨0, _⟩, ⟨1, _⟩ => rfl
    | ⟨0, _⟩, ⟨2, _⟩ => rfl
    | ⟨0, _⟩, ⟨3, _⟩ => rfl
    | ⟨1, _⟩, ⟨0, _⟩ => rfl
    | ⟨1, _⟩, ⟨1, _⟩ => rfl
    | ⟨1, _⟩, ⟨2, _⟩ => rfl
    | ⟨1, _⟩, ⟨3, _⟩ => rfl
    | ⟨2, _⟩, ⟨0, _⟩ => rfl
    | ⟨2, _⟩, ⟨1, _⟩ => rfl
    | ⟨2, _⟩, ⟨2, _⟩ => rfl
    | ⟨2, _⟩, ⟨3, _⟩ => rfl
    | ⟨3, _⟩, ⟨0, _⟩ => rfl
    | ⟨3, _⟩, ⟨1, _⟩ => rfl
    | ⟨3, _⟩, ⟨2, _⟩ => rfl
    | ⟨3, _⟩, ⟨3, _⟩ => rfl
    | ⟨4, _⟩, ⟨0, _⟩ => rfl
    | ⟨4, _⟩, ⟨1, _⟩ => rfl
    | ⟨4, _⟩, ⟨2, _⟩ => rfl
    | ⟨4, _⟩, ⟨3, _⟩ => rfl
    | ⟨5, _⟩, ⟨0, _⟩ => rfl
    | ⟨5, _⟩, ⟨1, _⟩ => rfl
    | ⟨5, _⟩, ⟨2, _⟩ => rfl
    | ⟨5, _⟩, ⟨3, _⟩ => rfl
    | ⟨6, _⟩, ⟨0, _⟩ => rfl
    | ⟨6, _⟩, ⟨1, _⟩ => rfl
    | ⟨6, _⟩, ⟨2, _⟩ => rfl
    | ⟨6, _⟩, ⟨3, _⟩ => rfl
    | ⟨7, _⟩, ⟨0, _⟩ => rfl
    | ⟨7, _⟩, ⟨1, _⟩ => rfl
    | ⟨7, _⟩, ⟨2, _⟩ => rfl
    | ⟨7, _⟩, ⟨3, _⟩ => rfl
    | ⟨8, _⟩, ⟨0, _⟩ => rfl
    | ⟨8, _⟩, ⟨1, _⟩ => rfl
    | ⟨8, _⟩, ⟨2, _⟩ => rfl
    | ⟨8, _⟩, ⟨3, _⟩ => rfl
  exact this ⟨s, hs⟩ ⟨j, by omega⟩
theorem ends_ld {s : Nat} (hs : s < 9) : partK false (dropL (ci .i64 [0, 0, 1, 0, 1, 1, 0, 0, 1]) (s * 1)) 0 1 = some (.int .i64 (if endsT s then 1 else 0)) := by
  have : ∀ s : Fin 9, partK false (dropL (ci .i64 [0, 0, 1, 0, 1, 1, 0, 0, 1]) (s.val * 1)) 0 1 = some (.int .i64 (if endsT s.val then 1 else 0)) := by
    intro s
    match s with
    | ⟨0, _⟩ => rfl
    | ⟨1, _⟩ => rfl
    | ⟨2, _⟩ => rfl
    | ⟨3, _⟩ => rfl
    | ⟨4, _⟩ => rfl
    | ⟨5, _⟩ => rfl
    | ⟨6, _⟩ => rfl
    | ⟨7, _⟩ => rfl
    | ⟨8, _⟩ => rfl
  exact this ⟨s, hs⟩
theorem kindN_range (n : Int) : kindN n = -1 ∨ (0 ≤ kindN n ∧ kindN n < 4) := by rcases kindN_cases n with h | h | h | h | h <;> omega
theorem dfa_le (sg : Bool) : ∀ (l : List UInt8) (st : Nat), st < 9 → (dfa sg st l).1 ≤ l.length ∧ (dfa sg st l).2 < 9
  | [], st, h => ⟨Nat.le_refl _, h⟩
  | b :: l, st, h => by
    unfold dfa
    split
    · exact ⟨Nat.zero_le _, h⟩
    · rename_i g
      have hk : 0 ≤ kindN b.toNat ∧ kindN b.toNat < 4 := by
        rcases kindN_range b.toNat with h | h
        · exact absurd (by simp [stopT, h]) g
        · exact h
      have := dfa_le sg l _ (nextT_lt h hk)
      exact ⟨by simp; omega, this.2⟩
set_option maxRecDepth 20000 in
theorem c_dscan (s : List UInt8) (at' : Int) (sg : Bool) (hl : s.length < 4611686018427387904) : ACalls seat 24 [.str s, .int .i64 at', .bool sg] [] (fun x _ => x = .ret (if at' < 0 ∨ s.length < at' then .tup [.int .i64 0, .bool false] else .tup [.int .i64 (at' + (dfa sg 0 (s.drop at'.toNat)).1), .bool (endsT (dfa sg 0 (s.drop at'.toNat)).2)])) := by
  refine ACalls.body seat_ok Tryd.func24 rfl rfl ?_
  by_cases g : at' < 0 ∨ s.length < at'
  · rw [if_pos g]
    by_cases g1 : at' < 0
    · conv => whnf
      refine Sat.scope seat_ok ?_
      conv => whnf
      repeat' ((first | refine zq1 (by omega) ?_ | refine zq2 (by omega) ?_ | refine NumH.rem (by omega) ?_ | refine zq4 (by omega) ?_ | refine zq5 (by omega) ?_ | refine zq6 ?_ | refine Req.mk (by omega) ?_ | refine Req.mk (by dsimp only; omega) ?_ | refine Req.mk ⟨rfl, rfl, rfl, by simp [ci_length, *], rfl, by simp [okCell], by dsimp only; omega, by omega, by decide⟩ ?_ | refine Req.mk (show pendP _ _ by repeat' constructor) ?_ | (with_reducible refine brT ?_ ?_; next => assumption) | (with_reducible refine brF ?_ ?_; next => assumption) | (with_reducible refine brDT ?_ ?_; next => omega) | (with_reducible refine brDF ?_ ?_; next => omega) | (with_reducible refine brET ?_ ?_; next => omega) | (with_reducible refine brEF ?_ ?_; next => omega) | (with_reducible refine brNET ?_ ?_; next => omega) | (with_reducible refine brNEF ?_ ?_; next => omega) | with_reducible refine brNot ?_); conv => whnf)
      rfl
    · have g2 : (s.length : Int) < at' := by omega
      conv => whnf
      refine Sat.scope seat_ok ?_
      conv => whnf
      repeat' ((first | refine zq1 (by omega) ?_ | refine zq2 (by omega) ?_ | refine NumH.rem (by omega) ?_ | refine zq4 (by omega) ?_ | refine zq5 (by omega) ?_ | refine zq6 ?_ | refine Req.mk (by omega) ?_ | refine Req.mk (by dsimp only; omega) ?_ | refine Req.mk ⟨rfl, rfl, rfl, by simp [ci_length, *], rfl, by simp [okCell], by dsimp only; omega, by omega, by decide⟩ ?_ | refine Req.mk (show pendP _ _ by repeat' constructor) ?_ | (with_reducible refine brT ?_ ?_; next => assumption) | (with_reducible refine brF ?_ ?_; next => assumption) | (with_reducible refine brDT ?_ ?_; next => omega) | (with_reducible refine brDF ?_ ?_; next => omega) | (with_reducible refine brET ?_ ?_; next => omega) | (with_reducible refine brEF ?_ ?_; next => omega) | (with_reducible refine brNET ?_ ?_; next => omega) | (with_reducible refine brNEF ?_ ?_; next => omega) | with_reducible refine brNot ?_); conv => whnf)
      rfl
  rw [if_neg g]
  obtain ⟨p0, rfl⟩ : ∃ p0 : Nat, at' = p0 := ⟨at'.toNat, by omega⟩
  rw [Int.toNat_natCast]
  have g1 : ¬ ((p0 : Int) < 0) := by omega
  have g2 : ¬ ((s.length : Int) < p0) := by omega
  obtain ⟨n, f, hd⟩ : ∃ n f, dfa sg 0 (s.drop p0) = (n, f) := ⟨_, _, rfl⟩
  have hf : f < 9 := by have := (dfa_le sg (s.drop p0) 0 (by omega)).2; rw [hd] at this; exact this
  rw [hd]
  conv => whnf
  refine Sat.scope seat_ok ?_
  conv => whnf
  repeat' ((first | refine zq1 (by omega) ?_ | refine zq2 (by omega) ?_ | refine NumH.rem (by omega) ?_ | refine zq4 (by omega) ?_ | refine zq5 (by omega) ?_ | refine zq6 ?_ | refine Req.mk (by omega) ?_ | refine Req.mk (by dsimp only; omega) ?_ | refine Req.mk ⟨rfl, rfl, rfl, by simp [ci_length, *], rfl, by simp [okCell], by dsimp only; omega, by omega, by decide⟩ ?_ | refine Req.mk (show pendP _ _ by repeat' constructor) ?_ | (with_reducible refine brT ?_ ?_; next => assumption) | (with_reducible refine brF ?_ ?_; next => assumption) | (with_reducible refine brDT ?_ ?_; next => omega) | (with_reducible refine brDF ?_ ?_; next => omega) | (with_reducible refine brET ?_ ?_; next => omega) | (with_reducible refine brEF ?_ ?_; next => omega) | (with_reducible refine brNET ?_ ?_; next => omega) | (with_reducible refine brNEF ?_ ?_; next => omega) | with_reducible refine brNot ?_); conv => whnf)
  refine Sat.cut (fun x t h => x = .exit 0 ∧ t = (uu :: .int .i64 (p0 + n) :: uu :: uu :: uu :: uu :: uu :: uu :: .int .i64 f :: uu :: uu :: uu :: uu :: uu :: uu :: uu :: uu :: uu :: uu :: uu :: uu :: uu :: uu :: uu :: uu :: uu :: uu :: uu :: uu :: uu :: uu :: uu :: uu :: uu :: uu :: uu :: uu :: uu :: uu :: uu :: uu :: uu :: uu :: uu :: uu :: uu :: uu :: uu :: uu :: uu :: uu :: uu :: uu :: uu :: uu :: uu :: uu :: []) ∧ h = []) ?_ ?_
  · refine Sat.invP seat_ok seat_g (maskOf 57 [0, 1, 2, 8]) 0 (fun μ t h => ∃ (p st : Nat), p ≤ s.length ∧ p0 ≤ p ∧ st < 9 ∧ dfa sg st (s.drop p) = (p0 + n - p, f) ∧ p ≤ p0 + n ∧ μ = s.length - p ∧
      t = (.str s :: .int .i64 p :: .bool sg :: uu :: uu :: uu :: uu :: uu :: .int .i64 st :: uu :: uu :: uu :: uu :: uu :: uu :: uu :: uu :: uu :: uu :: uu :: uu :: uu :: uu :: uu :: uu :: uu :: uu :: uu :: uu :: uu :: uu :: uu :: uu :: uu :: uu :: uu :: uu :: uu :: uu :: uu :: uu :: uu :: uu :: uu :: uu :: uu :: uu :: uu :: uu :: uu :: uu :: uu :: uu :: uu :: uu :: uu :: uu :: []) ∧ h = []) ?_ ⟨_, _, WeakL.of_eq rfl, p0, 0, by omega, by omega, by omega, by rw [hd]; congr 1; omega, by omega, rfl, rfl, rfl⟩ ?_
    · rintro _ _ _ ⟨p, st, -, -, -, -, -, -, rfl, rfl⟩
      exact ⟨rfl, (by simp [IdsL, Ids, IdsH, IdsC, lv_ids, ci_ids]), (by simp [IdsL, Ids, IdsH, IdsC, lv_ids, ci_ids])⟩
    rintro _ _ _ ⟨p, st, hp, hp0, hst, hdf, hpn, rfl, rfl, rfl⟩
    by_cases g : p < s.length
    · obtain ⟨b, hb⟩ : ∃ b, s[p]? = some b := ⟨_, List.getElem?_eq_getElem g⟩
      have hdr := drop_cons' hb
      rw [hdr] at hdf
      have ck := c_kind b.toNat
      unfold dfa at hdf
      have hkr := kindN_range b.toNat
      generalize kindN b.toNat = k at *
      have eb : (s[(p : Int).toNat]?) = some b := hb
      by_cases hs : stopT sg st k = true
      · rw [if_pos hs] at hdf
        simp only [Prod.mk.injEq] at hdf
        obtain ⟨h1, rfl⟩ := hdf
        obtain rfl : p = p0 + n := by omega
        have e : ((p0 + n : Nat) : Int) = p0 + n := by omega
        rw [← e]
        rcases hkr with hk | hk
        · conv => whnf
          repeat' (first | exact ⟨_, keepT_weak (maskOf 57 [1, 8]) _, rfl, rfl, rfl⟩ | (refine ldI _ eb ?_; conv => whnf) | (refine CallH.lift seat_g ck (by simp [Closed, ClosedL]) (by simp [Closed]) ?_; conv => whnf) | ((first | refine zq1 (by omega) ?_ | refine zq2 (by omega) ?_ | refine NumH.rem (by omega) ?_ | refine zq4 (by omega) ?_ | refine zq5 (by omega) ?_ | refine zq6 ?_ | refine Req.mk (by omega) ?_ | refine Req.mk (by dsimp only; omega) ?_ | refine Req.mk ⟨rfl, rfl, rfl, by simp [ci_length, *], rfl, by simp [okCell], by dsimp only; omega, by omega, by decide⟩ ?_ | refine Req.mk (show pendP _ _ by repeat' constructor) ?_ | (with_reducible refine brT ?_ ?_; next => assumption) | (with_reducible refine brF ?_ ?_; next => assumption) | (with_reducible refine brDT ?_ ?_; next => omega) | (with_reducible refine brDF ?_ ?_; next => omega) | (with_reducible refine brET ?_ ?_; next => omega) | (with_reducible refine brEF ?_ ?_; next => omega) | (with_reducible refine brNET ?_ ?_; next => omega) | (with_reducible refine brNEF ?_ ?_; next => omega) | with_reducible refine brNot ?_); conv => whnf))
        · have hn := next_ld hst hk
          have hk0 : ¬ k < 0 := by omega
          by_cases hz : nextT st k = 0
          · rw [hz] at hn
            by_cases h3 : k = 3
            · by_cases h0 : (st : Int) = 0
              · cases sg
                · conv => whnf
                  repeat' (first | exact ⟨_, keepT_weak (maskOf 57 [1, 8]) _, rfl, rfl, rfl⟩ | (refine ldI _ eb ?_; conv => whnf) | (refine CallH.lift seat_g ck (by simp [Closed, ClosedL]) (by simp [Closed]) ?_; conv => whnf) | (refine ldI _ hn ?_; conv => whnf) | ((first | refine zq1 (by omega) ?_ | refine zq2 (by omega) ?_ | refine NumH.rem (by omega) ?_ | refine zq4 (by omega) ?_ | refine zq5 (by omega) ?_ | refine zq6 ?_ | refine Req.mk (by omega) ?_ | refine Req.mk (by dsimp only; omega) ?_ | refine Req.mk ⟨rfl, rfl, rfl, by simp [ci_length, *], rfl, by simp [okCell], by dsimp only; omega, by omega, by decide⟩ ?_ | refine Req.mk (show pendP _ _ by repeat' constructor) ?_ | (with_reducible refine brT ?_ ?_; next => assumption) | (with_reducible refine brF ?_ ?_; next => assumption) | (with_reducible refine brDT ?_ ?_; next => omega) | (with_reducible refine brDF ?_ ?_; next => omega) | (with_reducible refine brET ?_ ?_; next => omega) | (with_reducible refine brEF ?_ ?_; next => omega) | (with_reducible refine brNET ?_ ?_; next => omega) | (with_reducible refine brNEF ?_ ?_; next => omega) | with_reducible refine brNot ?_); conv => whnf))
                · conv => whnf
                  repeat' (first | exact ⟨_, keepT_weak (maskOf 57 [1, 8]) _, rfl, rfl, rfl⟩ | (refine ldI _ eb ?_; conv => whnf) | (refine CallH.lift seat_g ck (by simp [Closed, ClosedL]) (by simp [Closed]) ?_; conv => whnf) | (refine ldI _ hn ?_; conv => whnf) | ((first | refine zq1 (by omega) ?_ | refine zq2 (by omega) ?_ | refine NumH.rem (by omega) ?_ | refine zq4 (by omega) ?_ | refine zq5 (by omega) ?_ | refine zq6 ?_ | refine Req.mk (by omega) ?_ | refine Req.mk (by dsimp only; omega) ?_ | refine Req.mk ⟨rfl, rfl, rfl, by simp [ci_length, *], rfl, by simp [okCell], by dsimp only; omega, by omega, by decide⟩ ?_ | refine Req.mk (show pendP _ _ by repeat' constructor) ?_ | (with_reducible refine brT ?_ ?_; next => assumption) | (with_reducible refine brF ?_ ?_; next => assumption) | (with_reducible refine brDT ?_ ?_; next => omega) | (with_reducible refine brDF ?_ ?_; next => omega) | (with_reducible refine brET ?_ ?_; next => omega) | (with_reducible refine brEF ?_ ?_; next => omega) | (with_reducible refine brNET ?_ ?_; next => omega) | (with_reducible refine brNEF ?_ ?_; next => omega) | with_reducible refine brNot ?_); conv => whnf))
              · conv => whnf
                repeat' (first | exact ⟨_, keepT_weak (maskOf 57 [1, 8]) _, rfl, rfl, rfl⟩ | (refine ldI _ eb ?_; conv => whnf) | (refine CallH.lift seat_g ck (by simp [Closed, ClosedL]) (by simp [Closed]) ?_; conv => whnf) | (refine ldI _ hn ?_; conv => whnf) | ((first | refine zq1 (by omega) ?_ | refine zq2 (by omega) ?_ | refine NumH.rem (by omega) ?_ | refine zq4 (by omega) ?_ | refine zq5 (by omega) ?_ | refine zq6 ?_ | refine Req.mk (by omega) ?_ | refine Req.mk (by dsimp only; omega) ?_ | refine Req.mk ⟨rfl, rfl, rfl, by simp [ci_length, *], rfl, by simp [okCell], by dsimp only; omega, by omega, by decide⟩ ?_ | refine Req.mk (show pendP _ _ by repeat' constructor) ?_ | (with_reducible refine brT ?_ ?_; next => assumption) | (with_reducible refine brF ?_ ?_; next => assumption) | (with_reducible refine brDT ?_ ?_; next => omega) | (with_reducible refine brDF ?_ ?_; next => omega) | (with_reducible refine brET ?_ ?_; next => omega) | (with_reducible refine brEF ?_ ?_; next => omega) | (with_reducible refine brNET ?_ ?_; next => omega) | (with_reducible refine brNEF ?_ ?_; next => omega) | with_reducible refine brNot ?_); conv => whnf))
            · conv => whnf
              repeat' (first | exact ⟨_, keepT_weak (maskOf 57 [1, 8]) _, rfl, rfl, rfl⟩ | (refine ldI _ eb ?_; conv => whnf) | (refine CallH.lift seat_g ck (by simp [Closed, ClosedL]) (by simp [Closed]) ?_; conv => whnf) | (refine ldI _ hn ?_; conv => whnf) | ((first | refine zq1 (by omega) ?_ | refine zq2 (by omega) ?_ | refine NumH.rem (by omega) ?_ | refine zq4 (by omega) ?_ | refine zq5 (by omega) ?_ | refine zq6 ?_ | refine Req.mk (by omega) ?_ | refine Req.mk (by dsimp only; omega) ?_ | refine Req.mk ⟨rfl, rfl, rfl, by simp [ci_length, *], rfl, by simp [okCell], by dsimp only; omega, by omega, by decide⟩ ?_ | refine Req.mk (show pendP _ _ by repeat' constructor) ?_ | (with_reducible refine brT ?_ ?_; next => assumption) | (with_reducible refine brF ?_ ?_; next => assumption) | (with_reducible refine brDT ?_ ?_; next => omega) | (with_reducible refine brDF ?_ ?_; next => omega) | (with_reducible refine brET ?_ ?_; next => omega) | (with_reducible refine brEF ?_ ?_; next => omega) | (with_reducible refine brNET ?_ ?_; next => omega) | (with_reducible refine brNEF ?_ ?_; next => omega) | with_reducible refine brNot ?_); conv => whnf))
          · have h30 : k = 3 ∧ st = 0 ∧ sg = false := by
              simp [stopT, hz] at hs
              rcases hs with h | ⟨⟨h1, h2⟩, h3⟩
              · omega
              · exact ⟨h1, h2, h3⟩
            obtain ⟨h3, h0, rfl⟩ := h30
            have h0 : (st : Int) = 0 := by omega
            conv => whnf
            repeat' (first | exact ⟨_, keepT_weak (maskOf 57 [1, 8]) _, rfl, rfl, rfl⟩ | (refine ldI _ eb ?_; conv => whnf) | (refine CallH.lift seat_g ck (by simp [Closed, ClosedL]) (by simp [Closed]) ?_; conv => whnf) | ((first | refine zq1 (by omega) ?_ | refine zq2 (by omega) ?_ | refine NumH.rem (by omega) ?_ | refine zq4 (by omega) ?_ | refine zq5 (by omega) ?_ | refine zq6 ?_ | refine Req.mk (by omega) ?_ | refine Req.mk (by dsimp only; omega) ?_ | refine Req.mk ⟨rfl, rfl, rfl, by simp [ci_length, *], rfl, by simp [okCell], by dsimp only; omega, by omega, by decide⟩ ?_ | refine Req.mk (show pendP _ _ by repeat' constructor) ?_ | (with_reducible refine brT ?_ ?_; next => assumption) | (with_reducible refine brF ?_ ?_; next => assumption) | (with_reducible refine brDT ?_ ?_; next => omega) | (with_reducible refine brDF ?_ ?_; next => omega) | (with_reducible refine brET ?_ ?_; next => omega) | (with_reducible refine brEF ?_ ?_; next => omega) | (with_reducible refine brNET ?_ ?_; next => omega) | (with_reducible refine brNEF ?_ ?_; next => omega) | with_reducible refine brNot ?_); conv => whnf))
      · rw [if_neg hs] at hdf
        have hk : 0 ≤ k ∧ k < 4 := by
          rcases hkr with h | h
          · exact absurd (by simp [stopT, h]) hs
          · exact h
        have hn := next_ld hst hk
        have hk0 : ¬ k < 0 := by omega
        have hlt := nextT_lt hst hk
        have hz : ((nextT st k : Nat) : Int) ≠ 0 := by
          intro h; apply hs; have h9 : nextT st k = 0 := by omega
          simp [stopT, h9]
        have hns : ¬ (k = 3 ∧ st = 0 ∧ sg = false) := by
          rintro ⟨h1, h2, h3⟩; apply hs; simp [stopT, h1, h2, h3]
        generalize nextT st k = st2 at *
        obtain ⟨hd1, hd2⟩ := Prod.mk.inj hdf
        have hinv : dfa sg st2 (s.drop (p + 1)) = (p0 + n - (p + 1), f) := by rw [← hd2]; exact Prod.ext (by simp only; omega) rfl
        by_cases h3 : k = 3
        · by_cases h0 : (st : Int) = 0
          · cases sg
            · exact absurd ⟨h3, by omega, rfl⟩ hns
            · conv => whnf
              repeat' (first | exact ⟨_, _, Nat.sub_lt_sub_left g (Nat.lt_succ_self p), WeakL.of_eq rfl, p + 1, st2, by omega, by omega, hlt, hinv, by omega, rfl, rfl, rfl⟩ | (refine ldI _ eb ?_; conv => whnf) | (refine CallH.lift seat_g ck (by simp [Closed, ClosedL]) (by simp [Closed]) ?_; conv => whnf) | (refine ldI _ hn ?_; conv => whnf) | ((first | refine zq1 (by omega) ?_ | refine zq2 (by omega) ?_ | refine NumH.rem (by omega) ?_ | refine zq4 (by omega) ?_ | refine zq5 (by omega) ?_ | refine zq6 ?_ | refine Req.mk (by omega) ?_ | refine Req.mk (by dsimp only; omega) ?_ | refine Req.mk ⟨rfl, rfl, rfl, by simp [ci_length, *], rfl, by simp [okCell], by dsimp only; omega, by omega, by decide⟩ ?_ | refine Req.mk (show pendP _ _ by repeat' constructor) ?_ | (with_reducible refine brT ?_ ?_; next => assumption) | (with_reducible refine brF ?_ ?_; next => assumption) | (with_reducible refine brDT ?_ ?_; next => omega) | (with_reducible refine brDF ?_ ?_; next => omega) | (with_reducible refine brET ?_ ?_; next => omega) | (with_reducible refine brEF ?_ ?_; next => omega) | (with_reducible refine brNET ?_ ?_; next => omega) | (with_reducible refine brNEF ?_ ?_; next => omega) | with_reducible refine brNot ?_); conv => whnf))
          · conv => whnf
            repeat' (first | exact ⟨_, _, Nat.sub_lt_sub_left g (Nat.lt_succ_self p), WeakL.of_eq rfl, p + 1, st2, by omega, by omega, hlt, hinv, by omega, rfl, rfl, rfl⟩ | (refine ldI _ eb ?_; conv => whnf) | (refine CallH.lift seat_g ck (by simp [Closed, ClosedL]) (by simp [Closed]) ?_; conv => whnf) | (refine ldI _ hn ?_; conv => whnf) | ((first | refine zq1 (by omega) ?_ | refine zq2 (by omega) ?_ | refine NumH.rem (by omega) ?_ | refine zq4 (by omega) ?_ | refine zq5 (by omega) ?_ | refine zq6 ?_ | refine Req.mk (by omega) ?_ | refine Req.mk (by dsimp only; omega) ?_ | refine Req.mk ⟨rfl, rfl, rfl, by simp [ci_length, *], rfl, by simp [okCell], by dsimp only; omega, by omega, by decide⟩ ?_ | refine Req.mk (show pendP _ _ by repeat' constructor) ?_ | (with_reducible refine brT ?_ ?_; next => assumption) | (with_reducible refine brF ?_ ?_; next => assumption) | (with_reducible refine brDT ?_ ?_; next => omega) | (with_reducible refine brDF ?_ ?_; next => omega) | (with_reducible refine brET ?_ ?_; next => omega) | (with_reducible refine brEF ?_ ?_; next => omega) | (with_reducible refine brNET ?_ ?_; next => omega) | (with_reducible refine brNEF ?_ ?_; next => omega) | with_reducible refine brNot ?_); conv => whnf))
        · conv => whnf
          repeat' (first | exact ⟨_, _, Nat.sub_lt_sub_left g (Nat.lt_succ_self p), WeakL.of_eq rfl, p + 1, st2, by omega, by omega, hlt, hinv, by omega, rfl, rfl, rfl⟩ | (refine ldI _ eb ?_; conv => whnf) | (refine CallH.lift seat_g ck (by simp [Closed, ClosedL]) (by simp [Closed]) ?_; conv => whnf) | (refine ldI _ hn ?_; conv => whnf) | ((first | refine zq1 (by omega) ?_ | refine zq2 (by omega) ?_ | refine NumH.rem (by omega) ?_ | refine zq4 (by omega) ?_ | refine zq5 (by omega) ?_ | refine zq6 ?_ | refine Req.mk (by omega) ?_ | refine Req.mk (by dsimp only; omega) ?_ | refine Req.mk ⟨rfl, rfl, rfl, by simp [ci_length, *], rfl, by simp [okCell], by dsimp only; omega, by omega, by decide⟩ ?_ | refine Req.mk (show pendP _ _ by repeat' constructor) ?_ | (with_reducible refine brT ?_ ?_; next => assumption) | (with_reducible refine brF ?_ ?_; next => assumption) | (with_reducible refine brDT ?_ ?_; next => omega) | (with_reducible refine brDF ?_ ?_; next => omega) | (with_reducible refine brET ?_ ?_; next => omega) | (with_reducible refine brEF ?_ ?_; next => omega) | (with_reducible refine brNET ?_ ?_; next => omega) | (with_reducible refine brNEF ?_ ?_; next => omega) | with_reducible refine brNot ?_); conv => whnf))
    · rw [List.drop_eq_nil_of_le (by omega)] at hdf
      simp only [dfa, Prod.mk.injEq] at hdf
      obtain ⟨h1, rfl⟩ := hdf
      obtain rfl : p = p0 + n := by omega
      have e : ((p0 + n : Nat) : Int) = p0 + n := by omega
      rw [← e]
      conv => whnf
      repeat' ((first | refine zq1 (by omega) ?_ | refine zq2 (by omega) ?_ | refine NumH.rem (by omega) ?_ | refine zq4 (by omega) ?_ | refine zq5 (by omega) ?_ | refine zq6 ?_ | refine Req.mk (by omega) ?_ | refine Req.mk (by dsimp only; omega) ?_ | refine Req.mk ⟨rfl, rfl, rfl, by simp [ci_length, *], rfl, by simp [okCell], by dsimp only; omega, by omega, by decide⟩ ?_ | refine Req.mk (show pendP _ _ by repeat' constructor) ?_ | (with_reducible refine brT ?_ ?_; next => assumption) | (with_reducible refine brF ?_ ?_; next => assumption) | (with_reducible refine brDT ?_ ?_; next => omega) | (with_reducible refine brDF ?_ ?_; next => omega) | (with_reducible refine brET ?_ ?_; next => omega) | (with_reducible refine brEF ?_ ?_; next => omega) | (with_reducible refine brNET ?_ ?_; next => omega) | (with_reducible refine brNEF ?_ ?_; next => omega) | with_reducible refine brNot ?_); conv => whnf)
      exact ⟨_, keepT_weak (maskOf 57 [1, 8]) _, rfl, rfl, rfl⟩
  · rintro _ _ _ ⟨rfl, rfl, rfl⟩
    have he := ends_ld hf
    have hb : ((if endsT f then (1 : Int) else 0) == 1) = endsT f := by cases endsT f <;> rfl
    conv => whnf
    refine DrawH.plan seat_ok (.take 0 (.take 1 (.take 2 (.take 3 (.take 4 (.take 5 (.take 6 Plan.done))))))) 0 (by kernel_rfl) ?_
    conv => whnf
    repeat' (first | exact congrArg (fun b => AEnd.ret (.tup [.int .i64 (p0 + n), .bool b])) hb | (refine ldI _ he ?_; conv => whnf) | ((first | refine zq1 (by omega) ?_ | refine zq2 (by omega) ?_ | refine NumH.rem (by omega) ?_ | refine zq4 (by omega) ?_ | refine zq5 (by omega) ?_ | refine zq6 ?_ | refine Req.mk (by omega) ?_ | refine Req.mk (by dsimp only; omega) ?_ | refine Req.mk ⟨rfl, rfl, rfl, by simp [ci_length, *], rfl, by simp [okCell], by dsimp only; omega, by omega, by decide⟩ ?_ | refine Req.mk (show pendP _ _ by repeat' constructor) ?_ | (with_reducible refine brT ?_ ?_; next => assumption) | (with_reducible refine brF ?_ ?_; next => assumption) | (with_reducible refine brDT ?_ ?_; next => omega) | (with_reducible refine brDF ?_ ?_; next => omega) | (with_reducible refine brET ?_ ?_; next => omega) | (with_reducible refine brEF ?_ ?_; next => omega) | (with_reducible refine brNET ?_ ?_; next => omega) | (with_reducible refine brNEF ?_ ?_; next => omega) | with_reducible refine brNot ?_); conv => whnf) | (refine And.intro ?_ ?_ <;> (conv => whnf)))
end Go.Proofs.YtelgbnjagbleoaaDoor
