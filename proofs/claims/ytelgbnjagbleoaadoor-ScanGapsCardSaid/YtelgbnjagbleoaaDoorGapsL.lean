/- A text of blanks and commas is gone through gap by gap. Plain lemmas. -/
import Derived.Test.YtelgbnjagbleoaaDoorScanS
set_option linter.unusedSimpArgs false
set_option linter.unusedVariables false
set_option linter.deprecated false
namespace Go.Proofs.YtelgbnjagbleoaaDoor
open Go.Abs
theorem blk_cnt : ∀ l : List UInt8, (l.take (blk l)).count 44 = 0
  | [] => rfl
  | b :: l => by
    unfold blk
    by_cases h : blankN b.toNat = true
    · rw [if_pos h, List.take_succ_cons, List.count_cons, blk_cnt l]
      have hb : b ≠ 44 := by rintro rfl; exact absurd h (by decide)
      simp [hb]
    · rw [if_neg h]; rfl
theorem isB_blk {l : List UInt8} : isB (l.drop (blk l)) = false := by
  induction l with
  | nil => rfl
  | cons b l ih =>
    unfold blk
    cases h : blankN b.toNat with
    | true => rw [if_pos rfl, List.drop_succ_cons]; exact ih
    | false => rw [if_neg (by decide)]; exact h
structure Txt (T : List UInt8) (N : Nat) : Prop where
  len : T.length = N + 1
  last : T[N]? = some 120
  mid : ∀ (i : Nat) (b : UInt8), i < N → T[i]? = some b → blankN b.toNat = true ∨ b = 44
def Jg (T : List UInt8) (N p n : Nat) : Prop := p ≤ N ∧ ((n = 0 ∧ p = 0) ∨ (1 ≤ n ∧ isB (T.drop p) = false ∧ (T.take p).count 44 = n) ∨ ((T.take N).count 44 = 0 ∧ n = 1 ∧ p = N ∧ 0 < N))
theorem blk_N {T : List UInt8} {N p : Nat} (h : Txt T N) (hp : p ≤ N) : p + blk (T.drop p) ≤ N := by
  have h1 := blk_in T p (by rw [h.len]; omega)
  rw [h.len] at h1
  apply Nat.le_of_not_lt
  intro h2
  have he : p + blk (T.drop p) = N + 1 := by omega
  -- the last one is no blank
  have key : ∀ (m q : Nat), q + m = N → blk (T.drop q) ≤ m := by
    intro m
    induction m with
    | zero =>
      intro q hq
      have : q = N := by omega
      subst this
      rw [blk_stop (by rw [isB_some h.last]; decide)]; exact Nat.le_refl _
    | succ m ih =>
      intro q hq
      cases hb : isB (T.drop q) with
      | false => rw [blk_stop hb]; omega
      | true =>
        have := (blk_step hb).1
        have := ih (q + 1) (by omega)
        omega
  have := key (N - p) p (by omega)
  omega
theorem cnt_blk (T : List UInt8) (p : Nat) : (T.take (p + blk (T.drop p))).count 44 = (T.take p).count 44 := by
  rw [List.take_add, List.count_append, blk_cnt, Nat.add_zero]
theorem cnt_comma {T : List UInt8} {k : Nat} (h : isC (T.drop k) = true) : (T.take (k + 1)).count 44 = (T.take k).count 44 + 1 := by
  have hk := isC_lt h
  obtain ⟨b, hb⟩ : ∃ b, T[k]? = some b := ⟨_, List.getElem?_eq_getElem hk⟩
  rw [isC_some hb] at h
  have hb44 : b = 44 := by
    have : (b.toNat : Int) = 44 := by simpa using h
    exact UInt8.toNat_inj.1 (by show b.toNat = 44; omega)
  rw [List.take_add, List.count_append, drop_cons' hb, hb44]
  rfl
theorem not_B_N {T : List UInt8} {N k : Nat} (h : Txt T N) (hk : k ≤ N) (hB : isB (T.drop k) = false) (hC : isC (T.drop k) = false) : k = N := by
  apply Classical.byContradiction
  intro hne
  have hlt : k < N := by omega
  obtain ⟨b, hb⟩ : ∃ b, T[k]? = some b := ⟨_, List.getElem?_eq_getElem (by rw [h.len]; omega)⟩
  rw [isB_some hb] at hB
  rw [isC_some hb] at hC
  rcases h.mid k b hlt hb with h1 | h1
  · rw [h1] at hB; cases hB
  · rw [h1] at hC; exact absurd hC (by decide)
theorem gap_step {T : List UInt8} {N p n : Nat} (h : Txt T N) (hJ : Jg T N p n) (hg : 0 < gapN (T.drop p)) : Jg T N (p + gapN (T.drop p)) (n + 1) := by
  obtain ⟨hp, hJ⟩ := hJ
  have hkN := blk_N h hp
  have hkB := isB_blk (l := T.drop p)
  rw [List.drop_drop] at hkB
  have hcb := cnt_blk T p
  obtain ⟨k, hk⟩ : ∃ k, k = p + blk (T.drop p) := ⟨_, rfl⟩
  by_cases hc : isC (T.drop k) = true
  · have e : p + gapN (T.drop p) = k + 1 + blk (T.drop (k + 1)) := by
      unfold gapN
      rw [if_pos (by rw [List.drop_drop, ← hk]; exact hc), List.drop_drop, show p + (blk (T.drop p) + 1) = k + 1 by omega]
      omega
    have hkl : k < N := by
      apply Classical.byContradiction; intro h2
      have : k = N := by omega
      subst this
      rw [isC_some h.last] at hc; exact absurd hc (by decide)
    have h2 := blk_N h (show k + 1 ≤ N by omega)
    have h3 := cnt_blk T (k + 1)
    have h4 := cnt_comma hc
    have h5 := isB_blk (l := T.drop (k + 1))
    rw [List.drop_drop] at h5
    rw [← hk] at hcb
    rw [e]
    refine ⟨h2, .inr (.inl ⟨by omega, h5, ?_⟩)⟩
    rw [h3, h4, hcb]
    rcases hJ with ⟨rfl, rfl⟩ | ⟨-, -, h6⟩ | ⟨-, -, h6, -⟩
    · simp
    · omega
    · omega
  · have hC : isC (T.drop k) = false := Bool.eq_false_iff.2 hc
    have e : gapN (T.drop p) = blk (T.drop p) := by
      unfold gapN; rw [if_neg (by rw [List.drop_drop, ← hk]; exact hc)]
    rw [e] at hg ⊢
    rw [← hk] at hkB hkN hcb
    have hkN2 := not_B_N h hkN hkB hC
    have hBp : isB (T.drop p) = true := by
      cases hb : isB (T.drop p) with
      | true => rfl
      | false => rw [blk_stop hb] at hg; omega
    rcases hJ with ⟨rfl, rfl⟩ | ⟨-, h6, -⟩ | ⟨-, -, h6, -⟩
    · refine ⟨by omega, .inr (.inr ⟨?_, rfl, by omega, by omega⟩)⟩
      rw [← hkN2, hcb]; rfl
    · rw [h6] at hBp; cases hBp
    · exfalso; omega
theorem gap_end {T : List UInt8} {N p n : Nat} (h : Txt T N) (hJ : Jg T N p n) (hg : gapN (T.drop p) = 0) : p = N ∧ (0 < (T.take N).count 44 → n = (T.take N).count 44) ∧ ((T.take N).count 44 = 0 → n = min N 1) := by
  obtain ⟨hp, hJ⟩ := hJ
  have hb0 : blk (T.drop p) = 0 := by
    unfold gapN at hg; split at hg <;> omega
  have hC : isC (T.drop p) = false := by
    cases hc : isC (T.drop p) with
    | false => rfl
    | true => unfold gapN at hg; rw [hb0, List.drop_zero, if_pos hc] at hg; omega
  have hB : isB (T.drop p) = false := by
    cases hb : isB (T.drop p) with
    | false => rfl
    | true => have := (blk_step hb).1; omega
  have hpN := not_B_N h hp hB hC
  subst hpN
  refine ⟨rfl, ?_⟩
  rcases hJ with ⟨rfl, rfl⟩ | ⟨h5, -, h6⟩ | ⟨h5, rfl, -, h6⟩
  · exact ⟨fun h => by simp at h, fun _ => rfl⟩
  · exact ⟨fun _ => h6.symm, fun h => by omega⟩
  · exact ⟨fun h => by omega, fun _ => by omega⟩
end Go.Proofs.YtelgbnjagbleoaaDoor
