/- A text of printed numbers with gaps between. Plain lemmas. -/
import Derived.Test.YtelgbnjagbleoaaDoorScanT
set_option linter.unusedSimpArgs false
set_option linter.unusedVariables false
set_option linter.deprecated false
namespace Go.Proofs.YtelgbnjagbleoaaDoor
open Go.Abs
def gstr (a : Int) : List UInt8 := ([[32], [44], [32, 44, 32], [9]] : List (List UInt8))[(a % 4).toNat]?.getD []
theorem gstr_cases {a : Int} (h : 0 ≤ a) : (a % 4 = 0 ∧ gstr a = [32]) ∨ (a % 4 = 1 ∧ gstr a = [44]) ∨ (a % 4 = 2 ∧ gstr a = [32, 44, 32]) ∨ (a % 4 = 3 ∧ gstr a = [9]) := by
  unfold gstr
  have : a % 4 = 0 ∨ a % 4 = 1 ∨ a % 4 = 2 ∨ a % 4 = 3 := by omega
  rcases this with h | h | h | h <;> rw [h] <;> simp
/-- a text that begins with a digit or a sign -/
def begN (X : List UInt8) : Prop := isB X = false ∧ isC X = false ∧ X ≠ []
theorem begN_pr (n : Int) (r : List UInt8) : begN (prD n ++ r) := by
  have hd : ∀ b : UInt8, kindN b.toNat = 0 → blankN b.toNat = false ∧ ((b.toNat : Int) == 44) = false := fun b hb => by
    have hc := kindN_cases b.toNat
    refine ⟨Bool.eq_false_iff.2 (fun h => by have := (blankN_iff _).1 h; omega), by simp; omega⟩
  unfold prD prS
  split
  · exact ⟨rfl, rfl, by simp⟩
  · have hp := decD_pos (n.natAbs / 65536)
    have hk := decD_dig (n.natAbs / 65536)
    cases hD : decD (n.natAbs / 65536) with
    | nil => rw [hD] at hp; exact absurd hp (by decide)
    | cons b l =>
      rw [hD] at hk
      have := hd b (hk b (.head _))
      exact ⟨this.1, this.2, by simp⟩
theorem gap_str {a : Int} (h : 0 ≤ a) {X : List UInt8} (hX : begN X) : gapN (gstr a ++ X) = (gstr a).length ∧ 0 < (gstr a).length := by
  obtain ⟨h1, h2, h3⟩ := hX
  have hb : blk X = 0 := by
    cases X with
    | nil => exact absurd rfl h3
    | cons b l => exact if_neg (by rw [show blankN b.toNat = false from h1]; decide)
  have b32 : ∀ Y : List UInt8, blk (32 :: Y) = blk Y + 1 := fun Y => if_pos (by decide)
  have b9 : ∀ Y : List UInt8, blk (9 :: Y) = blk Y + 1 := fun Y => if_pos (by decide)
  have b44 : ∀ Y : List UInt8, blk (44 :: Y) = 0 := fun Y => if_neg (by decide)
  rcases gstr_cases h with ⟨-, e⟩ | ⟨-, e⟩ | ⟨-, e⟩ | ⟨-, e⟩
  · rw [e]; refine ⟨?_, by decide⟩
    unfold gapN
    simp only [List.cons_append, List.nil_append, b32, hb, List.drop_succ_cons, List.drop_zero, h2]
    rfl
  · rw [e]; refine ⟨?_, by decide⟩
    unfold gapN
    simp only [List.cons_append, List.nil_append, b44, hb, List.drop_succ_cons, List.drop_zero]
    rfl
  · rw [e]; refine ⟨?_, by decide⟩
    unfold gapN
    simp only [List.cons_append, List.nil_append, b32, b44, hb, List.drop_succ_cons, List.drop_zero]
    rfl
  · rw [e]; refine ⟨?_, by decide⟩
    unfold gapN
    simp only [List.cons_append, List.nil_append, b9, hb, List.drop_succ_cons, List.drop_zero, h2]
    rfl
theorem kd_gstr {a : Int} (h : 0 ≤ a) (X : List UInt8) : kd (gstr a ++ X) = -1 := by
  rcases gstr_cases h with ⟨-, e⟩ | ⟨-, e⟩ | ⟨-, e⟩ | ⟨-, e⟩ <;> rw [e] <;> rfl
def itm (l : List Int) (i : Nat) : Int := l[i]?.getD 0
def gapI (gp : List Int) (i : Nat) : List UInt8 := if 0 < i then gstr (gp[i % gp.length]?.getD 0) else []
def pc (l gp : List Int) (i : Nat) : List UInt8 := gapI gp i ++ prD (itm l i)
def bT (l gp : List Int) : Nat → List UInt8
  | 0 => []
  | i + 1 => bT l gp i ++ pc l gp i
def rF (l gp : List Int) : Nat → Nat → List UInt8
  | 0, _ => []
  | k + 1, i => pc l gp i ++ rF l gp k (i + 1)
theorem bT_rF (l gp : List Int) : ∀ (k i : Nat), bT l gp i ++ rF l gp k i = bT l gp (i + k)
  | 0, i => by simp [rF]
  | k + 1, i => by
    have := bT_rF l gp k (i + 1)
    rw [rF, ← List.append_assoc, show i + (k + 1) = i + 1 + k by omega, ← this]; rfl
theorem bT_drop (l gp : List Int) {i N : Nat} (h : i ≤ N) : (bT l gp N).drop (bT l gp i).length = rF l gp (N - i) i := by
  have := bT_rF l gp (N - i) i
  rw [show i + (N - i) = N by omega] at this
  rw [← this, List.drop_left]
theorem kd_rF (l gp : List Int) (hg : ∀ a ∈ gp, 0 ≤ a) (k i : Nat) (hi : 0 < i) : kd (rF l gp k i) = -1 := by
  cases k with
  | zero => rfl
  | succ k =>
    unfold rF pc gapI
    rw [if_pos hi, List.append_assoc]
    refine kd_gstr ?_ _
    cases h : gp[i % gp.length]? with
    | none => simp
    | some a => exact hg a (List.mem_of_getElem? h)
theorem prD_len {n : Int} (hn : -4294967296 < n ∧ n < 4294967296) : (prD n).length ≤ 30 := by
  have h1 := prB_len n.natAbs
  have h2 := decD_len 5 (n.natAbs / 65536) (by omega)
  unfold prD prS
  have h3 : (dotL (prB n.natAbs)).length ≤ 17 := by
    cases hB : prB n.natAbs with
    | none => simp [dotL]
    | some B => rw [hB] at h1; simp only [Option.getD_some] at h1; simp [dotL]; omega
  simp only [List.length_append]; split <;> simp <;> omega
theorem bT_len (l gp : List Int) (hl : ∀ a ∈ l, -4294967296 < a ∧ a < 4294967296) (hg : ∀ a ∈ gp, 0 ≤ a) : ∀ i, (bT l gp i).length ≤ 40 * i
  | 0 => by simp [bT]
  | i + 1 => by
    have h1 := bT_len l gp hl hg i
    have h2 : (prD (itm l i)).length ≤ 30 := prD_len (by
      unfold itm
      cases h : l[i]? with
      | none => simp
      | some a => exact hl a (List.mem_of_getElem? h))
    have h3 : (gapI gp i).length ≤ 3 := by
      unfold gapI
      split
      · have : 0 ≤ gp[i % gp.length]?.getD 0 := by
          cases h : gp[i % gp.length]? with
          | none => simp
          | some a => exact hg a (List.mem_of_getElem? h)
        rcases gstr_cases this with ⟨-, e⟩ | ⟨-, e⟩ | ⟨-, e⟩ | ⟨-, e⟩ <;> rw [e] <;> decide
      · simp
    simp only [bT, pc, List.length_append]
    omega
end Go.Proofs.YtelgbnjagbleoaaDoor
