/- Blanks and gaps of a text. Plain definitions and lemmas. -/
import Derived.Test.YtelgbnjagbleoaaDoorDecTxt3
set_option linter.unusedSimpArgs false
set_option linter.unusedVariables false
set_option linter.deprecated false
namespace Go.Proofs.YtelgbnjagbleoaaDoor
open Go.Abs
def blankN (n : Int) : Bool := n == 9 || n == 10 || n == 13 || n == 32
theorem blankN_iff (n : Int) : blankN n = true ↔ n = 9 ∨ n = 10 ∨ n = 13 ∨ n = 32 := by simp [blankN, or_assoc]
/-- how many blanks there are ahead -/
def blk : List UInt8 → Nat
  | [] => 0
  | b :: l => if blankN b.toNat = true then blk l + 1 else 0
theorem blk_le : ∀ l, blk l ≤ l.length
  | [] => Nat.le_refl _
  | b :: l => by
    have := blk_le l
    unfold blk; split
    · simp; omega
    · exact Nat.zero_le _
def isB (l : List UInt8) : Bool := match l with | [] => false | b :: _ => blankN b.toNat
def isC (l : List UInt8) : Bool := match l with | [] => false | b :: _ => (b.toNat : Int) == 44
/-- how long the gap ahead is -/
def gapN (l : List UInt8) : Nat := if isC (l.drop (blk l)) = true then blk l + 1 + blk (l.drop (blk l + 1)) else blk l
theorem isB_some {s : List UInt8} {p : Nat} {b : UInt8} (h : s[p]? = some b) : isB (s.drop p) = blankN b.toNat := by rw [drop_cons' h]; rfl
theorem isC_some {s : List UInt8} {p : Nat} {b : UInt8} (h : s[p]? = some b) : isC (s.drop p) = ((b.toNat : Int) == 44) := by rw [drop_cons' h]; rfl
theorem blk_step {s : List UInt8} {p : Nat} (h : isB (s.drop p) = true) : blk (s.drop p) = blk (s.drop (p + 1)) + 1 ∧ p < s.length := by
  have hp : p < s.length := by
    apply Nat.lt_of_not_le; intro h2; rw [List.drop_eq_nil_of_le h2] at h; cases h
  obtain ⟨b, hb⟩ : ∃ b, s[p]? = some b := ⟨_, List.getElem?_eq_getElem hp⟩
  rw [isB_some hb] at h
  rw [drop_cons' hb]
  exact ⟨if_pos h, hp⟩
theorem blk_stop {s : List UInt8} {p : Nat} (h : isB (s.drop p) = false) : blk (s.drop p) = 0 := by
  cases hd : s.drop p with
  | nil => rfl
  | cons b l => rw [hd] at h; exact if_neg (by rw [show blankN b.toNat = false from h]; decide)
theorem blk_in (s : List UInt8) (p : Nat) (h : p ≤ s.length) : p + blk (s.drop p) ≤ s.length := by
  have := blk_le (s.drop p); rw [List.length_drop] at this; omega
theorem isC_lt {s : List UInt8} {p : Nat} (h : isC (s.drop p) = true) : p < s.length := by
  apply Nat.lt_of_not_le; intro h2; rw [List.drop_eq_nil_of_le h2] at h; cases h
theorem gap_in (s : List UInt8) (p : Nat) (h : p ≤ s.length) : p + gapN (s.drop p) ≤ s.length := by
  have h1 := blk_in s p h
  unfold gapN
  split
  · rename_i hc
    rw [List.drop_drop] at hc
    have h2 := isC_lt hc
    have h3 := blk_in s (p + blk (s.drop p) + 1) (by omega)
    rw [List.drop_drop, ← Nat.add_assoc p]
    omega
  · omega
end Go.Proofs.YtelgbnjagbleoaaDoor
