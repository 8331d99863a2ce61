/- The pieces of a curve, in plain terms: the document's list, and the stack of what waits. No condition: definitions and lemmas. -/
import Derived.Test.YtfiekficbbikaaaCurve
set_option linter.unusedSimpArgs false
set_option linter.unusedVariables false
set_option linter.deprecated false
namespace Go.Proofs.Ytfiekficbbikaaa
open Go.Abs

/-- the pieces of a curve that may be cut n times more -/
def pieces : Nat → Cv → List Cv
  | 0, c => [c]
  | n + 1, c => if c.flat then [c] else pieces n c.cut1 ++ pieces n c.cut2
/-- what waits on a stack (top first) is still to be told -/
def waiting (l : List (Cv × Nat)) : List Cv := l.flatMap fun x => pieces x.2 x.1
/-- how many steps at most -/
def steps (l : List (Cv × Nat)) : Nat := (l.map fun x => 2 ^ (x.2 + 1) - 1).sum
/-- a stack is no deeper than its cuts let it be (top first: what lies below x is l) -/
def deepOK : List (Cv × Nat) → Prop
  | [] => True
  | x :: l => x.2 + l.length ≤ 20 ∧ deepOK l
theorem deepOK.len : ∀ {l : List (Cv × Nat)}, deepOK l → l.length ≤ 21
  | [], _ => by simp
  | x :: l, h => by have := h.1; simp only [List.length_cons]; omega
theorem deepOK.cut {c : Cv} {n : Nat} {l : List (Cv × Nat)} (h : deepOK ((c, n + 1) :: l)) (a b : Cv) : deepOK ((a, n) :: (b, n) :: l) := by
  obtain ⟨h1, h2⟩ := h
  exact ⟨by simp only [List.length_cons] at *; omega, by simp only at *; omega, h2⟩
theorem steps_pop (x : Cv × Nat) (l : List (Cv × Nat)) : steps l < steps (x :: l) := by
  have : 0 < 2 ^ (x.2 + 1) - 1 := by
    have := Nat.one_lt_two_pow (n := x.2 + 1) (by omega)
    omega
  simp only [steps, List.map_cons, List.sum_cons]; omega
theorem steps_cut (c a b : Cv) (n : Nat) (l : List (Cv × Nat)) : steps ((a, n) :: (b, n) :: l) < steps ((c, n + 1) :: l) := by
  simp only [steps, List.map_cons, List.sum_cons]
  have : 2 ^ (n + 1 + 1) = 2 * 2 ^ (n + 1) := by rw [Nat.pow_succ, Nat.mul_comm]
  have := Nat.one_lt_two_pow (n := n + 1) (by omega)
  omega
theorem waiting_tell {c : Cv} {n : Nat} {l : List (Cv × Nat)} (h : n = 0 ∨ c.flat) : waiting ((c, n) :: l) = c :: waiting l := by
  have : pieces n c = [c] := by
    rcases h with rfl | h
    · rfl
    · cases n with
      | zero => rfl
      | succ n => simp [pieces, h]
  simp [waiting, this]
theorem waiting_cut {c : Cv} {n : Nat} {l : List (Cv × Nat)} (h : ¬ c.flat) : waiting ((c, n + 1) :: l) = waiting ((c.cut1, n) :: (c.cut2, n) :: l) := by
  simp [waiting, pieces, h]
theorem Cv.cut1_in {c : Cv} {m : Int} (h : c.in m) : c.cut1.in m := by
  obtain ⟨⟨hp, hq⟩, hr, hs⟩ := h
  have i1 := Pt.mid_in hp hq
  have i2 := Pt.mid_in hq hr
  have i4 := Pt.mid_in hr hs
  exact ⟨⟨hp, i1⟩, Pt.mid_in i1 i2, Pt.mid_in (Pt.mid_in i1 i2) (Pt.mid_in i2 i4)⟩
theorem Cv.cut2_in {c : Cv} {m : Int} (h : c.in m) : c.cut2.in m := by
  obtain ⟨⟨hp, hq⟩, hr, hs⟩ := h
  have i1 := Pt.mid_in hp hq
  have i2 := Pt.mid_in hq hr
  have i4 := Pt.mid_in hr hs
  exact ⟨⟨Pt.mid_in (Pt.mid_in i1 i2) (Pt.mid_in i2 i4), Pt.mid_in i2 i4⟩, i4, hs⟩
theorem pieces_pos : ∀ (n : Nat) (c : Cv), 0 < (pieces n c).length
  | 0, c => by simp [pieces]
  | n + 1, c => by
    unfold pieces; split
    · simp
    · have := pieces_pos n c.cut1; rw [List.length_append]; omega
/-- all pieces keep to the bound -/
theorem pieces_in {m : Int} : ∀ (n : Nat) {c : Cv}, c.in m → ∀ x ∈ pieces n c, x.in m
  | 0, c, h, x, hx => by simp [pieces] at hx; subst hx; exact h
  | n + 1, c, h, x, hx => by
    unfold pieces at hx; split at hx
    · simp at hx; subst hx; exact h
    · rcases List.mem_append.1 hx with hx | hx
      · exact pieces_in n (Cv.cut1_in h) x hx
      · exact pieces_in n (Cv.cut2_in h) x hx
end Go.Proofs.Ytfiekficbbikaaa
