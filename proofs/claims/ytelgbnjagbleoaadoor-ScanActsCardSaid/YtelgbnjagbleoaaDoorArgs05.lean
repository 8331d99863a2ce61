/- Lists of bytes as arguments. No condition. -/
import Derived.Test.YtelgbnjagbleoaaDoorLaw05a
import Derived.Test.YtelgbnjagbleoaaDoorRow
set_option linter.unusedSimpArgs false
set_option linter.unusedVariables false
set_option linter.deprecated false
namespace Go.Proofs.YtelgbnjagbleoaaDoor
open Go.Abs Go.RowKit
theorem wf_u8 {n : Int} (h : (Lit.int .u8 n).wf = true) : 0 ≤ n ∧ n < 256 := by
  simp [Lit.wf, IntKind.min, IntKind.max, IntKind.signed, IntKind.bits] at h; omega
def u8c (n : Int) : List AV := [.int .u8 n]
def u8ok (n : Int) : Prop := 0 ≤ n ∧ n < 256
theorem u8_elem : Elem u8c u8ok [.int .u8] where
  len _ := rfl
  of cs h := by
    obtain ⟨a, _, rfl, w1, h⟩ := h.consI
    obtain rfl := h.nil
    exact ⟨a, wf_u8 w1, fun E => by simp [u8c, VRL, VR]⟩
theorem cs_u8 : ∀ l : List Int, cs u8c l = ci .u8 l
  | [] => rfl
  | a :: l => by have := cs_u8 l; simp only [cs, ci, List.flatMap_cons, List.map_cons] at *; rw [this]; rfl
theorem l_scanNever' (s : List UInt8) (l : List Int) (h : ∀ a ∈ l, u8ok a) : ACalls seat 6 [.str s, .vec (cs u8c l) l.length none] [] (fun x _ => x = .ret (.bool true)) := by
  rw [cs_u8]; exact l_scanNever s l h
end Go.Proofs.YtelgbnjagbleoaaDoor
