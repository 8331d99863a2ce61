/- The law ScanLists, its lists as arguments. No condition. -/
import Derived.Test.YtelgbnjagbleoaaDoorLaw05d
import Derived.Test.YtelgbnjagbleoaaDoorArgs05
set_option linter.unusedSimpArgs false
set_option linter.unusedVariables false
set_option linter.deprecated false
namespace Go.Proofs.YtelgbnjagbleoaaDoor
open Go.Abs Go.RowKit
theorem wf_i32 {n : Int} (h : (Lit.int .i32 n).wf = true) : -2147483648 ≤ n ∧ n ≤ 2147483647 := by
  simp [Lit.wf, IntKind.min, IntKind.max, IntKind.signed, IntKind.bits] at h; omega
def i32c (n : Int) : List AV := [.int .i32 n]
def i32ok (n : Int) : Prop := -2147483648 ≤ n ∧ n ≤ 2147483647
theorem i32_elem : Elem i32c i32ok [.int .i32] where
  len _ := rfl
  of cs h := by
    obtain ⟨a, _, rfl, w1, h⟩ := h.consI
    obtain rfl := h.nil
    exact ⟨a, wf_i32 w1, fun E => by simp [i32c, VRL, VR]⟩
theorem cs_i32 : ∀ l : List Int, cs i32c l = ci .i32 l
  | [] => rfl
  | a :: l => by have := cs_i32 l; simp only [cs, ci, List.flatMap_cons, List.map_cons] at *; rw [this]; rfl
theorem l_scanLists' (l gp : List Int) (h : ∀ a ∈ l, i32ok a) (h2 : ∀ a ∈ gp, u8ok a) : ACalls seat 3 [.vec (cs i32c l) l.length none, .vec (cs u8c gp) gp.length none] [] (fun x _ => x = .ret (.bool true)) := by
  rw [cs_u8, cs_i32]; exact l_scanLists l gp h h2
end Go.Proofs.YtelgbnjagbleoaaDoor
