/- Matrices as arguments; distances. No condition. -/
import Derived.Test.YteiedieeebjklaaDoorLaw08b
import Derived.Test.YteiedieeebjklaaDoorRow
set_option linter.unusedSimpArgs false
set_option linter.unusedVariables false
set_option linter.deprecated false
namespace Go.Proofs.YteiedieeebjklaaDoor
open Go.Abs Go.RowKit
def Mx.i64 (m : Mx) : Prop := (I64 m.a ∧ I64 m.b ∧ I64 m.c) ∧ I64 m.d ∧ I64 m.e ∧ I64 m.f
theorem mx_elem : Elem Mx.c' Mx.i64 [.int .i64, .int .i64, .int .i64, .int .i64, .int .i64, .int .i64] where
  len _ := rfl
  of cs h := by
    obtain ⟨a, _, rfl, w1, h⟩ := h.consI
    obtain ⟨b, _, rfl, w2, h⟩ := h.consI
    obtain ⟨c, _, rfl, w3, h⟩ := h.consI
    obtain ⟨d, _, rfl, w4, h⟩ := h.consI
    obtain ⟨e, _, rfl, w5, h⟩ := h.consI
    obtain ⟨f, _, rfl, w6, h⟩ := h.consI
    obtain rfl := h.nil
    exact ⟨⟨a, b, c, d, e, f⟩, ⟨⟨wf_I64 w1, wf_I64 w2, wf_I64 w3⟩, wf_I64 w4, wf_I64 w5, wf_I64 w6⟩, fun E => by simp [Mx.c', VRL, VR]⟩
structure By where
  e : Int
  f : Int
def By.c (b : By) : List AV := [.int .i32 b.e, .int .i32 b.f]
def By.ok (b : By) : Prop := (-2147483648 ≤ b.e ∧ b.e ≤ 2147483647) ∧ -2147483648 ≤ b.f ∧ b.f ≤ 2147483647
theorem wf_i32' {n : Int} (h : (Lit.int .i32 n).wf = true) : -2147483648 ≤ n ∧ n ≤ 2147483647 := by
  simp [Lit.wf, IntKind.min, IntKind.max, IntKind.signed, IntKind.bits] at h; omega
theorem by_elem : Elem By.c By.ok [.int .i32, .int .i32] where
  len _ := rfl
  of cs h := by
    obtain ⟨a, _, rfl, w1, h⟩ := h.consI
    obtain ⟨b, _, rfl, w2, h⟩ := h.consI
    obtain rfl := h.nil
    exact ⟨⟨a, b⟩, ⟨wf_i32' w1, wf_i32' w2⟩, fun E => by simp [By.c, VRL, VR]⟩
end Go.Proofs.YteiedieeebjklaaDoor
