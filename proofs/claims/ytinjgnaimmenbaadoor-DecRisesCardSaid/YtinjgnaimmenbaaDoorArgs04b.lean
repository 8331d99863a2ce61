/- Four numbers as an argument. No condition. -/
import Derived.Test.YtinjgnaimmenbaaDoorLaw04d
set_option linter.unusedSimpArgs false
set_option linter.unusedVariables false
set_option linter.deprecated false
namespace Go.Proofs.YtinjgnaimmenbaaDoor
open Go.Abs Go.RowKit
structure Q4 where
  a : Int
  b : Int
  c : Int
  d : Int
def Q4.c' (q : Q4) : List AV := [.int .u32 q.a, .int .u32 q.b, .int .u32 q.c, .int .u32 q.d]
def U32 (n : Int) : Prop := 0 ≤ n ∧ n < 4294967296
def Q4.ok (q : Q4) : Prop := U32 q.a ∧ U32 q.b ∧ U32 q.c ∧ U32 q.d
theorem q4_elem : Elem Q4.c' Q4.ok [.int .u32, .int .u32, .int .u32, .int .u32] where
  len _ := rfl
  of cs h := by
    obtain ⟨a, _, rfl, w1, h⟩ := h.consI
    obtain ⟨b, _, rfl, w2, h⟩ := h.consI
    obtain ⟨c, _, rfl, w3, h⟩ := h.consI
    obtain ⟨d, _, rfl, w4, h⟩ := h.consI
    obtain rfl := h.nil
    exact ⟨⟨a, b, c, d⟩, ⟨wf_u32 w1, wf_u32 w2, wf_u32 w3, wf_u32 w4⟩, fun E => by simp [Q4.c', VRL, VR]⟩
theorem l_decRises' (q : Q4) (h : q.ok) : ACalls seat 5 [.agg q.c'] [] (fun x _ => x = .ret (.bool true)) := by
  obtain ⟨a, b, c, d⟩ := q
  obtain ⟨⟨a0, a1⟩, ⟨b0, b1⟩, ⟨c0, c1⟩, d0, d1⟩ := h
  simp only at a0 a1 b0 b1 c0 c1 d0 d1
  have := l_decRises a.toNat b.toNat c.toNat d.toNat (by omega) (by omega) (by omega) (by omega)
  rw [Int.toNat_of_nonneg a0, Int.toNat_of_nonneg b0, Int.toNat_of_nonneg c0, Int.toNat_of_nonneg d0] at this
  exact this
end Go.Proofs.YtinjgnaimmenbaaDoor
