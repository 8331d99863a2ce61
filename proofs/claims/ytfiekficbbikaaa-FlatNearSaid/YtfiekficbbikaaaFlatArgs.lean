/- Curves as arguments. No condition. -/
import Derived.Test.YtfiekficbbikaaaFlatLaws2
import Derived.Test.YtfiekficbbikaaaRow
import Derived.OpenShut
set_option linter.unusedSimpArgs false
set_option linter.unusedVariables false
set_option linter.deprecated false
namespace Go.Proofs.Ytfiekficbbikaaa
open Go.Abs Go.RowKit
def Cv.i64 (c : Cv) : Prop := (c.p.i64 ∧ c.q.i64) ∧ c.r.i64 ∧ c.s.i64
theorem cv_elem : Elem Cv.c Cv.i64 [.int .i64, .int .i64, .int .i64, .int .i64, .int .i64, .int .i64, .int .i64, .int .i64] where
  len _ := rfl
  of cs h := by
    obtain ⟨a, _, rfl, w1, h⟩ := h.consI
    obtain ⟨b, _, rfl, w2, h⟩ := h.consI
    obtain ⟨c, _, rfl, w3, h⟩ := h.consI
    obtain ⟨d, _, rfl, w4, h⟩ := h.consI
    obtain ⟨e, _, rfl, w5, h⟩ := h.consI
    obtain ⟨f, _, rfl, w6, h⟩ := h.consI
    obtain ⟨g, _, rfl, w7, h⟩ := h.consI
    obtain ⟨i, _, rfl, w8, h⟩ := h.consI
    obtain rfl := h.nil
    exact ⟨⟨⟨a, b⟩, ⟨c, d⟩, ⟨e, f⟩, ⟨g, i⟩⟩, ⟨⟨⟨wf_I64 w1, wf_I64 w2⟩, ⟨wf_I64 w3, wf_I64 w4⟩⟩, ⟨wf_I64 w5, wf_I64 w6⟩, ⟨wf_I64 w7, wf_I64 w8⟩⟩, fun E => by simp [Cv.c, VRL, VR]⟩
theorem l_flatPieces' (c : Cv) (n : Int) (h : (Lit.int .u8 n).wf = true) : ACalls seat 5 [c.a, .int .u8 n] [] (fun x _ => x = .ret (.bool true)) := by
  have hb : 0 ≤ n ∧ n < 256 := by
    simp [Lit.wf, IntKind.min, IntKind.max, IntKind.signed, IntKind.bits] at h; omega
  obtain ⟨m, rfl⟩ := Int.eq_ofNat_of_zero_le hb.1
  exact l_flatPieces c m (by omega)
end Go.Proofs.Ytfiekficbbikaaa
