/- The arguments of the laws of layer 4. No condition. -/
import Derived.Test.YtinjgnaimmenbaaDoorLaw04b
import Derived.Test.YtinjgnaimmenbaaDoorRow
set_option linter.unusedSimpArgs false
set_option linter.unusedVariables false
set_option linter.deprecated false
namespace Go.Proofs.YtinjgnaimmenbaaDoor
open Go.Abs
theorem wf_u16 {n : Int} (h : (Lit.int .u16 n).wf = true) : 0 ≤ n ∧ n < 65536 := by
  simp [Lit.wf, IntKind.min, IntKind.max, IntKind.signed, IntKind.bits] at h; omega
theorem wf_u8 {n : Int} (h : (Lit.int .u8 n).wf = true) : 0 ≤ n ∧ n < 256 := by
  simp [Lit.wf, IntKind.min, IntKind.max, IntKind.signed, IntKind.bits] at h; omega
theorem wf_u32 {n : Int} (h : (Lit.int .u32 n).wf = true) : 0 ≤ n ∧ n < 4294967296 := by
  simp [Lit.wf, IntKind.min, IntKind.max, IntKind.signed, IntKind.bits] at h; omega
theorem l_decNoughts' (w b k : Int) (hw : (Lit.int .u16 w).wf = true) (hb : (Lit.int .u16 b).wf = true) (hk : (Lit.int .u8 k).wf = true) : ACalls seat 4 [.int .u16 w, .int .u16 b, .int .u8 k] [] (fun x _ => x = .ret (.bool true)) := by
  have h1 := wf_u16 hw
  have h2 := wf_u16 hb
  have h3 := wf_u8 hk
  have := l_decNoughts w.toNat b.toNat k.toNat (by omega) (by omega) (by omega)
  rw [Int.toNat_of_nonneg h1.1, Int.toNat_of_nonneg h2.1, Int.toNat_of_nonneg h3.1] at this
  exact this
end Go.Proofs.YtinjgnaimmenbaaDoor
