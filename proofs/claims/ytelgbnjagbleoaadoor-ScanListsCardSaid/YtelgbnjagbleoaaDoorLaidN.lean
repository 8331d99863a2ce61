/- Several listed variables, and string arguments. No condition: lemmas. -/
import Derived.Test.YtelgbnjagbleoaaDoorLaid
set_option linter.unusedSimpArgs false
set_option linter.unusedVariables false
set_option linter.deprecated false
namespace Go.Abs
open Go Go.RowKit Go.ChangeShapes
theorem vr_str (E : Env) (s : ByteArray) : VR E (.str s.data.toList) (.string s) := by cases s; simp [VR]
theorem laid_vars {P : Program} {W : World} {name : String} {D : DataW Unit} {g t : Nat} {cells : List Value}
    (hg : P.globalNamed name = some g) (ht : (P.globals[g]?).map (·.type) = some t) (hk : (ckOf P 9 t).isSome = true) (hc : flatD D = cells) :
    ∀ (laid : List (String × DataW Unit)) (ps : List MemPlace), (name, D) ∈ laid → DataW.LaidVars P W laid ps → W.var? P name = some cells.toArray
  | [], _, h, _ => by cases h
  | (n', D') :: l, ps, h, hl => by
    obtain ⟨ks, hk'⟩ := Option.isSome_iff_exists.1 hk
    obtain ⟨g', t', cs, fuel, p, q, hg', ht', hvar, hd, hr, _⟩ := hl
    rcases List.mem_cons.1 h with h | h
    · cases h
      obtain rfl := Option.some.inj (hg.symm.trans hg')
      obtain rfl := Option.some.inj (ht.symm.trans ht')
      rw [hvar]
      have := flat_trod 9 _ ks hk' _ _ _ hd
      simp only at this
      rw [hc] at this
      rw [← this]
    · exact laid_vars hg ht hk hc l q h hr
theorem laid_at {P : Program} {laid : List (String × DataW Unit)} {W : World} {name : String} {D : DataW Unit} {g t : Nat} {cells : List Value} (h : laidMet P laid W) (hm : (name, D) ∈ laid)
    (hg : P.globalNamed name = some g) (ht : (P.globals[g]?).map (·.type) = some t) (hk : (ckOf P 9 t).isSome = true) (hc : flatD D = cells) : W.var? P name = some cells.toArray := by
  obtain ⟨ps, h, _⟩ := h
  exact laid_vars hg ht hk hc laid ps hm h
end Go.Abs
