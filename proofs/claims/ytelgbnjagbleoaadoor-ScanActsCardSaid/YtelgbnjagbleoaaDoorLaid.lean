/- What a listed variable reads as, as cells. No condition: definitions and lemmas. -/
import Derived.Test.YtelgbnjagbleoaaDoorRow
import Derived.LaidLaws
set_option linter.unusedSimpArgs false
set_option linter.unusedVariables false
set_option linter.deprecated false
namespace Go.Abs
open Go Go.RowKit Go.ChangeShapes
def litD : Lit → List Value
  | .bool b => [.bool b]
  | .int k n => [.int k n]
  | .string s => [.string ⟨s.toArray⟩]
  | _ => []
mutual
def flatD {H : Type} : DataW H → List Value
  | .lit l => litD l
  | .nil => []
  | .ptr _ => []
  | .slice _ _ => []
  | .agg ds => flatDs ds
  | .iface _ _ => []
  | .map _ => []
  | .held _ => []
def flatDs {H : Type} : List (DataW H) → List Value
  | [] => []
  | d :: ds => flatD d ++ flatDs ds
end
theorem flatDs_eq {H : Type} : ∀ l : List (DataW H), flatDs l = l.flatMap flatD
  | [] => by simp [flatDs]
  | d :: l => by simp [flatDs, flatDs_eq l]
section
variable {H : Type} {enc : TypeId × Value → H} {P : Program} {w : World} {base : Nat} {sp : Nat → Bool} {held : Bool}
theorem flat_trod : ∀ (d : Nat) (t : TypeId) (ks : List CK), ckOf P d t = some ks → ∀ (n : Nat) (cs : List Value) (x : DataW H × List MemPlace), DataW.trod enc P w base sp held n t cs = some x → cs = flatD x.1
  | 0, t, ks, h, _, _, _, _ => by simp [ckOf] at h
  | d + 1, t, ks, h, n, cs, x, ht => by
    have hlen := ckOf_length h
    unfold ckOf at h
    split at h
    case h_2 => cases h
    rename_i a ha
    split at h
    case isFalse => cases h
    cases h
    split at ha
    · rename_i k hu
      obtain ⟨m, rfl, rfl, hw⟩ := DataW.trod_int hu ht
      simp [flatD, litD]
    · rename_i hu
      obtain ⟨b, rfl, rfl⟩ := DataW.trod_bool hu ht
      simp [flatD, litD]
    · rename_i hu
      obtain ⟨s, rfl, rfl, hs⟩ := DataW.trod_string hu ht
      cases s; simp [flatD, litD]
    · rename_i fs hu
      obtain ⟨xs, m, _, rfl, hcl, hxl, hf⟩ := DataW.trod_struct hu ht
      have key : ∀ (l : List Field) (off j : Nat) (b : List CK), fs.toList.drop j = l → ckFs (ckOf P d) l off = some b → off + b.length = cs.length → cs.drop off = (xs.drop j).flatMap fun y => flatD y.1 := by
        intro l
        induction l with
        | nil =>
          intro off j b hl hb hle
          simp only [ckFs, Option.some.injEq] at hb
          subst hb
          have hj : fs.toList.length ≤ j := by simpa using hl
          rw [List.drop_eq_nil_of_le (by simpa using Nat.le_of_eq hle.symm), List.drop_eq_nil_of_le (by rw [hxl]; simpa using hj)]; rfl
        | cons f l ih =>
          intro off j b hl hb hle
          simp only [ckFs] at hb
          split at hb
          case isFalse => cases hb
          rename_i hoff
          have hoff := Nat.eq_of_beq_eq_true hoff
          split at hb
          case h_2 => cases hb
          rename_i a1 ha1
          split at hb
          case h_2 => cases hb
          rename_i b1 hb1
          cases hb
          have hgj : fs[j]? = some f := by
            have : fs.toList[j]? = some f := by rw [← List.head?_drop, hl]; rfl
            simpa using this
          have hjl : j < fs.size := (Array.getElem?_eq_some_iff.1 hgj).1
          have hd := hf j f hgj
          have hjx : j < xs.length := by omega
          have hy : xs[j]? = some xs[j] := List.getElem?_eq_getElem hjx
          rw [hy, hoff] at hd
          have h1 := flat_trod d f.type a1 ha1 m _ _ hd
          have hl1 := ckOf_length ha1
          have h2 := ih (off + a1.length) (j + 1) b1 (by rw [← List.tail_drop, hl]; rfl) hb1 (by simp at hle; omega)
          have e : cs.drop off = (cs.drop off).take (P.cellsOf f.type) ++ cs.drop (off + a1.length) := by
            rw [hl1, ← List.drop_drop, List.take_append_drop]
          refine e.trans ?_
          rw [h1, h2, List.drop_eq_getElem_cons hjx, List.flatMap_cons]
      have := key fs.toList 0 0 _ rfl ha (by rw [hcl]; omega)
      simp only [List.drop_zero] at this
      rw [this]
      simp [flatD, flatDs_eq, List.flatMap_map]
    · rename_i m e hu
      split at ha
      case h_2 => cases ha
      rename_i a1 ha1
      cases ha
      obtain ⟨xs, q, _, rfl, hcl, hxl, hf⟩ := DataW.trod_array hu ht
      have hl1 := ckOf_length ha1
      have hrl : ∀ k, (ckRep k a1).length = k * a1.length := by
        intro k
        induction k with
        | zero => simp [ckRep]
        | succ k ih => simp [ckRep, ih, Nat.succ_mul, Nat.add_comm]
      have key : ∀ (k j : Nat), j + k = m → cs.drop (j * a1.length) = (xs.drop j).flatMap fun y => flatD y.1 := by
        intro k
        induction k with
        | zero =>
          intro j hj
          rw [List.drop_eq_nil_of_le, List.drop_eq_nil_of_le (by omega)]
          · rfl
          · rw [hcl, ← hlen, hrl, show j = m by omega]; exact Nat.le_refl _
        | succ k ih =>
          intro j hj
          have h2 := ih (j + 1) (by omega)
          have hd := hf j (by omega)
          have hjx : j < xs.length := by omega
          have hy : xs[j]? = some xs[j] := List.getElem?_eq_getElem hjx
          rw [hy, ← hl1] at hd
          have h1 := flat_trod d e a1 ha1 q _ _ hd
          have e0 : cs.drop (j * a1.length) = (cs.drop (j * a1.length)).take a1.length ++ cs.drop ((j + 1) * a1.length) := by
            rw [Nat.succ_mul, ← List.drop_drop, List.take_append_drop]
          refine e0.trans ?_
          rw [h1, h2, List.drop_eq_getElem_cons hjx, List.flatMap_cons]
      have := key m 0 (by omega)
      simp only [Nat.zero_mul, List.drop_zero] at this
      rw [this]
      simp [flatD, flatDs_eq, List.flatMap_map]
    · cases ha
end
/-- one listed variable's cells -/
theorem laid_var {P : Program} {laid : List (String × DataW Unit)} {W : World} {name : String} {D : DataW Unit} {g t : Nat} {cells : List Value} (h : laidMet P ((name, D) :: laid) W)
    (hg : P.globalNamed name = some g) (ht : (P.globals[g]?).map (·.type) = some t) (hk : (ckOf P 9 t).isSome = true) (hc : flatD D = cells) : W.var? P name = some cells.toArray := by
  obtain ⟨ks, hk⟩ := Option.isSome_iff_exists.1 hk
  obtain ⟨ps, ⟨g', t', cs, fuel, p, q, hg', ht', hvar, hd, _, _⟩, _⟩ := h
  obtain rfl := Option.some.inj (hg.symm.trans hg')
  obtain rfl := Option.some.inj (ht.symm.trans ht')
  rw [hvar]
  have := flat_trod 9 _ ks hk _ _ _ hd
  simp only at this
  rw [hc] at this
  rw [← this]
end Go.Abs
