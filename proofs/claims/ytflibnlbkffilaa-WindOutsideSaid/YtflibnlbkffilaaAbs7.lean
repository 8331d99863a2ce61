/- Every operation that is no call is the machine's: the whole list. No condition: lemmas. -/
import Derived.Test.YtflibnlbkffilaaAbs6
import Derived.Laws.Slices
set_option linter.unusedSimpArgs false
set_option linter.unusedVariables false
set_option linter.deprecated false
namespace Go.Abs
open Go.RowKit
variable {S : Seat}

/-! ### Structs and arrays that are built -/
def PartsR (E : Env) : List (Nat × AV) → List (Nat × Value) → Prop
  | [], l => l = []
  | (i, a) :: r, l => ∃ v l', l = (i, v) :: l' ∧ VR E a v ∧ PartsR E r l'

theorem foldl_splice : ∀ (vs : List Value) (k off : Nat) (us : List Value), (vs.zipIdx k).foldl (fun (cs : Array Value) (x : Value × Nat) => cs.setIfInBounds (off + x.2) x.1) us.toArray = (spliceV us (off + k) vs).toArray
  | [], k, off, us => by simp [spliceV]
  | v :: vs, k, off, us => by
    simp only [List.zipIdx_cons, List.foldl_cons, spliceV]
    have := foldl_splice vs (k + 1) off (us.set (off + k) v)
    simp only [List.setIfInBounds_toArray]
    rw [this, Nat.add_assoc]
theorem spliceV_length : ∀ (vs : List Value) (o : Nat) (us : List Value), (spliceV us o vs).length = us.length
  | [], o, us => rfl
  | v :: vs, o, us => by rw [spliceV, spliceV_length vs]; simp

theorem fillK_run {fs : List (Nat × Nat × Bool)} : ∀ {parts : List (Nat × AV)} {cs : List AV} {k : List AV → Prop}, fillK fs parts cs k →
    ∃ cs', k cs' ∧ ∀ (E : Env) (us : List Value) (ps : List (Nat × Value)) (place : Nat → Option (Nat × Nat)), (∀ i, place i = (fs[i]?).map fun p => (p.1, p.2.1)) → VRL E cs us → PartsR E parts ps → ∃ us' : List Value, Instr.fill place us.toArray ps = some us'.toArray ∧ VRL E cs' us'
  | [], cs, k, h => ⟨cs, h, fun E us ps place _ hv hp => by
      simp only [PartsR] at hp; subst hp; exact ⟨us, rfl, hv⟩⟩
  | (i, a) :: r, cs, k, h => by
    simp only [fillK, getO_eq, forceK_eq] at h
    split at h
    · exact h.elim
    · rename_i off size ag hf
      split at h
      · rename_i h1 h2 h3
        rw [spliceK_eq] at h
        obtain ⟨cs', hk, hall⟩ := fillK_run h
        refine ⟨cs', hk, fun E us ps place hpl hv hp => ?_⟩
        simp only [PartsR] at hp
        obtain ⟨v, ps', rfl, hva, hpr⟩ := hp
        have hc := cellsOf_VRL hva h3
        have hl := hc.length
        have hl2 := hv.length
        rw [lenN_eq] at h1 h2
        have h1 := Nat.eq_of_beq_eq_true h1
        have h2 := natLe_eq.1 h2
        rw [lenN_eq] at h2
        obtain ⟨us', hfill, hv'⟩ := hall E (spliceV us off v.cells.toList) ps' place hpl (hv.splice off hc) hpr
        refine ⟨us', ?_, hv'⟩
        have hp1 : place i = some (off, size) := by rw [hpl, hf]; rfl
        simp only [Instr.fill, hp1]
        have e1 : v.cells.size = size := by have := Array.length_toList (xs := v.cells); omega
        have e2 : ¬ (off + v.cells.size > us.toArray.size) := by have := Array.length_toList (xs := v.cells); simp; omega
        have hfold : v.cells.zipIdx.foldl (fun (cs : Array Value) (x : Value × Nat) => cs.setIfInBounds (off + x.2) x.1) us.toArray = (spliceV us off v.cells.toList).toArray := by
          have := foldl_splice v.cells.toList 0 off us
          rw [Nat.add_zero] at this
          rw [← this, ← Array.foldl_toList]
          simp
        simp only [e1, ne_eq, not_true_eq_false, decide_false, Bool.false_or, decide_eq_true_eq]
        rw [e1] at e2
        rw [if_neg e2, hfold, hfill]
      · exact h.elim

theorem fillA_run {size : Nat} : ∀ {parts : List (Nat × AV)} {cs : List AV} {k : List AV → Prop}, fillA size parts cs k →
    ∃ cs', k cs' ∧ ∀ (E : Env) (us : List Value) (ps : List (Nat × Value)), VRL E cs us → PartsR E parts ps → ∃ us' : List Value, us'.length = us.length ∧ Instr.fill (fun i => some (i * size, size)) us.toArray ps = some us'.toArray ∧ VRL E cs' us'
  | [], cs, k, h => ⟨cs, h, fun E us ps hv hp => by
      simp only [PartsR] at hp; subst hp; exact ⟨us, rfl, rfl, hv⟩⟩
  | (i, a) :: r, cs, k, h => by
    simp only [fillA, forceK_eq] at h
    split at h
    · rename_i h1 h2 h3
      rw [spliceK_eq] at h
      obtain ⟨cs', hk, hall⟩ := fillA_run h
      refine ⟨cs', hk, fun E us ps hv hp => ?_⟩
      simp only [PartsR] at hp
      obtain ⟨v, ps', rfl, hva, hpr⟩ := hp
      have hc := cellsOf_VRL hva h3
      have hl := hc.length
      have hl2 := hv.length
      rw [lenN_eq] at h1 h2
      have h1 := Nat.eq_of_beq_eq_true h1
      have h2 := natLe_eq.1 h2
      rw [lenN_eq] at h2
      obtain ⟨us', hlen, hfill, hv'⟩ := hall E (spliceV us (i * size) v.cells.toList) ps' (hv.splice (i * size) hc) hpr
      refine ⟨us', by rw [hlen, spliceV_length], ?_, hv'⟩
      simp only [Instr.fill]
      have e1 : v.cells.size = size := by have := Array.length_toList (xs := v.cells); omega
      have e2 : ¬ (i * size + v.cells.size > us.toArray.size) := by have := Array.length_toList (xs := v.cells); simp; omega
      have hfold : v.cells.zipIdx.foldl (fun (cs : Array Value) (x : Value × Nat) => cs.setIfInBounds (i * size + x.2) x.1) us.toArray = (spliceV us (i * size) v.cells.toList).toArray := by
        have := foldl_splice v.cells.toList 0 (i * size) us
        rw [Nat.add_zero] at this
        rw [← this, ← Array.foldl_toList]
        simp
      simp only [e1, ne_eq, not_true_eq_false, decide_false, Bool.false_or, decide_eq_true_eq]
      rw [e1] at e2
      rw [if_neg e2, hfold, hfill]
    · exact h.elim

theorem partsR_of {E : Env} {ρ : Operand → AV} {ρ' : Operand → Value} (hv : ∀ x, VR E (ρ x) (ρ' x)) : ∀ (l : List (Nat × Operand)), PartsR E (l.map fun p => (p.1, ρ p.2)) (l.map fun p => (p.1, ρ' p.2))
  | [] => rfl
  | p :: l => ⟨_, _, rfl, hv p.2, partsR_of hv l⟩

theorem mapF_run {E : Env} {ρ : Operand → AV} {ρ' : Operand → Value} (hv : ∀ x, VR E (ρ x) (ρ' x)) : ∀ (l : List Operand), VRL E (l.map ρ) (l.map ρ')
  | [] => VRL.nil
  | o :: l => VRL.cons (hv o) (mapF_run hv l)

theorem run_fields {P : Program} {F : Array Field} (h : ∀ f ∈ F.toList, (∃ i, P.info? f.type = some i) ∧ ∃ d, P.underlying f.type = some d) (w : World) :
    (F.mapM fun f => (do pure (f.offset, ← sizeOf f.type) : Sem (Nat × Nat))).run P w = .ok (F.toList.map fun f => (f.offset, P.cellsOf f.type)).toArray w := by
  rw [Array.mapM_eq_mapM_toList]
  have : ∀ (l : List Field), (∀ f ∈ l, ∃ i, P.info? f.type = some i) → (l.mapM fun f => (do pure (f.offset, ← sizeOf f.type) : Sem (Nat × Nat))).run P w = .ok (l.map fun f => (f.offset, P.cellsOf f.type)) w := by
    intro l
    induction l with
    | nil => intro _; rfl
    | cons f l ih =>
      intro hl
      obtain ⟨i, hi⟩ := hl f (by simp)
      have := ih (fun g hg => hl g (by simp [hg]))
      simp only [List.mapM_cons, Sem.run_bind, run_sizeOf' hi, Result.andThen_ok, Sem.run_pure, this, List.map_cons]
      simp [Program.cellsOf, hi]
  have h2 := this F.toList (fun f hf => (h f hf).1)
  simp only [Sem.run_map, h2, Result.andThen_ok]

end Go.Abs
