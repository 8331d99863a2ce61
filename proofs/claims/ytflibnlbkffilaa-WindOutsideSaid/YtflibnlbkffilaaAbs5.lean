/- That the abstract evaluator's operations are the machine's: every operation that is no call. No condition: lemmas. -/
import Derived.Test.YtflibnlbkffilaaAbs4
set_option linter.unusedSimpArgs false
set_option linter.unusedVariables false
set_option linter.deprecated false
namespace Go.Abs
open Go.RowKit
variable {S : Seat}

def puts : Heap → List (Nat × Chunk) → Heap
  | h, [] => h
  | h, (i, c) :: r => puts (put h i c) r

/-- An operation, at a heap that reads as it did where it was looked at. -/
def OpOK (S : Seat) (ρ : Operand → AV) (h : Heap) (nid : Nat) (op : Op) (v : AV) (ups : List (Nat × Chunk)) : Prop :=
  ∀ (E : Env) (w : World) (ρ' : Operand → Value), R S E h w → (ups ≠ [] → E.blk nid = none) → (ups ≠ [] → E.tok nid = none) → (ups ≠ [] → E.cbv nid = none) → (ups ≠ [] → ∀ c, h[nid]? = some c → c = .unborn) → (∀ x, VR E (ρ x) (ρ' x)) →
    ∀ o : Oper, o.op = op → ∃ E' w' u, ((execOp ρ' o).run S.P w = .ok (.value u) w' ∨ ((execOp ρ' o).run S.P w = .ok .skip w' ∧ u = undef)) ∧ VR E' v u ∧ Ext E E' ∧ E'.marks = E.marks ∧ R S E' (puts h ups) w' ∧ (ups = [] → E' = E ∧ w' = w)

theorem OpOK.pure {ρ : Operand → AV} {h : Heap} {nid : Nat} {op : Op} {v : AV}
    (hp : ∀ (E : Env) (w : World) (ρ' : Operand → Value), R S E h w → (∀ x, VR E (ρ x) (ρ' x)) → ∀ o : Oper, o.op = op → ∃ u, (execOp ρ' o).run S.P w = .ok (.value u) w ∧ VR E v u) : OpOK S ρ h nid op v [] :=
  fun E w ρ' hr _ _ _ _ hv o ho => let ⟨u, h1, h2⟩ := hp E w ρ' hr hv o ho
  ⟨E, w, u, .inl h1, h2, Ext.refl E, rfl, hr, fun _ => ⟨rfl, rfl⟩⟩

/-- what opK promises -/
def OpSound (S : Seat) (ρ : Operand → AV) (h : Heap) (nid : Nat) (op : Op) (k : OpK) : Prop :=
  ∃ v ups rds, k v ups rds ∧ (∀ p ∈ ups, p.1 = nid ∨ p.1 ∈ rds) ∧ ∀ h' : Heap, (∀ i ∈ rds, h'[i]? = h[i]?) → OpOK S ρ h' nid op v ups

theorem OpSound.pure {ρ : Operand → AV} {h : Heap} {nid : Nat} {op : Op} {k : OpK} {v : AV} (hk : k v [] [])
    (hp : ∀ (E : Env) (w : World) (ρ' : Operand → Value), (∀ x, VR E (ρ x) (ρ' x)) → ∀ o : Oper, o.op = op → ∃ u, (execOp ρ' o).run S.P w = .ok (.value u) w ∧ VR E v u) : OpSound S ρ h nid op k :=
  ⟨v, [], [], hk, fun _ hp => (nomatch hp), fun _ _ => OpOK.pure fun E w ρ' _ hv o ho => hp E w ρ' hv o ho⟩

theorem unK_run {op : UnOp} {x v : AV} (h : unK op x = some v) {E : Env} {u : Value} (hu : VR E x u) (P : Program) (w : World) : ∃ r, (Op.unary op u).run P w = .ok r w ∧ VR E v r := by
  unfold unK at h
  split at h
  · cases h; simp only [VR] at hu; subst hu; exact ⟨_, rfl, by simp only [VR]⟩
  · simp only [VR] at hu; subst hu
    simp only [bitOp] at h
    cases h; exact ⟨_, rfl, by simp only [VR]⟩
  · cases h; simp only [VR] at hu; subst hu; exact ⟨_, by simp [Op.unary]; rfl, by simp only [VR]⟩
  · cases h

theorem ofCell_VR (E : Env) (v : Value) : VR E (ofCell v) v := by
  unfold ofCell
  split <;> simp only [VR] <;> first | trivial | skip
theorem ofCells_VRL (E : Env) : ∀ (l : List Value), VRL E (ofCells l) l
  | [] => VRL.nil
  | v :: l => VRL.cons (ofCell_VR E v) (ofCells_VRL E l)
theorem ofV_VR (E : Env) (v : Value) : VR E (ofV v) v := by
  unfold ofV
  split
  · rename_i cs
    simp only [VR]; exact ⟨cs.toList, by simp, ofCells_VRL E _⟩
  · simp only [VR]; exact ⟨_, rfl, ofCell_VR E _⟩
  · exact ofCell_VR E v

theorem cellsOf_VRL {E : Env} {a : AV} {v : Value} (h : VR E a v) (hs : solid a = true) : VRL E (cellsOf a) v.cells.toList := by
  cases a with
  | agg cs => simp only [VR] at h; obtain ⟨us, rfl, hu⟩ := h; simpa [cellsOf, Value.cells] using hu
  | tup vs => cases hs
  | undef => cases hs
  | _ =>
    simp only [cellsOf]
    have h0 := h
    simp only [VR] at h
    first
    | (subst h; exact VRL.cons h0 VRL.nil)
    | (obtain ⟨_, _, rfl⟩ := h; exact VRL.cons h0 VRL.nil)
    | (obtain ⟨_, _, rfl, _⟩ := h; exact VRL.cons h0 VRL.nil)
    | (obtain ⟨_, _, _, _, rfl, _⟩ := h; exact VRL.cons h0 VRL.nil)
    | (obtain ⟨_, rfl, _⟩ := h; exact VRL.cons h0 VRL.nil)

theorem okCell_one {E : Env} {c : AV} {u : Value} (h : okCell c = true) (hv : VR E c u) : u.oneCell' = true := by
  cases c <;> simp only [okCell] at h <;> first | (cases h; done) | skip
  all_goals
    simp only [VR] at hv
    first
    | (subst hv; rfl)
    | (obtain ⟨_, _, rfl⟩ := hv; rfl)
    | (obtain ⟨_, _, rfl, _⟩ := hv; rfl)
    | (obtain ⟨_, _, _, _, rfl, _⟩ := hv; rfl)
    | (obtain ⟨_, rfl, _⟩ := hv; rfl)
theorem okCells_one {E : Env} : ∀ {cs : List AV} {us : List Value}, okCells cs = true → VRL E cs us → ∀ u ∈ us, u.oneCell' = true
  | [], us, _, hv, u, hu => by simp only [VRL] at hv; subst hv; cases hu
  | c :: cs, us, h, hv, u, hu => by
    simp only [VRL] at hv
    obtain ⟨u0, us', rfl, h0, hr⟩ := hv
    simp only [okCells] at h
    split at h
    · rename_i hc
      rcases List.mem_cons.1 hu with rfl | hu
      · exact okCell_one hc h0
      · exact okCells_one h hr u hu
    · cases h

end Go.Abs
