/- A plan for a region whose order is open: what its evaluation promises. Part one: operations look at their operands alone. No condition: lemmas. -/
import Derived.Test.YtflibnlbkffilaaAbs21
set_option linter.unusedSimpArgs false
set_option linter.unusedVariables false
set_option linter.deprecated false
namespace Go.Abs
open Go.RowKit
variable {S : Seat}

/-! ### Temporaries of which some are not spoken of -/
def maskT (p : Nat → Bool) : Nat → List AV → List AV
  | _, [] => []
  | i, v :: l => (if p i = true then v else .undef) :: maskT p (i + 1) l
theorem maskT_get (p : Nat → Bool) : ∀ (t : List AV) (i j : Nat), (maskT p i t)[j]? = (t[j]?).map fun v => if p (i + j) = true then v else .undef
  | [], i, j => by simp [maskT]
  | v :: l, i, 0 => by simp [maskT]
  | v :: l, i, j + 1 => by
    simp only [maskT, List.getElem?_cons_succ, maskT_get p l (i + 1) j]
    rw [show i + 1 + j = i + (j + 1) by omega]
theorem maskT_length (p : Nat → Bool) : ∀ (t : List AV) (i : Nat), (maskT p i t).length = t.length
  | [], i => rfl
  | v :: l, i => by simp [maskT, maskT_length p l]
theorem getT_mask (p : Nat → Bool) (t : List AV) (j : Nat) : getT (maskT p 0 t) j = if p j = true then getT t j else .undef := by
  rw [getT_eq, getT_eq, maskT_get]
  cases t[j]? with
  | none => simp
  | some v => simp
theorem VRL.mask_mono {E : Env} {p q : Nat → Bool} (hpq : ∀ j, p j = true → q j = true) {t : List AV} {us : List Value} (h : VRL E (maskT q 0 t) us) : VRL E (maskT p 0 t) us := by
  refine VRL.of_get (by rw [maskT_length]; rw [← h.length, maskT_length]) fun j c u hc hu => ?_
  rw [maskT_get, Nat.zero_add] at hc
  cases ht : t[j]? with
  | none => rw [ht] at hc; cases hc
  | some v =>
    rw [ht] at hc; simp only [Option.map_some, Option.some.injEq] at hc
    by_cases hp : p j = true
    · rw [if_pos hp] at hc; subst hc
      obtain ⟨u', hu', hv⟩ := h.get j v (by rw [maskT_get, ht]; simp [hpq j hp])
      rw [hu] at hu'; cases hu'; exact hv
    · rw [if_neg hp] at hc; subst hc; simp only [VR]
theorem maskT_all {p : Nat → Bool} (h : ∀ j, p j = true) (t : List AV) : maskT p 0 t = t := by
  apply List.ext_getElem?
  intro j
  rw [maskT_get]; cases t[j]? <;> simp [h]
theorem maskT_set_out {p : Nat → Bool} {d : Nat} (hd : p d = false) (t : List AV) (v : AV) : maskT p 0 (t.set d v) = maskT p 0 t := by
  apply List.ext_getElem?
  intro j
  rw [maskT_get, maskT_get, Nat.zero_add]
  by_cases hj : j = d
  · subst hj
    simp only [hd]
    rw [List.getElem?_set]
    by_cases hlt : j < t.length
    · rw [List.getElem?_eq_getElem hlt]; simp [hlt]
    · rw [List.getElem?_eq_none (by omega)]; simp [hlt]
  · rw [List.getElem?_set, if_neg (fun e => hj e.symm)]
theorem maskT_set_in {p : Nat → Bool} {d : Nat} (hd : p d = true) (t : List AV) (v : AV) : maskT p 0 (t.set d v) = (maskT p 0 t).set d v := by
  apply List.ext_getElem?
  intro j
  rw [maskT_get, Nat.zero_add, List.getElem?_set, List.getElem?_set, maskT_length, maskT_get, Nat.zero_add]
  by_cases hj : d = j
  · subst hj
    by_cases hlt : d < t.length <;> simp [hlt, hd]
  · rw [if_neg hj, if_neg hj]

/-! ### Operations look at their operands alone -/
theorem mapF_congr {ρ ρ' : Operand → AV} (l : List Operand) (h : ∀ x ∈ l, ρ x = ρ' x) (k : List AV → Prop) : mapF ρ l k = mapF ρ' l k := by
  rw [mapF_eq, mapF_eq, List.map_congr_left h]

theorem opK_congr {flat : Nat → Option (List Nat)} {Γ : TT} {ρ ρ' : Operand → AV} (hp : Heap) (nid : Nat) (op : Op) (h : ∀ x ∈ op.operands, ρ x = ρ' x) (k : OpK) :
    opK flat Γ ρ hp nid op k = opK flat Γ ρ' hp nid op k := by
  have pairs : ∀ ps : Array (Nat × Operand), (∀ x ∈ (ps.toList.map (·.2)).toArray, ρ x = ρ' x) →
      (ps.toList.map fun p => (p.1, ρ p.2)) = (ps.toList.map fun p => (p.1, ρ' p.2)) := fun ps hps =>
    List.map_congr_left fun p hm => by
      obtain ⟨i, x⟩ := p
      simp only [hps x (by simp only [List.mem_toArray, List.mem_map]; exact ⟨(i, x), hm, rfl⟩)]
  cases op <;> simp only [Op.operands] at h <;> simp only [opK]
  case build t ps => rw [pairs ps h]
  case buildSlice t n ps => rw [pairs ps h]
  case makeFunc fn first captured =>
    cases fn <;> simp only []
    rw [mapF_congr first.toList (fun x hx => h x (by rw [Array.mem_append]; left; exact Array.mem_toList_iff.1 hx))]
    congr 1
    funext l
    rw [mapF_congr captured.toList (fun x hx => h x (by rw [Array.mem_append]; right; exact Array.mem_toList_iff.1 hx))]
  case slice t x lo hi mx =>
    have hx := h x (by simp)
    have hlo : ∀ y, lo = some y → ρ y = ρ' y := fun y hy => h y (by simp [hy])
    have hhi : ∀ y, hi = some y → ρ y = ρ' y := fun y hy => h y (by simp [hy])
    have hmx : ∀ y, mx = some y → ρ y = ρ' y := fun y hy => h y (by simp [hy])
    rw [hx]
    cases lo <;> cases hi <;> cases mx <;> simp_all
  all_goals (first | rfl | (simp_all; done))

theorem appK_irrel : True := trivial

theorem operN_congr {nid : Nat} {o : Oper} {t t' : List AV} (hp : Heap) (h : ∀ x ∈ o.op.operands, ev S.G t x = ev S.G t' x) (k : AEnd → Heap → Prop) :
    operN S nid o t hp k = operN S nid o t' hp k := by
  obtain ⟨dst, op, type, pos, after, guard⟩ := o
  simp only at h
  unfold operN
  cases op with
  | call c =>
    simp only [Op.operands] at h
    have hargs : ∀ x ∈ c.args.toList, ev S.G t x = ev S.G t' x := fun x hx => h x (by
      unfold Call.operands; rw [Array.mem_append]; right; exact Array.mem_toList_iff.1 hx)
    simp only
    cases hc : c.callee with
    | value f =>
      have hf : ev S.G t f = ev S.G t' f := h f (by unfold Call.operands; simp [hc])
      simp only [hf]
      cases ev S.G t' f <;> simp only [mapF_congr c.args.toList hargs]
    | invoke r m => rfl
    | builtin b =>
      cases b <;> simp only [mapF_congr c.args.toList hargs]
      case len =>
        split
        · rename_i x l ty l2 hl hl2
          rw [hargs x (by rw [hl]; simp)]
        · rfl
      case append =>
        split
        · rename_i s x ty ty2 hl hl2
          rw [hargs s (by rw [hl]; simp), hargs x (by rw [hl]; simp)]
        · rfl
  | panic x => simp only [h x (by simp [Op.operands])]
  | _ => exact opK_congr (ρ := ev S.G t) (ρ' := ev S.G t') hp nid _ h _

theorem readK_congr {o : Oper} {t t' : List AV} (hp : Heap) (h : ∀ x ∈ o.op.operands, ev S.G t x = ev S.G t' x) (k : AV → List Nat → Prop) :
    readK S o t hp k = readK S o t' hp k := by
  obtain ⟨dst, op, type, pos, after, guard⟩ := o
  simp only at h
  unfold readK
  cases op with
  | call c =>
    simp only [Op.operands] at h
    have hargs : ∀ x ∈ c.args.toList, ev S.G t x = ev S.G t' x := fun x hx => h x (by
      unfold Call.operands; rw [Array.mem_append]; right; exact Array.mem_toList_iff.1 hx)
    simp only
    cases hc : c.callee with
    | value f => rfl
    | invoke r m => rfl
    | builtin b =>
      cases b <;> simp only [mapF_congr c.args.toList hargs]
      case len =>
        split
        · rename_i x l ty l2 hl hl2
          rw [hargs x (by rw [hl]; simp)]
        · rfl
  | _ => exact opK_congr (ρ := ev S.G t) (ρ' := ev S.G t') hp _ _ h _

theorem ev_mask {G : GT} {p : Nat → Bool} {t : List AV} {x : Operand} (h : ∀ d, x = .tmp d → p d = true) : ev G (maskT p 0 t) x = ev G t x := by
  cases x with
  | tmp d => simp only [ev, getT_mask, h d rfl, if_true]
  | _ => rfl

theorem mem_looksAt {ops : Array Oper} {o : Oper} {d : Tmp} (h : .tmp d ∈ o.op.operands) : d ∈ o.looksAt ops :=
  List.mem_append_left _ (List.mem_filterMap.2 ⟨.tmp d, by simpa using h, rfl⟩)

/-! ### What a taken operation promises -/
/-- The operation, at whatever memory that reads like this, from temporaries that are these where it looks. -/
def vOf (o : Oper) (t : List AV) : AV := match o.dst with | some d => getT t d | none => .undef
def looks (ops : List Oper) (o : Oper) (d : Nat) : Bool := (o.looksAt ops.toArray).contains d
def Prom (S : Seat) (ops : List Oper) (o : Oper) (v : AV) (t : List AV) (h : Heap) : Prop :=
  ∀ (E : Env) (w : World) (a : Act), R S E h w → VRL E (maskT (looks ops o) 0 t) a.tmps.toList →
    (Region.wanted o (yielded ops.toArray a.tmps) = true ∧ (∀ c, o.op ≠ .defer c) ∧ ∃ u, ((execOp a.eval o).run S.P w = .ok (.value u) w ∨ ((execOp a.eval o).run S.P w = .ok .skip w ∧ u = undef)) ∧ VR E v u) ∨
    (Region.wanted o (yielded ops.toArray a.tmps) = false ∧ VR E v undef)

theorem looks_op {ops : List Oper} {o : Oper} {d : Nat} (h : .tmp d ∈ o.op.operands) : looks ops o d = true := by
  unfold looks; simpa using mem_looksAt (ops := ops.toArray) h

/-- what a guard says, where its temporary is known -/
theorem guardK_wanted {ops : List Oper} {o : Oper} {t : List AV} {run skip : Prop} (hg : guardK ops o t run skip) {E : Env} {a : Act} {p : Nat → Bool} (hp : ∀ d, looks ops o d = true → p d = true) (ha : VRL E (maskT p 0 t) a.tmps.toList) :
    (Region.wanted o (yielded ops.toArray a.tmps) = true ∧ run) ∨ (Region.wanted o (yielded ops.toArray a.tmps) = false ∧ skip) := by
  unfold guardK at hg
  split at hg
  · rename_i hgu
    exact .inl ⟨by simp [Region.wanted, hgu], hg⟩
  · rename_i j want hgu
    split at hg
    · rename_i oj hoj
      rw [getO_eq] at hoj
      split at hg
      · rename_i d hd
        have hlk : looks ops o d = true := by
          unfold looks Oper.looksAt
          simp [hgu, hoj, hd]
        have hb : ∀ b, getT t d = .bool b → yielded ops.toArray a.tmps j = some b := by
          intro b hb
          rw [getT_eq] at hb
          cases hi : t[d]? with
          | none => simp [hi] at hb
          | some c =>
            simp [hi] at hb
            obtain ⟨u, hu, hv⟩ := ha.get d c (by rw [maskT_get, hi]; simp [hp d hlk])
            rw [hb] at hv; simp only [VR] at hv; subst hv
            have : a.tmps[d]? = some (.bool b) := by simpa using hu
            unfold yielded; simp [hoj, hd, this]
        split at hg
        · rename_i b hbe
          have hyb := hb b hbe
          cases b with
          | true => exact .inl ⟨by simp [Region.wanted, hgu, hyb], hg.elim.1 rfl⟩
          | false => exact .inr ⟨by simp [Region.wanted, hgu, hyb], hg.elim.2 rfl⟩
        · rename_i b hbe
          have hyb := hb b hbe
          cases b with
          | true => exact .inr ⟨by simp [Region.wanted, hgu, hyb], hg.elim.1 rfl⟩
          | false => exact .inl ⟨by simp [Region.wanted, hgu, hyb], hg.elim.2 rfl⟩
        · rename_i hbe
          have hyb : yielded ops.toArray a.tmps j = none := by
            rw [getT_eq] at hbe
            cases hi : t[d]? with
            | none => simp [hi] at hbe
            | some c =>
              simp [hi] at hbe
              obtain ⟨u, hu, hv⟩ := ha.get d c (by rw [maskT_get, hi]; simp [hp d hlk])
              rw [hbe] at hv
              have := hv.toDead; subst this
              have : a.tmps[d]? = some undef := by simpa using hu
              unfold yielded; simp [hoj, hd, this, undef]
          exact .inr ⟨by simp [Region.wanted, hgu, hyb], hg⟩
        · exact hg.elim
      · exact hg.elim
    · exact hg.elim

end Go.Abs
