/- That the abstract evaluator's operations are the machine's: values, types, loads. No condition: lemmas. -/
import Derived.Test.YtflibnlbkffilaaAbs2
import Derived.Laws.Cells
import Derived.Laws.Entries
import Derived.Laws.Tables
import Derived.Laws.CopyRow
import Derived.Laws.NewFold
set_option linter.unusedSimpArgs false
set_option linter.unusedVariables false
set_option linter.deprecated false
namespace Go.Abs
open Go.RowKit

theorem getO_eq {α : Type} : ∀ (l : List α) (i : Nat), getO l i = l[i]?
  | [], i => by simp [getO]
  | a :: l, 0 => rfl
  | a :: l, i + 1 => by simp [getO, getO_eq l i]
theorem getT_eq : ∀ (l : List AV) (i : Nat), getT l i = (l[i]?).getD .undef
  | [], i => by simp [getT]
  | a :: l, 0 => rfl
  | a :: l, i + 1 => by simp [getT, getT_eq l i]
theorem setK_eq {α : Type} : ∀ (l : List α) (i : Nat) (v : α) (k : List α → Prop), setK l i v k = k (l.set i v)
  | [], i, v, k => by simp [setK]
  | a :: l, 0, v, k => rfl
  | a :: l, i + 1, v, k => by simp [setK, setK_eq l i v]
theorem lenN_eq {α : Type} : ∀ (l : List α), lenN l = l.length
  | [] => rfl
  | a :: l => by simp [lenN, lenN_eq l]
theorem dropL_eq : ∀ (l : List AV) (n : Nat), dropL l n = l.drop n
  | l, 0 => by cases l <;> rfl
  | [], n + 1 => rfl
  | a :: l, n + 1 => by simp [dropL, dropL_eq l n]
theorem takeK_some : ∀ {l : List AV} {n : Nat} {r : List AV}, takeK l n = some r → r = l.take n ∧ n ≤ l.length
  | l, 0, r, h => by cases l <;> (simp [takeK] at h; simp [h])
  | [], n + 1, r, h => by simp [takeK] at h
  | a :: l, n + 1, r, h => by
    simp only [takeK] at h
    split at h
    · rename_i r' hr
      cases h
      obtain ⟨h1, h2⟩ := takeK_some hr
      exact ⟨by simp [h1], by simp; omega⟩
    · cases h
theorem takeK_of : ∀ {l : List AV} {n : Nat}, n ≤ l.length → takeK l n = some (l.take n)
  | l, 0, _ => by cases l <;> rfl
  | [], n + 1, h => by simp at h
  | a :: l, n + 1, h => by simp [takeK, takeK_of (l := l) (n := n) (by simpa using h)]
theorem sub_some {l : List AV} {off n : Nat} {r : List AV} (h : sub l off n = some r) : r = (l.drop off).take n ∧ r.length = n := by
  obtain ⟨h1, h2⟩ := takeK_some h
  rw [dropL_eq] at h1 h2
  exact ⟨h1, by rw [h1, List.length_take]; omega⟩
theorem sub_of {l : List AV} {off n : Nat} (h : off + n ≤ l.length ∨ n = 0) : sub l off n = some ((l.drop off).take n) := by
  unfold sub
  rw [dropL_eq]
  exact takeK_of (by rw [List.length_drop]; omega)

def splice : List AV → Nat → List AV → List AV
  | cs, _, [] => cs
  | cs, o, v :: vs => splice (cs.set o v) (o + 1) vs
theorem spliceK_eq : ∀ (cs : List AV) (o : Nat) (vs : List AV) (k : List AV → Prop), spliceK cs o vs k = k (splice cs o vs)
  | cs, o, [], k => by simp [spliceK, splice]
  | cs, o, v :: vs, k => by simp [spliceK, splice, setK_eq, spliceK_eq _ (o + 1) vs]
def spliceV : List Value → Nat → List Value → List Value
  | cs, _, [] => cs
  | cs, o, v :: vs => spliceV (cs.set o v) (o + 1) vs
theorem VRL.splice {E : Env} : ∀ {vs : List AV} {ws : List Value} {cs : List AV} {us : List Value} (o : Nat), VRL E cs us → VRL E vs ws → VRL E (splice cs o vs) (spliceV us o ws)
  | [], ws, cs, us, o, h, k => by simp only [VRL] at k; subst k; exact h
  | v :: vs, ws, cs, us, o, h, k => by
    simp only [VRL] at k
    obtain ⟨w, ws', rfl, hw, hr⟩ := k
    exact VRL.splice (o + 1) (VRL.set o h hw) hr
theorem spliceV_eq : ∀ (ws us : List Value) (o : Nat), o + ws.length ≤ us.length → spliceV us o ws = us.take o ++ ws ++ us.drop (o + ws.length)
  | [], us, o, _ => by simp [spliceV]
  | w :: ws, us, o, h => by
    simp at h
    rw [spliceV, spliceV_eq ws (us.set o w) (o + 1) (by simp; omega)]
    have hlt : o < us.length := by omega
    have e1 : (us.set o w).take (o + 1) = us.take o ++ [w] := by
      rw [List.take_succ_eq_append_getElem (by simpa using hlt)]
      simp [List.take_set_of_le]
    have e2 : (us.set o w).drop (o + 1 + ws.length) = us.drop (o + 1 + ws.length) := by
      rw [List.drop_set]; rw [if_pos (by omega)]
    rw [e1, e2]
    simp [Nat.add_assoc, Nat.add_comm 1]

theorem kEq_eq {a b : IntKind} (h : kEq a b = true) : a = b := by
  cases a <;> cases b <;> first | rfl | (simp [kEq, kidx] at h)
theorem natLe_eq {a b : Nat} : natLe a b = true ↔ a ≤ b := by simp [natLe]

/-! ### Types -/
def aggP (P : Program) (t : TypeId) : Bool := match P.underlying t with | some (.struct _) => true | some (.array _ _) => true | _ => false
def fieldRow (P : Program) (f : Field) : Nat × Nat × Bool := (f.offset, P.cellsOf f.type, aggP P f.type)
def kindOKB (P : Program) (t : TypeId) (k : TK) : Bool :=
  match k, P.underlying t with
  | .int a, some (.int b) => kEq a b
  | .bool, some .bool => true
  | .str, some .string => true
  | .struct fs, some (.struct F) => (F.toList.map (fieldRow P) == fs) && F.toList.all (fun f => (P.info? f.type).isSome && (P.underlying f.type).isSome)
  | .arr n e, some (.array m e') => Nat.beq n m && Nat.beq e e'
  | .slice e, some (.slice e') => Nat.beq e e'
  | .ptr, some (.pointer _) => true
  | .func, some (.func _ _ _) => true
  | .iface, some (.interface _) => true
  | .other, some d => match d with | .struct _ => false | .array _ _ => false | .interface _ => false | .named _ _ => true | _ => true
  | _, _ => false
structure TIok (P : Program) (t : TypeId) (ti : TI) : Prop where
  kind : kindOKB P t ti.kind = true
  info : (P.info? t).map (fun i => (i.size, i.bytes, i.zero)) = some (ti.size, ti.bytes, some ti.zero)
  zsize : ti.zero.cells.size = ti.size

/-- equality of two values of a type without pointers, functions or interfaces in it -/
structure FlatOK (P : Program) (t : TypeId) (ks : List Nat) : Prop where
  guard : P.eqGuardType P.depth t = false
  eq : ∀ (E : Env) (xs ys : List AV) (r : Bool) (us ws : List Value) (w : World), cellsEq xs ys = some r → VRL E xs us → VRL E ys ws → shapeB ks xs = true → shapeB ks ys = true →
    (Op.equal t (.agg us.toArray) (.agg ws.toArray)).run P w = .ok r w

structure SeatOK (S : Seat) : Prop where
  ty : ∀ t ti, S.Γ t = some ti → TIok S.P t ti
  mixed : S.P.follows .mixedOrders = true
  flat : ∀ t ks, S.flat t = some ks → FlatOK S.P t ks

section
variable {P : Program} {t : TypeId} {ti : TI}
theorem TIok.info' (h : TIok P t ti) : ∃ i, P.info? t = some i ∧ i.size = ti.size ∧ i.bytes = ti.bytes ∧ i.zero = some ti.zero := by
  have := h.info
  cases hi : P.info? t with
  | none => simp [hi] at this
  | some i => simp [hi] at this; exact ⟨i, rfl, this.1, this.2.1, this.2.2⟩
theorem TIok.int (h : TIok P t ti) {k : IntKind} (hk : ti.kind = .int k) : P.underlying t = some (.int k) := by
  have := h.kind; rw [hk] at this; unfold kindOKB at this
  split at this <;> simp_all
  rename_i h1 h2; rw [kEq_eq this]
theorem TIok.bool (h : TIok P t ti) (hk : ti.kind = .bool) : P.underlying t = some .bool := by
  have := h.kind; rw [hk] at this; unfold kindOKB at this
  split at this <;> simp_all
theorem TIok.str (h : TIok P t ti) (hk : ti.kind = .str) : P.underlying t = some .string := by
  have := h.kind; rw [hk] at this; unfold kindOKB at this
  split at this <;> simp_all
theorem TIok.struct (h : TIok P t ti) {fs : List (Nat × Nat × Bool)} (hk : ti.kind = .struct fs) : ∃ F : Array Field, P.underlying t = some (.struct F) ∧ F.toList.map (fieldRow P) = fs ∧ ∀ f ∈ F.toList, (∃ i, P.info? f.type = some i) ∧ ∃ d, P.underlying f.type = some d := by
  have := h.kind; rw [hk] at this; unfold kindOKB at this
  split at this
  case h_4 gs F h1 h2 =>
    cases h1
    simp only [Bool.and_eq_true, beq_iff_eq, List.all_eq_true] at this
    exact ⟨F, h2, this.1, fun f hf => ⟨Option.isSome_iff_exists.1 (this.2 f hf).1, Option.isSome_iff_exists.1 (this.2 f hf).2⟩⟩
  all_goals simp_all
theorem TIok.arr (h : TIok P t ti) {n e : Nat} (hk : ti.kind = .arr n e) : P.underlying t = some (.array n e) := by
  have := h.kind; rw [hk] at this; unfold kindOKB at this
  split at this <;> simp_all
theorem TIok.slice (h : TIok P t ti) {e : Nat} (hk : ti.kind = .slice e) : P.underlying t = some (.slice e) := by
  have := h.kind; rw [hk] at this; unfold kindOKB at this
  split at this <;> simp_all
theorem TIok.ptr (h : TIok P t ti) (hk : ti.kind = .ptr) : ∃ e, P.underlying t = some (.pointer e) := by
  have := h.kind; rw [hk] at this; unfold kindOKB at this
  split at this <;> simp_all
theorem TIok.func (h : TIok P t ti) (hk : ti.kind = .func) : ∃ a b c, P.underlying t = some (.func a b c) := by
  have := h.kind; rw [hk] at this; unfold kindOKB at this
  split at this <;> simp_all
theorem TIok.iface (h : TIok P t ti) (hk : ti.kind = .iface) : ∃ a, P.underlying t = some (.interface a) := by
  have := h.kind; rw [hk] at this; unfold kindOKB at this
  split at this <;> simp_all
theorem TIok.und (h : TIok P t ti) : ∃ d, P.underlying t = some d := by
  have := h.kind; unfold kindOKB at this
  split at this <;> simp_all
theorem TIok.aggP (h : TIok P t ti) : aggP P t = ti.kind.agg := by
  have := h.kind; unfold kindOKB at this; unfold Abs.aggP
  split at this <;> simp_all [TK.agg]
  split <;> simp_all
theorem TIok.notIface (h : TIok P t ti) (hk : ti.kind ≠ .iface) : ∀ a, P.underlying t ≠ some (.interface a) := by
  have := h.kind; unfold kindOKB at this
  intro a ha
  split at this <;> simp_all
theorem TIok.size (h : TIok P t ti) : P.cellsOf t = ti.size := by
  obtain ⟨i, h1, h2, _⟩ := h.info'
  simp [Program.cellsOf, h1, h2]

theorem run_sizeOf' {i : TypeInfo} (h : P.info? t = some i) (w : World) : (sizeOf t).run P w = .ok i.size w := by simp [sizeOf, typeInfo, h]
theorem run_zero' {i : TypeInfo} {z : Value} (h : P.info? t = some i) (hz : i.zero = some z) (w : World) : (zeroValue t).run P w = .ok z w := by simp [zeroValue, typeInfo, h, hz]
theorem run_isAgg' {d : TypeDesc} (h : P.underlying t = some d) (w : World) : (isAgg t).run P w = .ok (Abs.aggP P t) w := by
  unfold isAgg Abs.aggP
  rw [Sem.run_bind, run_underlying h]
  simp only [Result.andThen_ok, h]
  cases d <;> rfl
theorem TIok.runSize (h : TIok P t ti) (w : World) : (sizeOf t).run P w = .ok ti.size w := by
  obtain ⟨i, h1, h2, _⟩ := h.info'
  rw [run_sizeOf' h1, h2]
theorem TIok.runZero (h : TIok P t ti) (w : World) : (zeroValue t).run P w = .ok ti.zero w := by
  obtain ⟨i, h1, _, _, h2⟩ := h.info'
  exact run_zero' h1 h2 w
theorem TIok.runAgg (h : TIok P t ti) (w : World) : (isAgg t).run P w = .ok ti.kind.agg w := by
  obtain ⟨d, hd⟩ := h.und
  rw [run_isAgg' hd, h.aggP]

/-- a part of a row of cells -/
theorem run_part {E : Env} {cs : List AV} {us : List Value} {off size : Nat} {b : Bool} {v : AV} (hd : ∃ d, P.underlying t = some d) (ha : Abs.aggP P t = b) (hs : ∃ i, P.info? t = some i ∧ i.size = size) (hv : VRL E cs us) (hp : partK b cs off size = some v) (w : World) :
    ∃ u, (part t us.toArray off).run P w = .ok u w ∧ VR E v u := by
  obtain ⟨d, hd⟩ := hd
  obtain ⟨i, hi, hi2⟩ := hs
  unfold part
  rw [Sem.run_bind, run_isAgg' hd, ha]
  simp only [Result.andThen_ok]
  cases b with
  | true =>
    simp only [partK] at hp
    split at hp
    · rename_i r hr
      cases hp
      obtain ⟨h1, h2⟩ := sub_some hr
      refine ⟨.agg ((us.drop off).take size).toArray, ?_, ?_⟩
      · simp only [if_true, Sem.run_bind, run_sizeOf' hi, Result.andThen_ok, Sem.run_pure, hi2]
        congr 2
        simp
      · simp only [VR]
        exact ⟨_, rfl, by rw [h1]; exact (hv.drop off).take size⟩
    · cases hp
  | false =>
    simp only [partK, getO_eq] at hp
    obtain ⟨u, hu, hr⟩ := hv.get off v hp
    refine ⟨u, ?_, hr⟩
    simp [hu]
end

end Go.Abs
