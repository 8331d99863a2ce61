/- Abstract values (trees; slices are lists), how they stand to the machine's values, and that this is kept as memory grows. No condition: plain definitions and lemmas. -/
import Derived.RangeFuncNested
import Derived.RangeFuncLeaves
import Derived.RangeFuncCalls
import Derived.Laws.AppendOwn
import Derived.Below
set_option linter.unusedSimpArgs false
set_option linter.unusedVariables false
set_option linter.deprecated false
namespace Go.Abs
open Go.RowKit

/-- Abstract values. -/
inductive AV where
  | undef
  | bool (b : Bool)
  | int (k : IntKind) (n : Int)
  | str (s : List UInt8)
  | nilp
  | ptr (i o : Nat)
  | iptr (cs : List AV)
  | nils
  | vec (cs : List AV) (len : Nat) (g : Option Nat)
  | row (i o len cap : Nat)
  | nilf
  | fn (f : Nat) (first caps : List AV)
  | cb (i : Nat)
  | nili
  | ifc (t : Nat) (v : AV)
  | agg (cs : List AV)
  | tup (vs : List AV)
  | mapp (i : Nat)
  | nilm

instance : Inhabited AV := ⟨.undef⟩

abbrev Imm := Nat → Nat → Option Value

/-- What a run knows of the machine's memory. -/
structure Env where
  blk : Nat → Option Nat
  tok : Nat → Option (Nat × Value)
  fp : Nat → Nat → Prop
  cbv : Nat → Option Value
  cbJ : Nat → List (List AV) → Bool → (Nat → Prop) → Imm → World → Prop
  imm : Imm
  keep : Nat → Prop
  base : World
  rnd : Option Nat
  marks : List Nat

def tokOK (E : Env) (g : Option Nat) (len : Nat) (v : Value) : Prop :=
  ∀ i, g = some i → ∃ F v0, E.tok i = some (F, v0) ∧ len ≤ F ∧ (len = F → v = v0)

mutual
def VR (E : Env) : AV → Value → Prop
  | .undef, _ => True
  | .bool b, v => v = .bool b
  | .int k n, v => v = .int k n
  | .str s, v => v = .string ⟨s.toArray⟩
  | .nilp, v => v = .pointer none
  | .ptr i o, v => ∃ b, E.blk i = some b ∧ v = .pointer (some ⟨b, o, none⟩)
  | .iptr cs, v => ∃ b o, v = .pointer (some ⟨b, o, none⟩) ∧ VRI E cs b o
  | .nils, v => v = .slice none 0 0
  | .vec cs len g, v => ∃ a cap, v = .slice a len cap ∧ len ≤ cap ∧ (cs = [] ∨ ∃ b o, a = some ⟨b, o, none⟩ ∧ VRI E cs b o) ∧ tokOK E g len v
  | .row i o len cap, v => ∃ b, E.blk i = some b ∧ v = .slice (some ⟨b, o, none⟩) len cap
  | .nilf, v => v = .nilFunc
  | .fn f first caps, v => ∃ us ws, v = .func (.func f) us.toArray ws.toArray ∧ VRL E first us ∧ VRL E caps ws
  | .cb i, v => E.cbv i = some v ∧ ∃ f a b, v = .func f a b ∧ ∀ n, f ≠ .method n
  | .nili, v => v = .nilIface
  | .ifc t x, v => ∃ u, v = .iface t u ∧ VR E x u
  | .agg cs, v => ∃ us, v = .agg us.toArray ∧ VRL E cs us
  | .tup cs, v => ∃ us, v = .tuple us.toArray ∧ VRL E cs us
  | .mapp i, v => ∃ b, E.blk i = some b ∧ v = .map (some b)
  | .nilm, v => v = .map none
def VRI (E : Env) : List AV → Nat → Nat → Prop
  | [], _, _ => True
  | c :: cs, b, o => (∃ u, E.imm b o = some u ∧ VR E c u) ∧ VRI E cs b (o + 1)
def VRL (E : Env) : List AV → List Value → Prop
  | [], us => us = []
  | c :: cs, us => ∃ u us', us = u :: us' ∧ VR E c u ∧ VRL E cs us'
end

/-- More is known. -/
structure Ext (E E' : Env) : Prop where
  blk : ∀ i b, E.blk i = some b → E'.blk i = some b
  tok : ∀ i F v, E.tok i = some (F, v) → ∃ F' v', E'.tok i = some (F', v') ∧ (F < F' ∨ (F' = F ∧ v' = v))
  cbv : ∀ i v, E.cbv i = some v → E'.cbv i = some v ∧ E'.cbJ i = E.cbJ i
  imm : ∀ b o u, E.imm b o = some u → E'.imm b o = some u
  new : ∀ b o, E.keep b → E'.imm b o = E.imm b o
  keep : E'.keep = E.keep
  base : E'.base = E.base
  rnd : E'.rnd = E.rnd

theorem Ext.refl (E : Env) : Ext E E :=
  ⟨fun _ _ h => h, fun _ F v h => ⟨F, v, h, .inr ⟨rfl, rfl⟩⟩, fun _ _ h => ⟨h, rfl⟩, fun _ _ _ h => h, fun _ _ _ => rfl, rfl, rfl, rfl⟩

theorem Ext.trans {A B C : Env} (h : Ext A B) (k : Ext B C) : Ext A C where
  blk i b hb := k.blk i b (h.blk i b hb)
  tok i F v hv := by
    obtain ⟨F1, v1, e1, r1⟩ := h.tok i F v hv
    obtain ⟨F2, v2, e2, r2⟩ := k.tok i F1 v1 e1
    refine ⟨F2, v2, e2, ?_⟩
    rcases r1 with r1 | ⟨rfl, rfl⟩
    · rcases r2 with r2 | ⟨rfl, rfl⟩
      · exact .inl (by omega)
      · exact .inl r1
    · exact r2
  cbv i v hv := ⟨(k.cbv i v (h.cbv i v hv).1).1, (k.cbv i v (h.cbv i v hv).1).2.trans (h.cbv i v hv).2⟩
  imm b o u hu := k.imm b o u (h.imm b o u hu)
  new b o hk := (k.new b o (by rw [h.keep]; exact hk)).trans (h.new b o hk)
  keep := k.keep.trans h.keep
  base := k.base.trans h.base
  rnd := k.rnd.trans h.rnd

/-- what an operation that is passed over leaves -/
theorem VR.dead (E : Env) : VR E (.tup []) undef := by simp only [VR]; exact ⟨[], rfl, by simp only [VRL]⟩
theorem VR.toDead {E : Env} {u : Value} (h : VR E (.tup []) u) : u = undef := by
  simp only [VR] at h
  obtain ⟨us, rfl, hu⟩ := h
  cases us with
  | nil => rfl
  | cons a l => simp only [VRL] at hu; cases hu
/-- What VR looks at. -/
structure VExt (E E' : Env) : Prop where
  blk : ∀ i b, E.blk i = some b → E'.blk i = some b
  tok : ∀ i F v, E.tok i = some (F, v) → ∃ F' v', E'.tok i = some (F', v') ∧ (F < F' ∨ (F' = F ∧ v' = v))
  cbv : ∀ i v, E.cbv i = some v → E'.cbv i = some v
  imm : ∀ b o u, E.imm b o = some u → E'.imm b o = some u

theorem Ext.v {E E' : Env} (h : Ext E E') : VExt E E' := ⟨h.blk, h.tok, fun i v hv => (h.cbv i v hv).1, h.imm⟩

theorem tokOK.mono {E E' : Env} (h : VExt E E') {g : Option Nat} {len : Nat} {v : Value} (hk : tokOK E g len v) : tokOK E' g len v := by
  intro i hi
  obtain ⟨F, v0, e, hle, heq⟩ := hk i hi
  obtain ⟨F', v', e', r⟩ := h.tok i F v0 e
  refine ⟨F', v', e', ?_, ?_⟩
  · rcases r with r | ⟨rfl, _⟩ <;> omega
  · rintro rfl
    rcases r with r | ⟨rfl, rfl⟩
    · omega
    · exact heq rfl

mutual
theorem VR.mono {E E' : Env} (h : VExt E E') : ∀ (a : AV) (v : Value), VR E a v → VR E' a v
  | .undef, _, hv => by simp only [VR]
  | .bool b, v, hv => by simpa only [VR] using hv
  | .int k n, v, hv => by simpa only [VR] using hv
  | .str s, v, hv => by simpa only [VR] using hv
  | .nilp, v, hv => by simpa only [VR] using hv
  | .ptr i o, v, hv => by
    simp only [VR] at hv ⊢
    obtain ⟨b, hb, e⟩ := hv
    exact ⟨b, h.blk i b hb, e⟩
  | .iptr cs, v, hv => by
    simp only [VR] at hv ⊢
    obtain ⟨b, o, e, hi⟩ := hv
    exact ⟨b, o, e, VRI.mono h cs b o hi⟩
  | .nils, v, hv => by simpa only [VR] using hv
  | .vec cs len g, v, hv => by
    simp only [VR] at hv ⊢
    obtain ⟨a, cap, e, hc, hi, ht⟩ := hv
    refine ⟨a, cap, e, hc, ?_, ht.mono h⟩
    rcases hi with hi | ⟨b, o, ha, hi⟩
    · exact .inl hi
    · exact .inr ⟨b, o, ha, VRI.mono h cs b o hi⟩
  | .row i o len cap, v, hv => by
    simp only [VR] at hv ⊢
    obtain ⟨b, hb, e⟩ := hv
    exact ⟨b, h.blk i b hb, e⟩
  | .nilf, v, hv => by simpa only [VR] using hv
  | .fn f first caps, v, hv => by
    simp only [VR] at hv ⊢
    obtain ⟨us, ws, e, h1, h2⟩ := hv
    exact ⟨us, ws, e, VRL.mono h first us h1, VRL.mono h caps ws h2⟩
  | .cb i, v, hv => by
    simp only [VR] at hv ⊢
    exact ⟨h.cbv i v hv.1, hv.2⟩
  | .nili, v, hv => by simpa only [VR] using hv
  | .ifc t x, v, hv => by
    simp only [VR] at hv ⊢
    obtain ⟨u, e, hu⟩ := hv
    exact ⟨u, e, VR.mono h x u hu⟩
  | .agg cs, v, hv => by
    simp only [VR] at hv ⊢
    obtain ⟨us, e, hu⟩ := hv
    exact ⟨us, e, VRL.mono h cs us hu⟩
  | .tup cs, v, hv => by
    simp only [VR] at hv ⊢
    obtain ⟨us, e, hu⟩ := hv
    exact ⟨us, e, VRL.mono h cs us hu⟩
  | .mapp i, v, hv => by
    simp only [VR] at hv ⊢
    obtain ⟨b, hb, e⟩ := hv
    exact ⟨b, h.blk i b hb, e⟩
  | .nilm, v, hv => by simpa only [VR] using hv
theorem VRI.mono {E E' : Env} (h : VExt E E') : ∀ (cs : List AV) (b o : Nat), VRI E cs b o → VRI E' cs b o
  | [], b, o, _ => by simp only [VRI]
  | c :: cs, b, o, hv => by
    simp only [VRI] at hv ⊢
    obtain ⟨⟨u, e, hu⟩, hr⟩ := hv
    exact ⟨⟨u, h.imm b o u e, VR.mono h c u hu⟩, VRI.mono h cs b (o + 1) hr⟩
theorem VRL.mono {E E' : Env} (h : VExt E E') : ∀ (cs : List AV) (us : List Value), VRL E cs us → VRL E' cs us
  | [], us, hv => by simpa only [VRL] using hv
  | c :: cs, us, hv => by
    simp only [VRL] at hv ⊢
    obtain ⟨u, us', e, hu, hr⟩ := hv
    exact ⟨u, us', e, VR.mono h c u hu, VRL.mono h cs us' hr⟩
end

/-! ### Lists of related values -/
theorem VRL.nil {E : Env} : VRL E [] [] := by simp only [VRL]
theorem VRL.cons {E : Env} {c : AV} {cs : List AV} {u : Value} {us : List Value} (h : VR E c u) (hs : VRL E cs us) : VRL E (c :: cs) (u :: us) := by
  simp only [VRL]; exact ⟨u, us, rfl, h, hs⟩
theorem VRL.length {E : Env} : ∀ {cs : List AV} {us : List Value}, VRL E cs us → cs.length = us.length
  | [], us, h => by simp only [VRL] at h; simp [h]
  | c :: cs, us, h => by
    simp only [VRL] at h
    obtain ⟨u, us', rfl, _, hr⟩ := h
    simp [VRL.length hr]
theorem VRL.get {E : Env} : ∀ {cs : List AV} {us : List Value}, VRL E cs us → ∀ (i : Nat) (c : AV), cs[i]? = some c → ∃ u, us[i]? = some u ∧ VR E c u
  | [], us, h, i, c, hc => by simp at hc
  | c0 :: cs, us, h, i, c, hc => by
    simp only [VRL] at h
    obtain ⟨u, us', rfl, hu, hr⟩ := h
    cases i with
    | zero => simp at hc; subst hc; exact ⟨u, by simp, hu⟩
    | succ i => simp at hc; simpa using VRL.get hr i c hc
theorem VRL.of_get {E : Env} : ∀ {cs : List AV} {us : List Value}, cs.length = us.length → (∀ (i : Nat) (c : AV) (u : Value), cs[i]? = some c → us[i]? = some u → VR E c u) → VRL E cs us
  | [], us, hl, _ => by
    have : us = [] := List.eq_nil_of_length_eq_zero (by simpa using hl.symm)
    subst this; exact VRL.nil
  | c :: cs, [], hl, _ => by simp at hl
  | c :: cs, u :: us, hl, h => VRL.cons (h 0 c u (by simp) (by simp)) (VRL.of_get (by simpa using hl) fun i c' u' hc hu => h (i + 1) c' u' (by simpa using hc) (by simpa using hu))
theorem VRL.append {E : Env} : ∀ {cs ds : List AV} {us ws : List Value}, VRL E cs us → VRL E ds ws → VRL E (cs ++ ds) (us ++ ws)
  | [], ds, us, ws, h, k => by simp only [VRL] at h; subst h; simpa using k
  | c :: cs, ds, us, ws, h, k => by
    simp only [VRL] at h
    obtain ⟨u, us', rfl, hu, hr⟩ := h
    simpa using VRL.cons hu (VRL.append hr k)
theorem VRL.set {E : Env} : ∀ {cs : List AV} {us : List Value} (i : Nat) {c : AV} {u : Value}, VRL E cs us → VR E c u → VRL E (cs.set i c) (us.set i u)
  | [], us, i, c, u, h, _ => by simp only [VRL] at h; subst h; simpa using VRL.nil
  | c0 :: cs, us, i, c, u, h, hu => by
    simp only [VRL] at h
    obtain ⟨u0, us', rfl, hu0, hr⟩ := h
    cases i with
    | zero => simpa using VRL.cons hu hr
    | succ i => simpa using VRL.cons hu0 (VRL.set i hr hu)
theorem VRL.take {E : Env} : ∀ {cs : List AV} {us : List Value} (n : Nat), VRL E cs us → VRL E (cs.take n) (us.take n)
  | [], us, n, h => by simp only [VRL] at h; subst h; simpa using VRL.nil
  | c0 :: cs, us, n, h => by
    simp only [VRL] at h
    obtain ⟨u0, us', rfl, hu0, hr⟩ := h
    cases n with
    | zero => simpa using VRL.nil
    | succ n => simpa using VRL.cons hu0 (VRL.take n hr)
theorem VRL.drop {E : Env} : ∀ {cs : List AV} {us : List Value} (n : Nat), VRL E cs us → VRL E (cs.drop n) (us.drop n)
  | [], us, n, h => by simp only [VRL] at h; subst h; simpa using VRL.nil
  | c0 :: cs, us, n, h => by
    have h0 := h
    simp only [VRL] at h
    obtain ⟨u0, us', rfl, hu0, hr⟩ := h
    cases n with
    | zero => simpa using h0
    | succ n => simpa using VRL.drop n hr
theorem VRL.replicate_undef {E : Env} : ∀ (n : Nat) (us : List Value), us.length = n → VRL E (List.replicate n .undef) us
  | 0, us, h => by have : us = [] := List.eq_nil_of_length_eq_zero h; subst this; simpa using VRL.nil
  | n + 1, [], h => by simp at h
  | n + 1, u :: us, h => by
    rw [List.replicate_succ]
    exact VRL.cons (by simp only [VR]) (VRL.replicate_undef n us (by simpa using h))

/-! ### Cells that never change -/
theorem VRI.get {E : Env} : ∀ {cs : List AV} {b o : Nat}, VRI E cs b o → ∀ (i : Nat) (c : AV), cs[i]? = some c → ∃ u, E.imm b (o + i) = some u ∧ VR E c u
  | [], b, o, h, i, c, hc => by simp at hc
  | c0 :: cs, b, o, h, i, c, hc => by
    simp only [VRI] at h
    obtain ⟨⟨u, e, hu⟩, hr⟩ := h
    cases i with
    | zero => simp at hc; subst hc; exact ⟨u, by simpa using e, hu⟩
    | succ i =>
      simp at hc
      obtain ⟨u', e', hu'⟩ := VRI.get hr i c hc
      exact ⟨u', by rw [show o + (i + 1) = o + 1 + i by omega]; exact e', hu'⟩
theorem VRI.of_get {E : Env} : ∀ {cs : List AV} {b o : Nat}, (∀ (i : Nat) (c : AV), cs[i]? = some c → ∃ u, E.imm b (o + i) = some u ∧ VR E c u) → VRI E cs b o
  | [], b, o, _ => by simp only [VRI]
  | c0 :: cs, b, o, h => by
    simp only [VRI]
    refine ⟨by simpa using h 0 c0 (by simp), VRI.of_get fun i c hc => ?_⟩
    have := h (i + 1) c (by simpa using hc)
    rwa [show o + (i + 1) = o + 1 + i by omega] at this
theorem VRI.drop {E : Env} {cs : List AV} {b o : Nat} (h : VRI E cs b o) (n : Nat) : VRI E (cs.drop n) b (o + n) :=
  VRI.of_get fun i c hc => by
    rw [List.getElem?_drop] at hc
    have := h.get (n + i) c hc
    rwa [show o + (n + i) = o + n + i by omega] at this
theorem VRI.take {E : Env} {cs : List AV} {b o : Nat} (h : VRI E cs b o) (n : Nat) : VRI E (cs.take n) b o :=
  VRI.of_get fun i c hc => by
    rw [List.getElem?_take] at hc
    split at hc
    · exact h.get i c hc
    · cases hc
theorem VRI.append {E : Env} {cs ds : List AV} {b o : Nat} (h : VRI E cs b o) (k : VRI E ds b (o + cs.length)) : VRI E (cs ++ ds) b o :=
  VRI.of_get fun i c hc => by
    rw [List.getElem?_append] at hc
    split at hc
    · exact h.get i c hc
    · have := k.get (i - cs.length) c hc
      rwa [show o + cs.length + (i - cs.length) = o + i by omega] at this

end Go.Abs
