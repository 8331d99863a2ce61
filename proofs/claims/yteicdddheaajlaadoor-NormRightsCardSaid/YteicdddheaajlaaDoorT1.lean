/- Definitions and lemmas for the law, part 1. No condition beyond those in each statement. -/
import Derived.RangeFuncNested
import Derived.RangeFuncLeaves
import Derived.RangeFuncCalls
import Derived.Laws.AppendOwn
import Derived.Below
import Derived.Laws.Cells
import Derived.Laws.Entries
import Derived.Laws.Tables
import Derived.Laws.CopyRow
import Derived.Laws.NewFold
import Derived.Laws.Strings
import Derived.Laws.StructEq
import Derived.Laws.Slices
import Derived.Laws.BytesString
set_option linter.unusedSimpArgs false
set_option linter.unusedVariables false
set_option linter.deprecated false
namespace Go.Abs
open Go.RowKit
inductive AV where
  | undef
  | bool (b : Bool)
  | int (k : IntKind) (n : Int)
  | str (s : List UInt8)
  | nilp
  | ptr (i o : Nat)
  | iptr (cs : List AV)
  | nils
  | vec (cs : List AV) (len : Nat) (g : Option Nat)
  | row (i o len cap : Nat)
  | nilf
  | fn (f : Nat) (first caps : List AV)
  | cb (i : Nat)
  | nili
  | ifc (t : Nat) (v : AV)
  | agg (cs : List AV)
  | tup (vs : List AV)
  | mapp (i : Nat)
  | nilm
instance : Inhabited AV := ⟨.undef⟩
abbrev uu : AV := .undef
abbrev Imm := Nat → Nat → Option Value
structure Env where
  blk : Nat → Option Nat
  tok : Nat → Option (Nat × Value)
  fp : Nat → Nat → Prop
  cbv : Nat → Option Value
  cbJ : Nat → List (List AV) → Bool → (Nat → Prop) → Imm → World → Prop
  imm : Imm
  keep : Nat → Prop
  base : World
  rnd : Option Nat
  marks : List Nat
def tokOK (E : Env) (g : Option Nat) (len : Nat) (v : Value) : Prop :=
  ∀ i, g = some i → ∃ F v0, E.tok i = some (F, v0) ∧ len ≤ F ∧ (len = F → v = v0)
mutual
def VR (E : Env) : AV → Value → Prop
  | .undef, _ => True
  | .bool b, v => v = .bool b
  | .int k n, v => v = .int k n
  | .str s, v => v = .string ⟨s.toArray⟩
  | .nilp, v => v = .pointer none
  | .ptr i o, v => ∃ b, E.blk i = some b ∧ v = .pointer (some ⟨b, o, none⟩)
  | .iptr cs, v => ∃ b o, v = .pointer (some ⟨b, o, none⟩) ∧ VRI E cs b o
  | .nils, v => v = .slice none 0 0
  | .vec cs len g, v => ∃ a cap, v = .slice a len cap ∧ len ≤ cap ∧ (cs = [] ∨ ∃ b o, a = some ⟨b, o, none⟩ ∧ VRI E cs b o) ∧ tokOK E g len v
  | .row i o len cap, v => ∃ b, E.blk i = some b ∧ v = .slice (some ⟨b, o, none⟩) len cap
  | .nilf, v => v = .nilFunc
  | .fn f first caps, v => ∃ us ws, v = .func (.func f) us.toArray ws.toArray ∧ VRL E first us ∧ VRL E caps ws
  | .cb i, v => E.cbv i = some v ∧ ∃ f a b, v = .func f a b ∧ ∀ n, f ≠ .method n
  | .nili, v => v = .nilIface
  | .ifc t x, v => ∃ u, v = .iface t u ∧ VR E x u
  | .agg cs, v => ∃ us, v = .agg us.toArray ∧ VRL E cs us
  | .tup cs, v => ∃ us, v = .tuple us.toArray ∧ VRL E cs us
  | .mapp i, v => ∃ b, E.blk i = some b ∧ v = .map (some b)
  | .nilm, v => v = .map none
def VRI (E : Env) : List AV → Nat → Nat → Prop
  | [], _, _ => True
  | c :: cs, b, o => (∃ u, E.imm b o = some u ∧ VR E c u) ∧ VRI E cs b (o + 1)
def VRL (E : Env) : List AV → List Value → Prop
  | [], us => us = []
  | c :: cs, us => ∃ u us', us = u :: us' ∧ VR E c u ∧ VRL E cs us'
end
structure Ext (E E' : Env) : Prop where
  blk : ∀ i b, E.blk i = some b → E'.blk i = some b
  tok : ∀ i F v, E.tok i = some (F, v) → ∃ F' v', E'.tok i = some (F', v') ∧ (F < F' ∨ (F' = F ∧ v' = v))
  cbv : ∀ i v, E.cbv i = some v → E'.cbv i = some v ∧ E'.cbJ i = E.cbJ i
  imm : ∀ b o u, E.imm b o = some u → E'.imm b o = some u
  new : ∀ b o, E.keep b → E'.imm b o = E.imm b o
  keep : E'.keep = E.keep
  base : E'.base = E.base
  rnd : E'.rnd = E.rnd
theorem Ext.refl (E : Env) : Ext E E :=
  ⟨fun _ _ h => h, fun _ F v h => ⟨F, v, h, .inr ⟨rfl, rfl⟩⟩, fun _ _ h => ⟨h, rfl⟩, fun _ _ _ h => h, fun _ _ _ => rfl, rfl, rfl, rfl⟩
theorem Ext.trans {A B C : Env} (h : Ext A B) (k : Ext B C) : Ext A C where
  blk i b hb := k.blk i b (h.blk i b hb)
  tok i F v hv := by
    obtain ⟨F1, v1, e1, r1⟩ := h.tok i F v hv
    obtain ⟨F2, v2, e2, r2⟩ := k.tok i F1 v1 e1
    refine ⟨F2, v2, e2, ?_⟩
    rcases r1 with r1 | ⟨rfl, rfl⟩
    · rcases r2 with r2 | ⟨rfl, rfl⟩
      · exact .inl (by omega)
      · exact .inl r1
    · exact r2
  cbv i v hv := ⟨(k.cbv i v (h.cbv i v hv).1).1, (k.cbv i v (h.cbv i v hv).1).2.trans (h.cbv i v hv).2⟩
  imm b o u hu := k.imm b o u (h.imm b o u hu)
  new b o hk := (k.new b o (by rw [h.keep]; exact hk)).trans (h.new b o hk)
  keep := k.keep.trans h.keep
  base := k.base.trans h.base
  rnd := k.rnd.trans h.rnd
theorem VR.dead (E : Env) : VR E (.tup []) undef := by simp only [VR]; exact ⟨[], rfl, by simp only [VRL]⟩
theorem VR.toDead {E : Env} {u : Value} (h : VR E (.tup []) u) : u = undef := by
  simp only [VR] at h
  obtain ⟨us, rfl, hu⟩ := h
  cases us with
  | nil => rfl
  | cons a l => simp only [VRL] at hu; cases hu
structure VExt (E E' : Env) : Prop where
  blk : ∀ i b, E.blk i = some b → E'.blk i = some b
  tok : ∀ i F v, E.tok i = some (F, v) → ∃ F' v', E'.tok i = some (F', v') ∧ (F < F' ∨ (F' = F ∧ v' = v))
  cbv : ∀ i v, E.cbv i = some v → E'.cbv i = some v
  imm : ∀ b o u, E.imm b o = some u → E'.imm b o = some u
theorem Ext.v {E E' : Env} (h : Ext E E') : VExt E E' := ⟨h.blk, h.tok, fun i v hv => (h.cbv i v hv).1, h.imm⟩
theorem tokOK.mono {E E' : Env} (h : VExt E E') {g : Option Nat} {len : Nat} {v : Value} (hk : tokOK E g len v) : tokOK E' g len v := by
  intro i hi
  obtain ⟨F, v0, e, hle, heq⟩ := hk i hi
  obtain ⟨F', v', e', r⟩ := h.tok i F v0 e
  refine ⟨F', v', e', ?_, ?_⟩
  · rcases r with r | ⟨rfl, _⟩ <;> omega
  · rintro rfl
    rcases r with r | ⟨rfl, rfl⟩
    · omega
    · exact heq rfl
mutual
theorem VR.mono {E E' : Env} (h : VExt E E') : ∀ (a : AV) (v : Value), VR E a v → VR E' a v
  | .undef, _, hv => by simp only [VR]
  | .bool b, v, hv => by simpa only [VR] using hv
  | .int k n, v, hv => by simpa only [VR] using hv
  | .str s, v, hv => by simpa only [VR] using hv
  | .nilp, v, hv => by simpa only [VR] using hv
  | .ptr i o, v, hv => by
    simp only [VR] at hv ⊢
    obtain ⟨b, hb, e⟩ := hv
    exact ⟨b, h.blk i b hb, e⟩
  | .iptr cs, v, hv => by
    simp only [VR] at hv ⊢
    obtain ⟨b, o, e, hi⟩ := hv
    exact ⟨b, o, e, VRI.mono h cs b o hi⟩
  | .nils, v, hv => by simpa only [VR] using hv
  | .vec cs len g, v, hv => by
    simp only [VR] at hv ⊢
    obtain ⟨a, cap, e, hc, hi, ht⟩ := hv
    refine ⟨a, cap, e, hc, ?_, ht.mono h⟩
    rcases hi with hi | ⟨b, o, ha, hi⟩
    · exact .inl hi
    · exact .inr ⟨b, o, ha, VRI.mono h cs b o hi⟩
  | .row i o len cap, v, hv => by
    simp only [VR] at hv ⊢
    obtain ⟨b, hb, e⟩ := hv
    exact ⟨b, h.blk i b hb, e⟩
  | .nilf, v, hv => by simpa only [VR] using hv
  | .fn f first caps, v, hv => by
    simp only [VR] at hv ⊢
    obtain ⟨us, ws, e, h1, h2⟩ := hv
    exact ⟨us, ws, e, VRL.mono h first us h1, VRL.mono h caps ws h2⟩
  | .cb i, v, hv => by
    simp only [VR] at hv ⊢
    exact ⟨h.cbv i v hv.1, hv.2⟩
  | .nili, v, hv => by simpa only [VR] using hv
  | .ifc t x, v, hv => by
    simp only [VR] at hv ⊢
    obtain ⟨u, e, hu⟩ := hv
    exact ⟨u, e, VR.mono h x u hu⟩
  | .agg cs, v, hv => by
    simp only [VR] at hv ⊢
    obtain ⟨us, e, hu⟩ := hv
    exact ⟨us, e, VRL.mono h cs us hu⟩
  | .tup cs, v, hv => by
    simp only [VR] at hv ⊢
    obtain ⟨us, e, hu⟩ := hv
    exact ⟨us, e, VRL.mono h cs us hu⟩
  | .mapp i, v, hv => by
    simp only [VR] at hv ⊢
    obtain ⟨b, hb, e⟩ := hv
    exact ⟨b, h.blk i b hb, e⟩
  | .nilm, v, hv => by simpa only [VR] using hv
theorem VRI.mono {E E' : Env} (h : VExt E E') : ∀ (cs : List AV) (b o : Nat), VRI E cs b o → VRI E' cs b o
  | [], b, o, _ => by simp only [VRI]
  | c :: cs, b, o, hv => by
    simp only [VRI] at hv ⊢
    obtain ⟨⟨u, e, hu⟩, hr⟩ := hv
    exact ⟨⟨u, h.imm b o u e, VR.mono h c u hu⟩, VRI.mono h cs b (o + 1) hr⟩
theorem VRL.mono {E E' : Env} (h : VExt E E') : ∀ (cs : List AV) (us : List Value), VRL E cs us → VRL E' cs us
  | [], us, hv => by simpa only [VRL] using hv
  | c :: cs, us, hv => by
    simp only [VRL] at hv ⊢
    obtain ⟨u, us', e, hu, hr⟩ := hv
    exact ⟨u, us', e, VR.mono h c u hu, VRL.mono h cs us' hr⟩
end
theorem VRL.nil {E : Env} : VRL E [] [] := by simp only [VRL]
theorem VRL.cons {E : Env} {c : AV} {cs : List AV} {u : Value} {us : List Value} (h : VR E c u) (hs : VRL E cs us) : VRL E (c :: cs) (u :: us) := by
  simp only [VRL]; exact ⟨u, us, rfl, h, hs⟩
theorem VRL.length {E : Env} : ∀ {cs : List AV} {us : List Value}, VRL E cs us → cs.length = us.length
  | [], us, h => by simp only [VRL] at h; simp [h]
  | c :: cs, us, h => by
    simp only [VRL] at h
    obtain ⟨u, us', rfl, _, hr⟩ := h
    simp [VRL.length hr]
theorem VRL.get {E : Env} : ∀ {cs : List AV} {us : List Value}, VRL E cs us → ∀ (i : Nat) (c : AV), cs[i]? = some c → ∃ u, us[i]? = some u ∧ VR E c u
  | [], us, h, i, c, hc => by simp at hc
  | c0 :: cs, us, h, i, c, hc => by
    simp only [VRL] at h
    obtain ⟨u, us', rfl, hu, hr⟩ := h
    cases i with
    | zero => simp at hc; subst hc; exact ⟨u, by simp, hu⟩
    | succ i => simp at hc; simpa using VRL.get hr i c hc
theorem VRL.of_get {E : Env} : ∀ {cs : List AV} {us : List Value}, cs.length = us.length → (∀ (i : Nat) (c : AV) (u : Value), cs[i]? = some c → us[i]? = some u → VR E c u) → VRL E cs us
  | [], us, hl, _ => by
    have : us = [] := List.eq_nil_of_length_eq_zero (by simpa using hl.symm)
    subst this; exact VRL.nil
  | c :: cs, [], hl, _ => by simp at hl
  | c :: cs, u :: us, hl, h => VRL.cons (h 0 c u (by simp) (by simp)) (VRL.of_get (by simpa using hl) fun i c' u' hc hu => h (i + 1) c' u' (by simpa using hc) (by simpa using hu))
theorem VRL.append {E : Env} : ∀ {cs ds : List AV} {us ws : List Value}, VRL E cs us → VRL E ds ws → VRL E (cs ++ ds) (us ++ ws)
  | [], ds, us, ws, h, k => by simp only [VRL] at h; subst h; simpa using k
  | c :: cs, ds, us, ws, h, k => by
    simp only [VRL] at h
    obtain ⟨u, us', rfl, hu, hr⟩ := h
    simpa using VRL.cons hu (VRL.append hr k)
theorem VRL.set {E : Env} : ∀ {cs : List AV} {us : List Value} (i : Nat) {c : AV} {u : Value}, VRL E cs us → VR E c u → VRL E (cs.set i c) (us.set i u)
  | [], us, i, c, u, h, _ => by simp only [VRL] at h; subst h; simpa using VRL.nil
  | c0 :: cs, us, i, c, u, h, hu => by
    simp only [VRL] at h
    obtain ⟨u0, us', rfl, hu0, hr⟩ := h
    cases i with
    | zero => simpa using VRL.cons hu hr
    | succ i => simpa using VRL.cons hu0 (VRL.set i hr hu)
theorem VRL.take {E : Env} : ∀ {cs : List AV} {us : List Value} (n : Nat), VRL E cs us → VRL E (cs.take n) (us.take n)
  | [], us, n, h => by simp only [VRL] at h; subst h; simpa using VRL.nil
  | c0 :: cs, us, n, h => by
    simp only [VRL] at h
    obtain ⟨u0, us', rfl, hu0, hr⟩ := h
    cases n with
    | zero => simpa using VRL.nil
    | succ n => simpa using VRL.cons hu0 (VRL.take n hr)
theorem VRL.drop {E : Env} : ∀ {cs : List AV} {us : List Value} (n : Nat), VRL E cs us → VRL E (cs.drop n) (us.drop n)
  | [], us, n, h => by simp only [VRL] at h; subst h; simpa using VRL.nil
  | c0 :: cs, us, n, h => by
    have h0 := h
    simp only [VRL] at h
    obtain ⟨u0, us', rfl, hu0, hr⟩ := h
    cases n with
    | zero => simpa using h0
    | succ n => simpa using VRL.drop n hr
theorem VRL.replicate_undef {E : Env} : ∀ (n : Nat) (us : List Value), us.length = n → VRL E (List.replicate n .undef) us
  | 0, us, h => by have : us = [] := List.eq_nil_of_length_eq_zero h; subst this; simpa using VRL.nil
  | n + 1, [], h => by simp at h
  | n + 1, u :: us, h => by
    rw [List.replicate_succ]
    exact VRL.cons (by simp only [VR]) (VRL.replicate_undef n us (by simpa using h))
theorem VRI.get {E : Env} : ∀ {cs : List AV} {b o : Nat}, VRI E cs b o → ∀ (i : Nat) (c : AV), cs[i]? = some c → ∃ u, E.imm b (o + i) = some u ∧ VR E c u
  | [], b, o, h, i, c, hc => by simp at hc
  | c0 :: cs, b, o, h, i, c, hc => by
    simp only [VRI] at h
    obtain ⟨⟨u, e, hu⟩, hr⟩ := h
    cases i with
    | zero => simp at hc; subst hc; exact ⟨u, by simpa using e, hu⟩
    | succ i =>
      simp at hc
      obtain ⟨u', e', hu'⟩ := VRI.get hr i c hc
      exact ⟨u', by rw [show o + (i + 1) = o + 1 + i by omega]; exact e', hu'⟩
theorem VRI.of_get {E : Env} : ∀ {cs : List AV} {b o : Nat}, (∀ (i : Nat) (c : AV), cs[i]? = some c → ∃ u, E.imm b (o + i) = some u ∧ VR E c u) → VRI E cs b o
  | [], b, o, _ => by simp only [VRI]
  | c0 :: cs, b, o, h => by
    simp only [VRI]
    refine ⟨by simpa using h 0 c0 (by simp), VRI.of_get fun i c hc => ?_⟩
    have := h (i + 1) c (by simpa using hc)
    rwa [show o + (i + 1) = o + 1 + i by omega] at this
theorem VRI.drop {E : Env} {cs : List AV} {b o : Nat} (h : VRI E cs b o) (n : Nat) : VRI E (cs.drop n) b (o + n) :=
  VRI.of_get fun i c hc => by
    rw [List.getElem?_drop] at hc
    have := h.get (n + i) c hc
    rwa [show o + (n + i) = o + n + i by omega] at this
theorem VRI.take {E : Env} {cs : List AV} {b o : Nat} (h : VRI E cs b o) (n : Nat) : VRI E (cs.take n) b o :=
  VRI.of_get fun i c hc => by
    rw [List.getElem?_take] at hc
    split at hc
    · exact h.get i c hc
    · cases hc
theorem VRI.append {E : Env} {cs ds : List AV} {b o : Nat} (h : VRI E cs b o) (k : VRI E ds b (o + cs.length)) : VRI E (cs ++ ds) b o :=
  VRI.of_get fun i c hc => by
    rw [List.getElem?_append] at hc
    split at hc
    · exact h.get i c hc
    · have := k.get (i - cs.length) c hc
      rwa [show o + cs.length + (i - cs.length) = o + i by omega] at this
end Go.Abs
namespace Go.Abs
open Go.RowKit
inductive Chunk where
  | var (cs : List AV) (t : Nat)
  | ro (cs : List AV)
  | tok (F t sz : Nat)
  | cb (acc : List (List AV) → List AV → Prop) (seen : List (List AV)) (stop : Bool)
  | dead
  | unborn
abbrev Heap := List Chunk
inductive TK where
  | int (k : IntKind)
  | bool
  | str
  | struct (fs : List (Nat × Nat × Bool))
  | arr (n e : Nat)
  | slice (e : Nat)
  | ptr
  | func
  | iface
  | other
structure TI where
  kind : TK
  size : Nat
  bytes : Nat
  zero : Value
abbrev TT := Nat → Option TI
abbrev GT := Nat → Option (List AV)
structure Seat where
  P : Program
  Γ : TT
  G : GT
  flat : Nat → Option (List Nat)
def TK.agg : TK → Bool
  | .struct _ => true
  | .arr _ _ => true
  | _ => false
structure Req (p A : Prop) : Prop where
  pf : p
  go : A
structure Done (A : Prop) : Prop where
  out : A
structure WrapH (kd : IntKind) (n : Int) (k : Int → Prop) : Prop where
  out : k (kd.wrap n)
structure NumH (n : Int) (k : Int → Prop) : Prop where
  out : k n
theorem NumH.is {n : Int} {k : Int → Prop} (m : Int) (h : n = m) (hk : k m) : NumH n k := ⟨by rw [h]; exact hk⟩
theorem WrapH.is {kd : IntKind} {n : Int} {k : Int → Prop} (m : Int) (h : kd.wrap n = m) (hk : k m) : WrapH kd n k := ⟨by rw [h]; exact hk⟩
def Br (c : Bool) (A B : Prop) : Prop := @Bool.rec (fun _ => Prop) B A c
def LdK {α : Type} (r : Option α) (k : α → Prop) : Prop := @Option.rec α (fun _ => Prop) False k r
theorem brI {c : Bool} {A B : Prop} (h1 : c = true → A) (h2 : c = false → B) : @Bool.rec (fun _ => Prop) B A c := by
  cases c
  · exact h2 rfl
  · exact h1 rfl
theorem brT {c : Bool} {A B : Prop} (h : c = true) (h1 : A) : @Bool.rec (fun _ => Prop) B A c := by subst h; exact h1
theorem brF {c : Bool} {A B : Prop} (h : c = false) (h1 : B) : @Bool.rec (fun _ => Prop) B A c := by subst h; exact h1
theorem ldI {α : Type} {r : Option α} {k : α → Prop} (a : α) (h : r = some a) (hk : k a) : @Option.rec α (fun _ => Prop) False k r := by
  subst h; exact hk
theorem Br.elim {c : Bool} {A B : Prop} (h : Br c A B) : (c = true → A) ∧ (c = false → B) := by
  cases c
  · exact ⟨fun e => (nomatch e), fun _ => h⟩
  · exact ⟨fun _ => h, fun e => (nomatch e)⟩
theorem LdK.elim {α : Type} {r : Option α} {k : α → Prop} (h : LdK r k) : ∃ a, r = some a ∧ k a := by
  cases r with
  | none => exact False.elim h
  | some a => exact ⟨a, rfl, h⟩
def forceK (v : AV) (k : AV → Prop) : Prop :=
  match v with
  | .undef => k .undef
  | .bool b => k (.bool b)
  | .int a n => k (.int a n)
  | .str s => k (.str s)
  | .nilp => k .nilp
  | .ptr i o => k (.ptr i o)
  | .iptr cs => k (.iptr cs)
  | .nils => k .nils
  | .vec cs len g => k (.vec cs len g)
  | .row i o len cap => k (.row i o len cap)
  | .nilf => k .nilf
  | .fn f a b => k (.fn f a b)
  | .cb i => k (.cb i)
  | .nili => k .nili
  | .ifc t v => k (.ifc t v)
  | .agg cs => k (.agg cs)
  | .tup vs => k (.tup vs)
  | .mapp i => k (.mapp i)
  | .nilm => k .nilm
theorem forceK_eq (v : AV) (k : AV → Prop) : forceK v k = k v := by cases v <;> rfl
def ofCell : Value → AV
  | .bool b => .bool b
  | .int k n => .int k n
  | .string s => .str s.data.toList
  | .pointer none => .nilp
  | .slice none 0 0 => .nils
  | .nilFunc => .nilf
  | .nilIface => .nili
  | .map none => .nilm
  | _ => .undef
def ofCells : List Value → List AV
  | [] => []
  | v :: l => ofCell v :: ofCells l
def ofV : Value → AV
  | .agg cs => .agg (ofCells cs.toList)
  | .iface t v => .ifc t (ofCell v)
  | v => ofCell v
def getT : List AV → Nat → AV
  | [], _ => .undef
  | a :: _, 0 => a
  | _ :: l, i + 1 => getT l i
def getO {α : Type} : List α → Nat → Option α
  | [], _ => none
  | a :: _, 0 => some a
  | _ :: l, i + 1 => getO l i
def setK {α : Type} : List α → Nat → α → (List α → Prop) → Prop
  | [], _, _, k => k []
  | _ :: l, 0, v, k => k (v :: l)
  | a :: l, i + 1, v, k => setK l i v (fun l' => k (a :: l'))
def takeK : List AV → Nat → Option (List AV)
  | _, 0 => some []
  | [], _ + 1 => none
  | a :: l, n + 1 => match takeK l n with | some r => some (a :: r) | none => none
def dropL : List AV → Nat → List AV
  | l, 0 => l
  | [], _ + 1 => []
  | _ :: l, n + 1 => dropL l n
def sub (l : List AV) (off n : Nat) : Option (List AV) := takeK (dropL l off) n
def lenN {α : Type} : List α → Nat
  | [] => 0
  | _ :: l => lenN l + 1
def ev (G : GT) (t : List AV) : Operand → AV
  | .tmp i => getT t i
  | .const v => ofV v
  | .global g => match G g with | some cs => .iptr cs | none => .undef
  | .func f => .fn f [] []
def cellsOf : AV → List AV
  | .agg cs => cs
  | v => [v]
def partK (agg : Bool) (cs : List AV) (off size : Nat) : Option AV :=
  match agg with
  | true => match sub cs off size with | some r => some (.agg r) | none => none
  | false => getO cs off
def spliceK : List AV → Nat → List AV → (List AV → Prop) → Prop
  | cs, _, [], k => k cs
  | cs, o, v :: vs, k => setK cs o v (fun cs' => spliceK cs' (o + 1) vs k)
def kidx : IntKind → Nat
  | .i8 => 0 | .i16 => 1 | .i32 => 2 | .i64 => 3 | .u8 => 4 | .u16 => 5 | .u32 => 6 | .u64 => 7
def kEq (a b : IntKind) : Bool := Nat.beq (kidx a) (kidx b)
def bitOp (op : BinOp) (k : IntKind) (x y : Int) : Option Int :=
  match op with
  | .and => some (k.wrap (BitVec.ofInt k.bits x &&& BitVec.ofInt k.bits y).toNat)
  | .or => some (k.wrap (BitVec.ofInt k.bits x ||| BitVec.ofInt k.bits y).toNat)
  | .xor => some (k.wrap (BitVec.ofInt k.bits x ^^^ BitVec.ofInt k.bits y).toNat)
  | .andNot => some (k.wrap (BitVec.ofInt k.bits x &&& ~~~ BitVec.ofInt k.bits y).toNat)
  | _ => none
def intOp (op : BinOp) (k : IntKind) (a b : Int) : Option AV :=
  match op with
  | .add => some (.int k (k.wrap (a + b)))
  | .sub => some (.int k (k.wrap (a - b)))
  | .mul => some (.int k (k.wrap (a * b)))
  | .eql => some (.bool (a == b))
  | .neq => some (.bool (a != b))
  | .lss => some (.bool (a < b))
  | .leq => some (.bool (a ≤ b))
  | .gtr => some (.bool (a > b))
  | .geq => some (.bool (a ≥ b))
  | op => match bitOp op k a b with | some n => some (.int k n) | none => none
def arithK (op : BinOp) (kx : IntKind) (a b : Int) (k : AV → Prop) : Prop :=
  match op with
  | .add => WrapH kx (a + b) (fun n => k (.int kx n))
  | .sub => WrapH kx (a - b) (fun n => k (.int kx n))
  | .mul => WrapH kx (a * b) (fun n => k (.int kx n))
  | .and => WrapH kx (BitVec.ofInt kx.bits a &&& BitVec.ofInt kx.bits b).toNat (fun n => k (.int kx n))
  | .or => WrapH kx (BitVec.ofInt kx.bits a ||| BitVec.ofInt kx.bits b).toNat (fun n => k (.int kx n))
  | .xor => WrapH kx (BitVec.ofInt kx.bits a ^^^ BitVec.ofInt kx.bits b).toNat (fun n => k (.int kx n))
  | .andNot => WrapH kx (BitVec.ofInt kx.bits a &&& ~~~ BitVec.ofInt kx.bits b).toNat (fun n => k (.int kx n))
  | op => LdK (intOp op kx a b) k
theorem arithK_ld {op : BinOp} {kx : IntKind} {a b : Int} {k : AV → Prop} (h : arithK op kx a b k) : LdK (intOp op kx a b) k := by
  cases op <;> first | exact h | exact h.out
def cellEq : AV → AV → Option Bool
  | .int k a, .int k' b => match kEq k k' with | true => some (a == b) | false => none
  | .bool a, .bool b => some (a == b)
  | .str a, .str b => some (a == b)
  | _, _ => none
def cellsEq : List AV → List AV → Option Bool
  | [], [] => some true
  | a :: as0, b :: bs => match cellEq a b, cellsEq as0 bs with | some x, some y => some (x && y) | _, _ => none
  | _, _ => none
def shapeB : List Nat → List AV → Bool
  | [], [] => true
  | n :: ns, c :: cs => match c with
    | .int _ _ => (match Nat.beq n 0 with | true => shapeB ns cs | false => false)
    | .bool _ => (match Nat.beq n 1 with | true => shapeB ns cs | false => false)
    | .str _ => (match Nat.beq n 2 with | true => shapeB ns cs | false => false)
    | _ => false
  | _, _ => false
def nilEq : TK → AV → AV → Option Bool
  | .ptr, .nilp, .nilp => some true
  | .ptr, .nilp, .ptr _ _ => some false
  | .ptr, .ptr _ _, .nilp => some false
  | .ptr, .nilp, .iptr _ => some false
  | .ptr, .iptr _, .nilp => some false
  | .func, .nilf, .nilf => some true
  | .func, .nilf, .fn _ _ _ => some false
  | .func, .fn _ _ _, .nilf => some false
  | .func, .nilf, .cb _ => some false
  | .func, .cb _, .nilf => some false
  | .iface, .nilf, _ => none
  | .iface, .nili, .ifc _ _ => some false
  | .iface, .ifc _ _, .nili => some false
  | _, _, _ => none
def eqK (flat : Nat → Option (List Nat)) (Γ : TT) (ty : Nat) (x y : AV) : Option Bool :=
  match Γ ty with
  | none => none
  | some ti =>
    match ti.kind, x, y with
    | .bool, .bool a, .bool b => some (a == b)
    | .struct _, .agg xs, .agg ys => match flat ty with | some ks => (match shapeB ks xs, shapeB ks ys with | true, true => cellsEq xs ys | _, _ => none) | none => none
    | k, x, y => nilEq k x y
def binK (flat : Nat → Option (List Nat)) (Γ : TT) (op : BinOp) (ty : Nat) (x y : AV) (k : AV → Prop) : Prop :=
  match x, y with
  | .int kx a, .int ky b =>
    match op with
    | .shl => Req (0 ≤ b) (WrapH kx (a * 2 ^ (min b.toNat kx.bits)) (fun n => k (.int kx n)))
    | .shr => Req (0 ≤ b) (NumH (a.fdiv (2 ^ (min b.toNat kx.bits))) (fun n => k (.int kx n)))
    | .quo => match kEq kx ky with | true => Req (b ≠ 0) (WrapH kx (a.tdiv b) (fun n => k (.int kx n))) | false => False
    | .rem => match kEq kx ky with | true => Req (b ≠ 0) (NumH (a.tmod b) (fun n => k (.int kx n))) | false => False
    | op => match kEq kx ky with | true => arithK op kx a b k | false => False
  | .str a, .str b =>
    match op with
    | .add => Req (((a.length + b.length : Nat) : Int) ≤ 9223372036854775807) (k (.str (a ++ b)))
    | .eql => k (.bool (a == b))
    | .neq => k (.bool (!(a == b)))
    | _ => False
  | x, y =>
    match op with
    | .eql => LdK (eqK flat Γ ty x y) (fun r => k (.bool r))
    | .neq => LdK (eqK flat Γ ty x y) (fun r => k (.bool (!r)))
    | _ => False
def unK (op : UnOp) (x : AV) : Option AV :=
  match op, x with
  | .neg, .int k n => some (.int k (k.wrap (0 - n)))
  | .xor, .int k n => match bitOp .xor k (if k.signed then -1 else k.max) n with | some r => some (.int k r) | none => none
  | .not, .bool b => some (.bool (!b))
  | _, _ => none
def unopK (op : UnOp) (x : AV) (k : AV → Prop) : Prop :=
  match op, x with
  | .neg, .int kd n => WrapH kd (0 - n) (fun n => k (.int kd n))
  | .xor, .int kd n => WrapH kd (BitVec.ofInt kd.bits (if kd.signed then -1 else kd.max) ^^^ BitVec.ofInt kd.bits n).toNat (fun n => k (.int kd n))
  | op, x => LdK (unK op x) k
theorem unopK_ld {op : UnOp} {x : AV} {k : AV → Prop} (h : unopK op x k) : LdK (unK op x) k := by
  unfold unopK at h
  split at h
  · exact h.out
  · exact h.out
  · exact h
def bytesK : Nat → List AV → Option (List UInt8)
  | 0, [] => some []
  | n + 1, .int .u8 m :: cs => match bytesK n cs with
    | some r => some (UInt8.ofNat m.toNat :: r)
    | none => none
  | _, _ => none
def isU8 (Γ : TT) (e : Nat) : Bool :=
  match Γ e with
  | some te => (match te.kind with | .int .u8 => true | _ => false)
  | none => false
def convK (Γ : TT) (src dst : Nat) (x : AV) (k : AV → Prop) : Prop :=
  match Γ src, Γ dst with
  | some s, some d =>
    match s.kind, d.kind, x with
    | .int _, .int kd, .int _ n => WrapH kd n (fun n => k (.int kd n))
    | .str, .str, .str s => k (.str s)
    | .int _, .str, .int _ n => Req (0 ≤ n ∧ n < 128) (k (.str [UInt8.ofNat n.toNat]))
    | .slice e, .str, .vec cs len _ => (match isU8 Γ e with | true => LdK (bytesK len cs) (fun bs => k (.str bs)) | false => False)
    | .slice e, .str, .nils => (match isU8 Γ e with | true => k (.str []) | false => False)
    | _, _, _ => False
  | _, _ => False
def isBS (Γ : TT) (src dst : Nat) : Bool :=
  match Γ src, Γ dst with
  | some s, some d => (match s.kind, d.kind with
    | .slice e, .str => isU8 Γ e
    | _, _ => false)
  | _, _ => false
def intOf? : AV → Option Int
  | .int _ n => some n
  | _ => none
def natLe (a b : Nat) : Bool := Nat.ble a b
def solid : AV → Bool
  | .undef => false
  | .tup _ => false
  | _ => true
def fillK (fs : List (Nat × Nat × Bool)) : List (Nat × AV) → List AV → (List AV → Prop) → Prop
  | [], cs, k => k cs
  | (i, v) :: r, cs, k =>
    match getO fs i with
    | none => False
    | some (off, size, _) =>
      forceK v (fun v => match Nat.beq (lenN (cellsOf v)) size, natLe (off + lenN (cellsOf v)) (lenN cs), solid v with
      | true, true, true => spliceK cs off (cellsOf v) (fun cs' => fillK fs r cs' k)
      | _, _, _ => False)
def fillA (size : Nat) : List (Nat × AV) → List AV → (List AV → Prop) → Prop
  | [], cs, k => k cs
  | (i, v) :: r, cs, k =>
    forceK v (fun v => match Nat.beq (lenN (cellsOf v)) size, natLe (i * size + lenN (cellsOf v)) (lenN cs), solid v with
    | true, true, true => spliceK cs (i * size) (cellsOf v) (fun cs' => fillA size r cs' k)
    | _, _, _ => False)
def repL : Nat → List AV → List AV
  | 0, _ => []
  | n + 1, l => l ++ repL n l
def preK : List AV → List AV → (List AV → Prop) → Prop
  | [], r, k => k r
  | a :: l, r, k => preK l r (fun s => k (a :: s))
def repK : Nat → List AV → (List AV → Prop) → Prop
  | 0, _, k => k []
  | n + 1, l, k => repK n l (fun r => preK l r k)
theorem preK_eq : ∀ (l r : List AV) (k : List AV → Prop), preK l r k = k (l ++ r)
  | [], r, k => rfl
  | a :: l, r, k => by simp only [preK, preK_eq l r, List.cons_append]
theorem repK_eq : ∀ (n : Nat) (l : List AV) (k : List AV → Prop), repK n l k = k (repL n l)
  | 0, l, k => rfl
  | n + 1, l, k => by simp only [repK, repK_eq n l, preK_eq, repL]
def aggT (Γ : TT) (t : Nat) : Bool := match Γ t with | some i => i.kind.agg | none => false
def sizeT (Γ : TT) (t : Nat) : Option Nat := match Γ t with | some i => some i.size | none => none
def okCell : AV → Bool
  | .undef => false
  | .agg _ => false
  | .tup _ => false
  | _ => true
def okCells : List AV → Bool
  | [] => true
  | c :: l => match okCell c with | true => okCells l | false => false
def mapF (ρ : Operand → AV) : List Operand → (List AV → Prop) → Prop
  | [], k => k []
  | o :: r, k => forceK (ρ o) (fun v => mapF ρ r (fun l => k (v :: l)))
theorem mapF_eq (ρ : Operand → AV) : ∀ (l : List Operand) (k : List AV → Prop), mapF ρ l k = k (l.map ρ)
  | [], k => rfl
  | o :: r, k => by simp only [mapF, forceK_eq, mapF_eq ρ r, List.map_cons]
abbrev OpK := AV → List (Nat × Chunk) → List Nat → Prop
def fieldPtr (off : Nat) : AV → Option AV
  | .ptr i o => some (.ptr i (o + off))
  | .iptr cs => some (.iptr (dropL cs off))
  | _ => none
def opK (flat : Nat → Option (List Nat)) (Γ : TT) (ρ : Operand → AV) (h : Heap) (nid : Nat) (op : Op) (k : OpK) : Prop :=
  match op with
  | .move x => forceK (ρ x) (fun v => k v [] [])
  | .assign x => forceK (ρ x) (fun v => k v [] [])
  | .pick c a b => match ρ c with | .bool b' => Br b' (forceK (ρ a) (fun v => k v [] [])) (forceK (ρ b) (fun v => k v [] [])) | _ => False
  | .alloc t => match Γ t with | some ti => k (.ptr nid 0) [(nid, .var (cellsOf (ofV ti.zero)) t)] [] | none => False
  | .box t v => forceK (ρ v) (fun x => match solid x with | true => k (.ptr nid 0) [(nid, .var (cellsOf x) t)] [] | false => False)
  | .build t parts =>
    match Γ t with
    | some ti =>
      match ti.kind with
      | .struct fs => fillK fs (parts.toList.map fun p => (p.1, ρ p.2)) (cellsOf (ofV ti.zero)) (fun cs => k (.agg cs) [] [])
      | .arr _ e => LdK (sizeT Γ e) (fun size => fillA size (parts.toList.map fun p => (p.1, ρ p.2)) (cellsOf (ofV ti.zero)) (fun cs => k (.agg cs) [] []))
      | _ => False
    | none => False
  | .buildSlice t len parts =>
    match Γ t with
    | some ti =>
      match ti.kind with
      | .slice e =>
        match Γ e with
        | some te =>
          match natLe (len * te.size) 16777216, natLe 1 te.size, Nat.beq (lenN (cellsOf (ofV te.zero))) te.size with
          | true, true, true => repK len (cellsOf (ofV te.zero)) (fun cs0 => fillA te.size (parts.toList.map fun p => (p.1, ρ p.2)) cs0 (fun cs => k (.vec cs len (some nid)) [(nid, .tok len e te.size)] []))
          | _, _, _ => False
        | none => False
      | _ => False
    | none => False
  | .load t a =>
    match ρ a with
    | .ptr i o =>
      LdK (sizeT Γ t) (fun size =>
        match getO h i with
        | some (.var cs _) => LdK (partK (aggT Γ t) cs o size) (fun v => k v [] [i])
        | some (.ro cs) => LdK (partK (aggT Γ t) cs o size) (fun v => k v [] [i])
        | _ => False)
    | .iptr cs => LdK (sizeT Γ t) (fun size => LdK (partK (aggT Γ t) cs 0 size) (fun v => k v [] []))
    | _ => False
  | .store t a x =>
    match ρ a with
    | .ptr i o =>
      match Γ t, getO h i with
      | some ti, some (.var cs ct) =>
        forceK (ρ x) (fun v => match Nat.beq (lenN (cellsOf v)) ti.size, natLe (o + lenN (cellsOf v)) (lenN cs), okCells (cellsOf v) with
        | true, true, true => spliceK cs o (cellsOf v) (fun cs' => k .undef [(i, .var cs' ct)] [i])
        | _, _, _ => False)
      | _, _ => False
    | _ => False
  | .nilCheck x =>
    match ρ x with
    | .ptr i o => k (.ptr i o) [] []
    | .iptr cs => k (.iptr cs) [] []
    | .fn f a b => k (.fn f a b) [] []
    | .cb i => k (.cb i) [] []
    | _ => False
  | .binOp op ty x y _ =>
    match y, ρ x, ρ y, op with
    | .const _, .nili, .nili, .eql => match Γ ty with | some ti => (match ti.kind with | .iface => k (.bool true) [] [] | _ => False) | none => False
    | .const _, .nili, .nili, .neq => match Γ ty with | some ti => (match ti.kind with | .iface => k (.bool false) [] [] | _ => False) | none => False
    | _, a, b, op => binK flat Γ op ty a b (fun v => k v [] [])
  | .unOp op _ x => unopK op (ρ x) (fun v => k v [] [])
  | .convert src dst x =>
    match ρ x with
    | .row i o len _ =>
      match isBS Γ src dst, getO h i with
      | true, some (.var cs _) => LdK (bytesK len ((cs.drop o).take len)) (fun bs => k (.str bs) [] [i])
      | _, _ => False
    | a => convK Γ src dst a (fun v => k v [] [])
  | .makeInterface t x => match Γ t with | some ti => (match ti.kind with | .iface => False | _ => forceK (ρ x) (fun v => k (.ifc t v) [] [])) | none => False
  | .makeFunc (.func f) first caps => mapF ρ first.toList (fun l => mapF ρ caps.toList (fun r => k (.fn f l r) [] []))
  | .fieldAddr s x f =>
    match Γ s with
    | some ti =>
      match ti.kind with
      | .struct fs => LdK (getO fs f) (fun p => match natLe 1 p.2.1 with | true => LdK (fieldPtr p.1 (ρ x)) (fun v => k v [] []) | false => False)
      | _ => False
    | none => False
  | .field s x f =>
    match Γ s, ρ x with
    | some ti, .agg cs =>
      match ti.kind with
      | .struct fs => LdK (getO fs f) (fun p => LdK (partK p.2.2 cs p.1 p.2.1) (fun v => k v [] []))
      | _ => False
    | _, _ => False
  | .indexAddr t x ix =>
    match Γ t, ρ ix with
    | some ti, .int _ n =>
      match ti.kind, ρ x with
      | .arr len e, .ptr i o => LdK (sizeT Γ e) (fun size => Req (0 ≤ n ∧ n < len) (k (.ptr i (o + n.toNat * size)) [] []))
      | .arr len e, .iptr cs => LdK (sizeT Γ e) (fun size => Req (0 ≤ n ∧ n < len) (k (.iptr (dropL cs (n.toNat * size))) [] []))
      | .slice e, .vec cs len _ => LdK (sizeT Γ e) (fun size => Req (0 ≤ n ∧ n < len) (LdK (sub cs (n.toNat * size) size) (fun el => match el with | [] => False | c :: r => k (.iptr (c :: r)) [] [])))
      | .slice e, .row i o len _ => LdK (sizeT Γ e) (fun size => Req (0 ≤ n ∧ n < len) (k (.ptr i (o + n.toNat * size)) [] []))
      | _, _ => False
    | _, _ => False
  | .index t x ix =>
    match Γ t, ρ ix with
    | some ti, .int _ n =>
      match ti.kind, ρ x with
      | .str, .str s => Req (0 ≤ n ∧ n < s.length) (LdK (s[n.toNat]?) (fun b => k (.int .u8 b.toNat) [] []))
      | .arr len e, .agg cs => LdK (sizeT Γ e) (fun size => Req (0 ≤ n ∧ n < len) (LdK (partK (aggT Γ e) cs (n.toNat * size) size) (fun v => k v [] [])))
      | _, _ => False
    | _, _ => False
  | .slice t x lo hi mx =>
    match Γ t with
    | none => False
    | some ti =>
      match ti.kind, ρ x with
      | .str, .str s =>
        match mx with
        | some _ => False
        | none =>
        LdK (match lo with | none => some 0 | some l => intOf? (ρ l)) (fun l =>
        LdK (match hi with | none => some (s.length : Int) | some l => intOf? (ρ l)) (fun hh =>
          Req (0 ≤ l ∧ l ≤ hh ∧ hh ≤ s.length) (k (.str ((s.drop l.toNat).take (hh.toNat - l.toNat))) [] [])))
      | .slice e, .vec cs len _ =>
        LdK (sizeT Γ e) (fun size =>
        LdK (match lo with | none => some 0 | some l => intOf? (ρ l)) (fun l =>
        LdK (match hi, mx with | none, none => some (len : Int) | none, some _ => none | some l, _ => intOf? (ρ l)) (fun hh =>
        LdK (match mx with | none => some (len : Int) | some l => intOf? (ρ l)) (fun mm =>
          Req (0 ≤ l ∧ l ≤ hh ∧ hh ≤ mm ∧ mm ≤ len) (k (.vec ((cs.drop (l.toNat * size)).take ((hh.toNat - l.toNat) * size)) (hh.toNat - l.toNat) none) [] [])))))
      | .slice e, .nils =>
        match mx with
        | some _ => False
        | none =>
        LdK (sizeT Γ e) (fun _ =>
        LdK (match lo with | none => some 0 | some l => intOf? (ρ l)) (fun l =>
        LdK (match hi with | none => some (0 : Int) | some l => intOf? (ρ l)) (fun hh =>
          Req (l = 0 ∧ hh = 0) (k .nils [] []))))
      | .arr n e, .iptr cs =>
        match mx with
        | some _ => False
        | none =>
        LdK (sizeT Γ e) (fun size =>
        LdK (match lo with | none => some 0 | some l => intOf? (ρ l)) (fun l =>
        LdK (match hi with | none => some (n : Int) | some l => intOf? (ρ l)) (fun hh =>
          Req (0 ≤ l ∧ l ≤ hh ∧ hh ≤ n ∧ n * size ≤ cs.length) (k (.vec ((cs.drop (l.toNat * size)).take ((hh.toNat - l.toNat) * size)) (hh.toNat - l.toNat) none) [] []))))
      | .arr n e, .ptr i o =>
        match mx with
        | some _ => False
        | none =>
        LdK (sizeT Γ e) (fun size =>
        LdK (match lo with | none => some 0 | some l => intOf? (ρ l)) (fun l =>
        LdK (match hi with | none => some (n : Int) | some l => intOf? (ρ l)) (fun hh =>
          Req (0 ≤ l ∧ l ≤ hh ∧ hh ≤ n) (match decide (l < n) with
            | true => k (.row i (o + l.toNat * size) (hh.toNat - l.toNat) (n - l.toNat)) [] []
            | false => k (.row i o (hh.toNat - l.toNat) (n - l.toNat)) [] []))))
      | _, _ => False
  | .extract x i => match ρ x with | .tup vs => LdK (getO vs i) (fun v => k v [] []) | _ => False
  | .typeAssert x _ asserted ok =>
    match ρ x, Γ asserted with
    | .ifc t v, some ti =>
      match ti.kind, Nat.beq t asserted with
      | .iface, _ => False
      | _, true => match ok with | true => k (.tup [v, .bool true]) [] [] | false => k v [] []
      | _, false => match ok with | true => k (.tup [ofV ti.zero, .bool false]) [] [] | false => False
    | _, _ => False
  | .makeSlice t l c =>
    match Γ t, ρ l, ρ c with
    | some ti, .int .i64 n, .int .i64 m =>
      match ti.kind with
      | .slice e => match Γ e with
        | some te => match Nat.beq (lenN (cellsOf (ofV te.zero))) te.size with
          | true => Req (0 ≤ n ∧ n ≤ m ∧ m ≤ 140737488355328 ∧ (te.bytes : Int) * m ≤ 281474976710656) (k (.row nid 0 n.toNat m.toNat) [(nid, .var (repL m.toNat (cellsOf (ofV te.zero))) e)] [])
          | false => False
        | none => False
      | _ => False
    | _, _, _ => False
  | _ => False
end Go.Abs
namespace Go.Abs
open Go.RowKit
structure Same3 (w w' : World) : Prop where
  os : w'.os = w.os
  tape : w'.tape = w.tape
  output : w'.output = w.output
theorem Same3.refl (w : World) : Same3 w w := ⟨rfl, rfl, rfl⟩
theorem Same3.trans {a b c : World} (h : Same3 a b) (k : Same3 b c) : Same3 a c := ⟨k.os.trans h.os, k.tape.trans h.tape, k.output.trans h.output⟩
def immOK (imm : Imm) (w : World) : Prop := ∀ b o u, imm b o = some u → w.cell? ⟨b, o, none⟩ = some u
def closedEnv (imm : Imm) : Env :=
  { blk := fun _ => none, tok := fun _ => none, fp := fun _ _ => False, cbv := fun _ => none, cbJ := fun _ _ _ _ _ _ => False, imm := imm, keep := fun _ => False, base := default, rnd := none, marks := [] }
def CallOut (P : Program) (f : FuncId) (args : Array Value) (w : World) (post : Ending → World → Prop) : Prop :=
  ((callFunc f args).run P w = .ok (.enter f args) w ∧ Calls P f args w post) ∨
  (∃ v w', (callFunc f args).run P w = .ok (.value v) w' ∧ post (.returned v) w')
theorem CallOut.mono {P : Program} {f : FuncId} {args : Array Value} {w : World} {R R' : Ending → World → Prop} (h : CallOut P f args w R) (hr : ∀ e w', R e w' → R' e w') : CallOut P f args w R' := by
  rcases h with ⟨h1, h2⟩ | ⟨v, w', h1, h2⟩
  · exact .inl ⟨h1, h2.mono hr⟩
  · exact .inr ⟨v, w', h1, hr _ _ h2⟩
def Invoke (P : Program) (fv : Value) (args : List Value) (w : World) (post : Ending → World → Prop) : Prop :=
  (∃ f first caps, fv = .func (.func f) first caps ∧ CallOut P f (first ++ args.toArray ++ caps) w post) ∨
  (∃ l fn tmps assign body, fv = .func (.yield l) #[] #[] ∧ (Instr.yield l args.toArray).run P w = .ok (.round l fn tmps assign body) w ∧ RoundIn Fence.wide 0 P l fn tmps assign body w post)
theorem Invoke.mono {P : Program} {fv : Value} {args : List Value} {w : World} {R R' : Ending → World → Prop} (h : Invoke P fv args w R) (hr : ∀ e w', R e w' → R' e w') : Invoke P fv args w R' := by
  rcases h with ⟨f, a, b, h1, h2⟩ | ⟨l, fn, t, x, y, h1, h2, h3⟩
  · exact .inl ⟨f, a, b, h1, h2.mono hr⟩
  · exact .inr ⟨l, fn, t, x, y, h1, h2, h3.mono hr⟩
abbrev CbJ := List (List AV) → Bool → (Nat → Prop) → Imm → World → Prop
structure CbOK (P : Program) (fv : Value) (acc : List (List AV) → List AV → Prop) (J : CbJ) : Prop where
  isfn : ∃ fn a b, fv = .func fn a b ∧ ∀ n, fn ≠ .method n
  own : ∀ seen st fp imm w, J seen st fp imm w → ∀ b, fp b → b < w.heap.size
  loc : ∀ seen st fp imm w imm' w', J seen st fp imm w → (∀ b, fp b → w'.heap[b]? = w.heap[b]?) → (∀ b, fp b → ∀ o, imm' b o = imm b o) → (∀ b o u, imm b o = some u → imm' b o = some u) → immOK imm' w' → w.heap.size ≤ w'.heap.size → Same3 w w' → J seen st fp imm' w'
  call : ∀ seen fp imm w args args', acc seen args → J seen false fp imm w → immOK imm w → VRL (closedEnv imm) args args' → Invoke P fv args' w fun e w2 =>
    ∃ st fp2 imm2, e = .returned (.bool (!st)) ∧ J (seen ++ [args]) st fp2 imm2 w2 ∧ (∀ b o u, imm b o = some u → imm2 b o = some u) ∧ immOK imm2 w2 ∧
      (∀ b, b < w.heap.size → ¬ fp b → w2.heap[b]? = w.heap[b]?) ∧ (∀ b, b < w.heap.size → ¬ fp b → ∀ o, imm2 b o = imm b o) ∧ (∀ b, fp2 b → fp b ∨ w.heap.size ≤ b) ∧ w.heap.size ≤ w2.heap.size ∧ Same3 w w2
def ownsC (E : Env) (i : Nat) : Chunk → Nat → Prop
  | .var _ _, b => E.blk i = some b
  | .tok _ _ _, b => ∃ F v, E.tok i = some (F, v) ∧ v.ownBlock = some b
  | .cb _ _ _, b => E.fp i b
  | _, _ => False
def CR (P : Program) (E : Env) (w : World) (i : Nat) : Chunk → Prop
  | .var cs t => ∃ b us, E.blk i = some b ∧ w.heap[b]? = some (.cells us.toArray t (0, 0)) ∧ VRL E cs us ∧ (∀ o, E.imm b o = none) ∧ E.tok i = none
  | .ro cs => ∃ b, E.blk i = some b ∧ VRI E cs b 0
  | .tok F t sz => ∃ v xs, E.tok i = some (F, v) ∧ w.ownsRow 0 t sz v F xs ∧ (∀ b, v.ownBlock = some b → ∀ o u, E.imm b o = some u → xs[o]? = some u)
  | .cb acc seen st => ∃ fv, E.cbv i = some fv ∧ CbOK P fv acc (E.cbJ i) ∧ E.cbJ i seen st (E.fp i) E.imm w
  | .dead => True
  | .unborn => E.blk i = none ∧ E.tok i = none ∧ E.cbv i = none
structure R0 (S : Seat) (E : Env) (h : Heap) (w : World) : Prop where
  ch : ∀ i c, h[i]? = some c → CR S.P E w i c
  glob : ∀ g cs, S.G g = some cs → VRI E cs g 0
  non : ∀ i, h[i]? = none → E.blk i = none ∧ E.tok i = none ∧ E.cbv i = none
  lt : ∀ i c b, h[i]? = some c → ownsC E i c b → b < w.heap.size
  disj : ∀ i j c d b, h[i]? = some c → h[j]? = some d → ownsC E i c b → ownsC E j d b → i = j
  imm : immOK E.imm w
  rnd : ∀ l, E.rnd = some l → (∃ r, w.heap[l]? = some (.loop r)) ∧ ∀ i c, h[i]? = some c → ¬ ownsC E i c l
  mks : ∀ D ∈ E.marks, w.heap[D]? = some (.deferred (some [])) ∧ ¬ E.keep D ∧ ∀ i c, h[i]? = some c → ¬ ownsC E i c D
structure KP (E : Env) (h : Heap) (w : World) : Prop where
  same : ∀ b, E.keep b → w.heap[b]? = E.base.heap[b]?
  keep : ∀ i c b, h[i]? = some c → ownsC E i c b → ¬ E.keep b
  size : E.base.heap.size ≤ w.heap.size
  klt : ∀ b, E.keep b → b < E.base.heap.size
  s3 : Same3 E.base w
structure R (S : Seat) (E : Env) (h : Heap) (w : World) : Prop where
  r0 : R0 S E h w
  kp : KP E h w
inductive AEnd where
  | ret (v : AV)
  | pan (v : AV)
def EndR (E : Env) : AEnd → Ending → Prop
  | .ret a, e => ∃ v, e = .returned v ∧ VR E a v
  | .pan a, e => ∃ v, e = .panicked [{ v, recovered := false }] ∧ VR E a v
def ACalls (S : Seat) (f : Nat) (args : List AV) (h : Heap) (Q : AEnd → Heap → Prop) : Prop :=
  ∀ (E : Env) (w : World) (args' : List Value), E.marks = [] → E.rnd = none → R S E h w → VRL E args args' →
    CallOut S.P f args'.toArray w fun e w' => ∃ E' h' r, Ext E E' ∧ E'.marks = [] ∧ R S E' h' w' ∧ EndR E' r e ∧ Q r h'
theorem ACalls.mono {S : Seat} {f : Nat} {args : List AV} {h : Heap} {Q Q' : AEnd → Heap → Prop} (hc : ACalls S f args h Q) (hq : ∀ r h', Q r h' → Q' r h') : ACalls S f args h Q' :=
  fun E w args' hm hn hr ha => (hc E w args' hm hn hr ha).mono fun _ _ ⟨E', h', r, h1, h2, h3, h4, h5⟩ => ⟨E', h', r, h1, h2, h3, h4, hq _ _ h5⟩
structure Apart (E : Env) (h : Heap) (w : World) (imm' : Imm) (w' : World) : Prop where
  own : ∀ i c b, h[i]? = some c → ownsC E i c b → w'.heap[b]? = w.heap[b]?
  ownI : ∀ i c b, h[i]? = some c → ownsC E i c b → ∀ o, imm' b o = E.imm b o
  imm : ∀ b o u, E.imm b o = some u → imm' b o = some u
  ok : immOK imm' w'
  size : w.heap.size ≤ w'.heap.size
  s3 : Same3 w w'
  rnd : ∀ l, E.rnd = some l → w'.heap[l]? = w.heap[l]?
  mks : ∀ D ∈ E.marks, w'.heap[D]? = w.heap[D]?
def Env.withImm (E : Env) (imm' : Imm) : Env := { E with imm := imm' }
theorem VExt.withImm {E : Env} {imm' : Imm} (h : ∀ b o u, E.imm b o = some u → imm' b o = some u) : VExt E (E.withImm imm') :=
  ⟨fun _ _ h => h, fun _ F v h => ⟨F, v, h, .inr ⟨rfl, rfl⟩⟩, fun _ _ h => h, h⟩
theorem ownsRow_of_same {w w' : World} {t sz : Nat} {v : Value} {n : Nat} {xs : List Value} (h : w.ownsRow 0 t sz v n xs) (hs : ∀ b, v.ownBlock = some b → w'.heap[b]? = w.heap[b]?) : w'.ownsRow 0 t sz v n xs := by
  refine ⟨h.1, ?_⟩
  rcases h.2 with hn | ⟨g, cap, cur, rfl, hb, hg, rest⟩
  · exact .inl hn
  · exact .inr ⟨g, cap, cur, rfl, hb, by rw [hs g rfl]; exact hg, rest⟩
theorem CR.move {P : Program} {E E' : Env} {w w' : World} {i : Nat} {c : Chunk} (hv : VExt E E') (hb : E'.blk i = E.blk i) (ht : E'.tok i = E.tok i) (hc1 : E'.cbv i = E.cbv i) (hc2 : E'.cbJ i = E.cbJ i) (hf : E'.fp i = E.fp i)
    (own : ∀ b, ownsC E i c b → w'.heap[b]? = w.heap[b]?) (ownI : ∀ b, ownsC E i c b → ∀ o, E'.imm b o = E.imm b o) (ok : immOK E'.imm w') (size : w.heap.size ≤ w'.heap.size) (s3 : Same3 w w')
    (hc : CR P E w i c) : CR P E' w' i c := by
  cases c with
  | var cs t =>
    obtain ⟨b, us, h1, h2, h3, h5, h6⟩ := hc
    exact ⟨b, us, by rw [hb]; exact h1, by rw [own b h1]; exact h2, h3.mono hv, fun o => (by rw [ownI b h1]; exact h5 o), by rw [ht]; exact h6⟩
  | ro cs =>
    obtain ⟨b, h1, h2⟩ := hc
    exact ⟨b, by rw [hb]; exact h1, h2.mono hv⟩
  | tok F t sz =>
    obtain ⟨v, xs, h1, h2, h4⟩ := hc
    refine ⟨v, xs, by rw [ht]; exact h1, ownsRow_of_same h2 fun b hb => own b ⟨F, v, h1, hb⟩, fun b hb o u hu => ?_⟩
    rw [ownI b ⟨F, v, h1, hb⟩] at hu
    exact h4 b hb o u hu
  | cb seen st =>
    obtain ⟨fv, h1, h2, h3⟩ := hc
    refine ⟨fv, by rw [hc1]; exact h1, by rw [hc2]; exact h2, ?_⟩
    rw [hc2, hf]
    exact h2.loc _ _ _ _ _ _ _ h3 (fun b hb => own b hb) (fun b hb => ownI b hb) hv.imm ok size s3
  | dead => exact trivial
  | unborn => exact ⟨by rw [hb]; exact hc.1, by rw [ht]; exact hc.2.1, by rw [hc1]; exact hc.2.2⟩
theorem CR.apart {P : Program} {E : Env} {h : Heap} {w : World} {imm' : Imm} {w' : World} (ha : Apart E h w imm' w') {i : Nat} {c : Chunk} (hi : h[i]? = some c) (hc : CR P E w i c) : CR P (E.withImm imm') w' i c :=
  hc.move (VExt.withImm ha.imm) rfl rfl rfl rfl rfl (fun b hb => ha.own i c b hi hb) (fun b hb => ha.ownI i c b hi hb) ha.ok ha.size ha.s3
theorem ownsC_withImm (E : Env) (imm' : Imm) (i : Nat) (c : Chunk) (b : Nat) : ownsC (E.withImm imm') i c b = ownsC E i c b := by cases c <;> rfl
theorem R0.apart {S : Seat} {E : Env} {h : Heap} {w : World} {imm' : Imm} {w' : World} (hr : R0 S E h w) (ha : Apart E h w imm' w') : R0 S (E.withImm imm') h w' where
  glob g cs hg := (hr.glob g cs hg).mono (VExt.withImm ha.imm)
  ch i c hi := (hr.ch i c hi).apart ha hi
  non := hr.non
  lt i c b hi ho := Nat.lt_of_lt_of_le (hr.lt i c b hi (by rwa [ownsC_withImm] at ho)) ha.size
  disj i j c d b hi hj h1 h2 := hr.disj i j c d b hi hj (by rwa [ownsC_withImm] at h1) (by rwa [ownsC_withImm] at h2)
  imm := ha.ok
  rnd l hl := ⟨by rw [ha.rnd l hl]; exact (hr.rnd l hl).1, fun i c hi ho => (hr.rnd l hl).2 i c hi (by rwa [ownsC_withImm] at ho)⟩
  mks D hD := ⟨by rw [ha.mks D hD]; exact (hr.mks D hD).1, (hr.mks D hD).2.1, fun i c hi ho => (hr.mks D hD).2.2 i c hi (by rwa [ownsC_withImm] at ho)⟩
def put : Heap → Nat → Chunk → Heap
  | [], 0, c => [c]
  | [], i + 1, c => .unborn :: put [] i c
  | _ :: l, 0, c => c :: l
  | a :: l, i + 1, c => a :: put l i c
def putK : Heap → Nat → Chunk → (Heap → Prop) → Prop
  | [], 0, c, k => k [c]
  | [], i + 1, c, k => putK [] i c (fun l => k (.unborn :: l))
  | _ :: l, 0, c, k => k (c :: l)
  | a :: l, i + 1, c, k => putK l i c (fun l' => k (a :: l'))
theorem putK_eq : ∀ (h : Heap) (i : Nat) (c : Chunk) (k : Heap → Prop), putK h i c k = k (put h i c)
  | [], 0, c, k => rfl
  | [], i + 1, c, k => by simp only [putK, put, putK_eq [] i c]
  | _ :: l, 0, c, k => rfl
  | a :: l, i + 1, c, k => by simp only [putK, put, putK_eq l i c]
theorem put_same : ∀ (h : Heap) (i : Nat) (c : Chunk), (put h i c)[i]? = some c
  | [], 0, c => rfl
  | [], i + 1, c => by simp [put, put_same [] i c]
  | _ :: l, 0, c => rfl
  | a :: l, i + 1, c => by simp [put, put_same l i c]
theorem put_ne : ∀ (h : Heap) (i : Nat) (c : Chunk) (j : Nat) (d : Chunk), j ≠ i → (put h i c)[j]? = some d → h[j]? = some d ∨ (h[j]? = none ∧ d = .unborn)
  | [], 0, c, j, d, hne, hd => by
    cases j with
    | zero => exact absurd rfl hne
    | succ j => simp [put] at hd
  | [], i + 1, c, j, d, hne, hd => by
    cases j with
    | zero => simp [put] at hd; exact .inr ⟨rfl, hd.symm⟩
    | succ j =>
      simp [put] at hd
      rcases put_ne [] i c j d (by omega) hd with h | h
      · simp at h
      · exact .inr ⟨by simp, h.2⟩
  | a :: l, 0, c, j, d, hne, hd => by
    cases j with
    | zero => exact absurd rfl hne
    | succ j => simp [put] at hd; exact .inl (by simpa using hd)
  | a :: l, i + 1, c, j, d, hne, hd => by
    cases j with
    | zero => simp [put] at hd; exact .inl (by simpa using hd)
    | succ j =>
      simp [put] at hd
      simpa using put_ne l i c j d (by omega) hd
theorem put_old : ∀ (h : Heap) (i : Nat) (c : Chunk) (j : Nat) (d : Chunk), j ≠ i → h[j]? = some d → (put h i c)[j]? = some d
  | [], i, c, j, d, hne, hd => by simp at hd
  | a :: l, 0, c, j, d, hne, hd => by
    cases j with
    | zero => exact absurd rfl hne
    | succ j => simpa [put] using hd
  | a :: l, i + 1, c, j, d, hne, hd => by
    cases j with
    | zero => simpa [put] using hd
    | succ j => simp at hd; simpa [put] using put_old l i c j d (by omega) hd
theorem put_none : ∀ (h : Heap) (i : Nat) (c : Chunk) (j : Nat), (put h i c)[j]? = none → j ≠ i ∧ h[j]? = none
  | h, i, c, j, hn => by
    have hne : j ≠ i := fun e => by subst e; rw [put_same] at hn; cases hn
    refine ⟨hne, ?_⟩
    cases hj : h[j]? with
    | none => rfl
    | some d => rw [put_old h i c j d hne hj] at hn; cases hn
theorem put_append (h : Heap) (c : Chunk) : put h h.length c = h ++ [c] := by
  induction h with
  | nil => rfl
  | cons a l ih => simp [put, ih]
theorem put_set : ∀ (h : Heap) (i : Nat) (c : Chunk), i < h.length → put h i c = h.set i c
  | [], i, c, hi => by simp at hi
  | a :: l, 0, c, _ => rfl
  | a :: l, i + 1, c, hi => by simp at hi; simp [put, put_set l i c hi]
structure PutOK (S : Seat) (E : Env) (h : Heap) (w : World) (i : Nat) (c : Chunk) (E' : Env) (w' : World) : Prop where
  v : VExt E E'
  blk : ∀ j, j ≠ i → E'.blk j = E.blk j
  tok : ∀ j, j ≠ i → E'.tok j = E.tok j
  cbv : ∀ j, j ≠ i → E'.cbv j = E.cbv j
  cbJ : ∀ j, j ≠ i → E'.cbJ j = E.cbJ j
  fp : ∀ j, j ≠ i → E'.fp j = E.fp j
  own : ∀ j d b, j ≠ i → h[j]? = some d → ownsC E j d b → w'.heap[b]? = w.heap[b]?
  ownI : ∀ j d b, j ≠ i → h[j]? = some d → ownsC E j d b → ∀ o, E'.imm b o = E.imm b o
  ok : immOK E'.imm w'
  cr : CR S.P E' w' i c
  new : ∀ b, ownsC E' i c b → b < w'.heap.size ∧ ¬ E.keep b ∧ (∀ j d, j ≠ i → h[j]? = some d → ¬ ownsC E j d b) ∧ E.rnd ≠ some b ∧ b ∉ E.marks
  kp : ∀ b, E.keep b → w'.heap[b]? = w.heap[b]?
  size : w.heap.size ≤ w'.heap.size
  s3 : Same3 w w'
  hrnd : ∀ l, E.rnd = some l → w'.heap[l]? = w.heap[l]?
  hmks : ∀ D ∈ E.marks, w'.heap[D]? = w.heap[D]?
  keep : E'.keep = E.keep
  base : E'.base = E.base
  rnd : E'.rnd = E.rnd
  marks : E'.marks = E.marks
theorem ownsC_congr {E E' : Env} {i : Nat} (hb : E'.blk i = E.blk i) (ht : E'.tok i = E.tok i) (hf : E'.fp i = E.fp i) (c : Chunk) (b : Nat) : ownsC E' i c b ↔ ownsC E i c b := by
  cases c <;> simp [ownsC, hb, ht, hf]
theorem R.step {S : Seat} {E : Env} {h : Heap} {w : World} {i : Nat} {c : Chunk} {E' : Env} {w' : World} (hr : R S E h w) (hp : PutOK S E h w i c E' w') : R S E' (put h i c) w' := by
  have oc : ∀ j, j ≠ i → ∀ d b, ownsC E' j d b ↔ ownsC E j d b := fun j hj d b => ownsC_congr (hp.blk j hj) (hp.tok j hj) (hp.fp j hj) d b
  have nb : ∀ (j : Nat) (b : Nat), ¬ ownsC E' j .unborn b := fun j b ho => ho
  refine ⟨⟨?_, fun g cs hg => (hr.r0.glob g cs hg).mono hp.v, ?_, ?_, ?_, hp.ok, ?_, ?_⟩, ⟨?_, ?_, ?_, ?_, ?_⟩⟩
  · intro j d hd
    by_cases hj : j = i
    · subst hj; rw [put_same] at hd; cases hd; exact hp.cr
    · rcases put_ne h i c j d hj hd with hd2 | ⟨hd2, rfl⟩
      · exact (hr.r0.ch j d hd2).move hp.v (hp.blk j hj) (hp.tok j hj) (hp.cbv j hj) (hp.cbJ j hj) (hp.fp j hj) (fun b hb => hp.own j d b hj hd2 hb) (fun b hb => hp.ownI j d b hj hd2 hb) hp.ok hp.size hp.s3
      · obtain ⟨a1, a2, a3⟩ := hr.r0.non j hd2
        exact ⟨by rw [hp.blk j hj]; exact a1, by rw [hp.tok j hj]; exact a2, by rw [hp.cbv j hj]; exact a3⟩
  · intro j hn
    obtain ⟨hj, hn⟩ := put_none h i c j hn
    obtain ⟨a1, a2, a3⟩ := hr.r0.non j hn
    exact ⟨by rw [hp.blk j hj]; exact a1, by rw [hp.tok j hj]; exact a2, by rw [hp.cbv j hj]; exact a3⟩
  · intro j d b hd ho
    by_cases hj : j = i
    · subst hj; rw [put_same] at hd; cases hd; exact (hp.new b ho).1
    · rcases put_ne h i c j d hj hd with hd2 | ⟨hd2, rfl⟩
      · exact Nat.lt_of_lt_of_le (hr.r0.lt j d b hd2 ((oc j hj d b).1 ho)) hp.size
      · exact (nb j b ho).elim
  · intro j k d e b hd he ho1 ho2
    by_cases hj : j = i
    · by_cases hk : k = i
      · rw [hj, hk]
      · rcases put_ne h i c k e hk he with he2 | ⟨he2, rfl⟩
        · subst hj; rw [put_same] at hd; cases hd
          exact ((hp.new b ho1).2.2.1 k e hk he2 ((oc k hk e b).1 ho2)).elim
        · exact (nb k b ho2).elim
    · rcases put_ne h i c j d hj hd with hd2 | ⟨hd2, rfl⟩
      · by_cases hk : k = i
        · subst hk; rw [put_same] at he; cases he
          exact ((hp.new b ho2).2.2.1 j d hj hd2 ((oc j hj d b).1 ho1)).elim
        · rcases put_ne h i c k e hk he with he2 | ⟨he2, rfl⟩
          · exact hr.r0.disj j k d e b hd2 he2 ((oc j hj d b).1 ho1) ((oc k hk e b).1 ho2)
          · exact (nb k b ho2).elim
      · exact (nb j b ho1).elim
  · intro l hl
    rw [hp.rnd] at hl
    refine ⟨by rw [hp.hrnd l hl]; exact (hr.r0.rnd l hl).1, fun j d hd ho => ?_⟩
    by_cases hj : j = i
    · subst hj; rw [put_same] at hd; cases hd; exact (hp.new l ho).2.2.2.1 hl
    · rcases put_ne h i c j d hj hd with hd2 | ⟨hd2, rfl⟩
      · exact (hr.r0.rnd l hl).2 j d hd2 ((oc j hj d l).1 ho)
      · exact nb j l ho
  · intro D hD
    rw [hp.marks] at hD
    refine ⟨by rw [hp.hmks D hD]; exact (hr.r0.mks D hD).1, by rw [hp.keep]; exact (hr.r0.mks D hD).2.1, fun j d hd ho => ?_⟩
    by_cases hj : j = i
    · subst hj; rw [put_same] at hd; cases hd; exact (hp.new D ho).2.2.2.2 hD
    · rcases put_ne h i c j d hj hd with hd2 | ⟨hd2, rfl⟩
      · exact (hr.r0.mks D hD).2.2 j d hd2 ((oc j hj d D).1 ho)
      · exact nb j D ho
  · intro b hb
    rw [hp.keep] at hb
    rw [hp.base, hp.kp b hb]; exact hr.kp.same b hb
  · intro j d b hd ho
    rw [hp.keep]
    by_cases hj : j = i
    · subst hj; rw [put_same] at hd; cases hd; exact (hp.new b ho).2.1
    · rcases put_ne h i c j d hj hd with hd2 | ⟨hd2, rfl⟩
      · exact hr.kp.keep j d b hd2 ((oc j hj d b).1 ho)
      · exact (nb j b ho).elim
  · rw [hp.base]; exact Nat.le_trans hr.kp.size hp.size
  · intro b hb; rw [hp.keep] at hb; rw [hp.base]; exact hr.kp.klt b hb
  · rw [hp.base]; exact hr.kp.s3.trans hp.s3
end Go.Abs
namespace Go.Abs
open Go.RowKit
theorem getO_eq {α : Type} : ∀ (l : List α) (i : Nat), getO l i = l[i]?
  | [], i => by simp [getO]
  | a :: l, 0 => rfl
  | a :: l, i + 1 => by simp [getO, getO_eq l i]
theorem getT_eq : ∀ (l : List AV) (i : Nat), getT l i = (l[i]?).getD .undef
  | [], i => by simp [getT]
  | a :: l, 0 => rfl
  | a :: l, i + 1 => by simp [getT, getT_eq l i]
theorem setK_eq {α : Type} : ∀ (l : List α) (i : Nat) (v : α) (k : List α → Prop), setK l i v k = k (l.set i v)
  | [], i, v, k => by simp [setK]
  | a :: l, 0, v, k => rfl
  | a :: l, i + 1, v, k => by simp [setK, setK_eq l i v]
theorem lenN_eq {α : Type} : ∀ (l : List α), lenN l = l.length
  | [] => rfl
  | a :: l => by simp [lenN, lenN_eq l]
theorem dropL_eq : ∀ (l : List AV) (n : Nat), dropL l n = l.drop n
  | l, 0 => by cases l <;> rfl
  | [], n + 1 => rfl
  | a :: l, n + 1 => by simp [dropL, dropL_eq l n]
theorem takeK_some : ∀ {l : List AV} {n : Nat} {r : List AV}, takeK l n = some r → r = l.take n ∧ n ≤ l.length
  | l, 0, r, h => by cases l <;> (simp [takeK] at h; simp [h])
  | [], n + 1, r, h => by simp [takeK] at h
  | a :: l, n + 1, r, h => by
    simp only [takeK] at h
    split at h
    · rename_i r' hr
      cases h
      obtain ⟨h1, h2⟩ := takeK_some hr
      exact ⟨by simp [h1], by simp; omega⟩
    · cases h
theorem takeK_of : ∀ {l : List AV} {n : Nat}, n ≤ l.length → takeK l n = some (l.take n)
  | l, 0, _ => by cases l <;> rfl
  | [], n + 1, h => by simp at h
  | a :: l, n + 1, h => by simp [takeK, takeK_of (l := l) (n := n) (by simpa using h)]
theorem sub_some {l : List AV} {off n : Nat} {r : List AV} (h : sub l off n = some r) : r = (l.drop off).take n ∧ r.length = n := by
  obtain ⟨h1, h2⟩ := takeK_some h
  rw [dropL_eq] at h1 h2
  exact ⟨h1, by rw [h1, List.length_take]; omega⟩
theorem sub_of {l : List AV} {off n : Nat} (h : off + n ≤ l.length ∨ n = 0) : sub l off n = some ((l.drop off).take n) := by
  unfold sub
  rw [dropL_eq]
  exact takeK_of (by rw [List.length_drop]; omega)
def splice : List AV → Nat → List AV → List AV
  | cs, _, [] => cs
  | cs, o, v :: vs => splice (cs.set o v) (o + 1) vs
theorem spliceK_eq : ∀ (cs : List AV) (o : Nat) (vs : List AV) (k : List AV → Prop), spliceK cs o vs k = k (splice cs o vs)
  | cs, o, [], k => by simp [spliceK, splice]
  | cs, o, v :: vs, k => by simp [spliceK, splice, setK_eq, spliceK_eq _ (o + 1) vs]
def spliceV : List Value → Nat → List Value → List Value
  | cs, _, [] => cs
  | cs, o, v :: vs => spliceV (cs.set o v) (o + 1) vs
theorem VRL.splice {E : Env} : ∀ {vs : List AV} {ws : List Value} {cs : List AV} {us : List Value} (o : Nat), VRL E cs us → VRL E vs ws → VRL E (splice cs o vs) (spliceV us o ws)
  | [], ws, cs, us, o, h, k => by simp only [VRL] at k; subst k; exact h
  | v :: vs, ws, cs, us, o, h, k => by
    simp only [VRL] at k
    obtain ⟨w, ws', rfl, hw, hr⟩ := k
    exact VRL.splice (o + 1) (VRL.set o h hw) hr
theorem spliceV_eq : ∀ (ws us : List Value) (o : Nat), o + ws.length ≤ us.length → spliceV us o ws = us.take o ++ ws ++ us.drop (o + ws.length)
  | [], us, o, _ => by simp [spliceV]
  | w :: ws, us, o, h => by
    simp at h
    rw [spliceV, spliceV_eq ws (us.set o w) (o + 1) (by simp; omega)]
    have hlt : o < us.length := by omega
    have e1 : (us.set o w).take (o + 1) = us.take o ++ [w] := by
      rw [List.take_succ_eq_append_getElem (by simpa using hlt)]
      simp [List.take_set_of_le]
    have e2 : (us.set o w).drop (o + 1 + ws.length) = us.drop (o + 1 + ws.length) := by
      rw [List.drop_set]; rw [if_pos (by omega)]
    rw [e1, e2]
    simp [Nat.add_assoc, Nat.add_comm 1]
theorem kEq_eq {a b : IntKind} (h : kEq a b = true) : a = b := by
  cases a <;> cases b <;> first | rfl | (simp [kEq, kidx] at h)
theorem natLe_eq {a b : Nat} : natLe a b = true ↔ a ≤ b := by simp [natLe]
def aggP (P : Program) (t : TypeId) : Bool := match P.underlying t with | some (.struct _) => true | some (.array _ _) => true | _ => false
def fieldRow (P : Program) (f : Field) : Nat × Nat × Bool := (f.offset, P.cellsOf f.type, aggP P f.type)
def kindOKB (P : Program) (t : TypeId) (k : TK) : Bool :=
  match k, P.underlying t with
  | .int a, some (.int b) => kEq a b
  | .bool, some .bool => true
  | .str, some .string => true
  | .struct fs, some (.struct F) => (F.toList.map (fieldRow P) == fs) && F.toList.all (fun f => (P.info? f.type).isSome && (P.underlying f.type).isSome)
  | .arr n e, some (.array m e') => Nat.beq n m && Nat.beq e e'
  | .slice e, some (.slice e') => Nat.beq e e'
  | .ptr, some (.pointer _) => true
  | .func, some (.func _ _ _) => true
  | .iface, some (.interface _) => true
  | .other, some d => match d with | .struct _ => false | .array _ _ => false | .interface _ => false | .named _ _ => true | _ => true
  | _, _ => false
structure TIok (P : Program) (t : TypeId) (ti : TI) : Prop where
  kind : kindOKB P t ti.kind = true
  info : (P.info? t).map (fun i => (i.size, i.bytes, i.zero)) = some (ti.size, ti.bytes, some ti.zero)
  zsize : ti.zero.cells.size = ti.size
structure FlatOK (P : Program) (t : TypeId) (ks : List Nat) : Prop where
  guard : P.eqGuardType P.depth t = false
  eq : ∀ (E : Env) (xs ys : List AV) (r : Bool) (us ws : List Value) (w : World), cellsEq xs ys = some r → VRL E xs us → VRL E ys ws → shapeB ks xs = true → shapeB ks ys = true →
    (Op.equal t (.agg us.toArray) (.agg ws.toArray)).run P w = .ok r w
structure SeatOK (S : Seat) : Prop where
  ty : ∀ t ti, S.Γ t = some ti → TIok S.P t ti
  mixed : S.P.follows .mixedOrders = true
  flat : ∀ t ks, S.flat t = some ks → FlatOK S.P t ks
section
variable {P : Program} {t : TypeId} {ti : TI}
theorem TIok.info' (h : TIok P t ti) : ∃ i, P.info? t = some i ∧ i.size = ti.size ∧ i.bytes = ti.bytes ∧ i.zero = some ti.zero := by
  have := h.info
  cases hi : P.info? t with
  | none => simp [hi] at this
  | some i => simp [hi] at this; exact ⟨i, rfl, this.1, this.2.1, this.2.2⟩
theorem TIok.int (h : TIok P t ti) {k : IntKind} (hk : ti.kind = .int k) : P.underlying t = some (.int k) := by
  have := h.kind; rw [hk] at this; unfold kindOKB at this
  split at this <;> simp_all
  rename_i h1 h2; rw [kEq_eq this]
theorem TIok.bool (h : TIok P t ti) (hk : ti.kind = .bool) : P.underlying t = some .bool := by
  have := h.kind; rw [hk] at this; unfold kindOKB at this
  split at this <;> simp_all
theorem TIok.str (h : TIok P t ti) (hk : ti.kind = .str) : P.underlying t = some .string := by
  have := h.kind; rw [hk] at this; unfold kindOKB at this
  split at this <;> simp_all
theorem TIok.struct (h : TIok P t ti) {fs : List (Nat × Nat × Bool)} (hk : ti.kind = .struct fs) : ∃ F : Array Field, P.underlying t = some (.struct F) ∧ F.toList.map (fieldRow P) = fs ∧ ∀ f ∈ F.toList, (∃ i, P.info? f.type = some i) ∧ ∃ d, P.underlying f.type = some d := by
  have := h.kind; rw [hk] at this; unfold kindOKB at this
  split at this
  case h_4 gs F h1 h2 =>
    cases h1
    simp only [Bool.and_eq_true, beq_iff_eq, List.all_eq_true] at this
    exact ⟨F, h2, this.1, fun f hf => ⟨Option.isSome_iff_exists.1 (this.2 f hf).1, Option.isSome_iff_exists.1 (this.2 f hf).2⟩⟩
  all_goals simp_all
theorem TIok.arr (h : TIok P t ti) {n e : Nat} (hk : ti.kind = .arr n e) : P.underlying t = some (.array n e) := by
  have := h.kind; rw [hk] at this; unfold kindOKB at this
  split at this <;> simp_all
theorem TIok.slice (h : TIok P t ti) {e : Nat} (hk : ti.kind = .slice e) : P.underlying t = some (.slice e) := by
  have := h.kind; rw [hk] at this; unfold kindOKB at this
  split at this <;> simp_all
theorem TIok.ptr (h : TIok P t ti) (hk : ti.kind = .ptr) : ∃ e, P.underlying t = some (.pointer e) := by
  have := h.kind; rw [hk] at this; unfold kindOKB at this
  split at this <;> simp_all
theorem TIok.func (h : TIok P t ti) (hk : ti.kind = .func) : ∃ a b c, P.underlying t = some (.func a b c) := by
  have := h.kind; rw [hk] at this; unfold kindOKB at this
  split at this <;> simp_all
theorem TIok.iface (h : TIok P t ti) (hk : ti.kind = .iface) : ∃ a, P.underlying t = some (.interface a) := by
  have := h.kind; rw [hk] at this; unfold kindOKB at this
  split at this <;> simp_all
theorem TIok.und (h : TIok P t ti) : ∃ d, P.underlying t = some d := by
  have := h.kind; unfold kindOKB at this
  split at this <;> simp_all
theorem TIok.aggP (h : TIok P t ti) : aggP P t = ti.kind.agg := by
  have := h.kind; unfold kindOKB at this; unfold Abs.aggP
  split at this <;> simp_all [TK.agg]
  split <;> simp_all
theorem TIok.notIface (h : TIok P t ti) (hk : ti.kind ≠ .iface) : ∀ a, P.underlying t ≠ some (.interface a) := by
  have := h.kind; unfold kindOKB at this
  intro a ha
  split at this <;> simp_all
theorem TIok.size (h : TIok P t ti) : P.cellsOf t = ti.size := by
  obtain ⟨i, h1, h2, _⟩ := h.info'
  simp [Program.cellsOf, h1, h2]
theorem run_sizeOf' {i : TypeInfo} (h : P.info? t = some i) (w : World) : (sizeOf t).run P w = .ok i.size w := by simp [sizeOf, typeInfo, h]
theorem run_zero' {i : TypeInfo} {z : Value} (h : P.info? t = some i) (hz : i.zero = some z) (w : World) : (zeroValue t).run P w = .ok z w := by simp [zeroValue, typeInfo, h, hz]
theorem run_isAgg' {d : TypeDesc} (h : P.underlying t = some d) (w : World) : (isAgg t).run P w = .ok (Abs.aggP P t) w := by
  unfold isAgg Abs.aggP
  rw [Sem.run_bind, run_underlying h]
  simp only [Result.andThen_ok, h]
  cases d <;> rfl
theorem TIok.runSize (h : TIok P t ti) (w : World) : (sizeOf t).run P w = .ok ti.size w := by
  obtain ⟨i, h1, h2, _⟩ := h.info'
  rw [run_sizeOf' h1, h2]
theorem TIok.runZero (h : TIok P t ti) (w : World) : (zeroValue t).run P w = .ok ti.zero w := by
  obtain ⟨i, h1, _, _, h2⟩ := h.info'
  exact run_zero' h1 h2 w
theorem TIok.runAgg (h : TIok P t ti) (w : World) : (isAgg t).run P w = .ok ti.kind.agg w := by
  obtain ⟨d, hd⟩ := h.und
  rw [run_isAgg' hd, h.aggP]
theorem run_part {E : Env} {cs : List AV} {us : List Value} {off size : Nat} {b : Bool} {v : AV} (hd : ∃ d, P.underlying t = some d) (ha : Abs.aggP P t = b) (hs : ∃ i, P.info? t = some i ∧ i.size = size) (hv : VRL E cs us) (hp : partK b cs off size = some v) (w : World) :
    ∃ u, (part t us.toArray off).run P w = .ok u w ∧ VR E v u := by
  obtain ⟨d, hd⟩ := hd
  obtain ⟨i, hi, hi2⟩ := hs
  unfold part
  rw [Sem.run_bind, run_isAgg' hd, ha]
  simp only [Result.andThen_ok]
  cases b with
  | true =>
    simp only [partK] at hp
    split at hp
    · rename_i r hr
      cases hp
      obtain ⟨h1, h2⟩ := sub_some hr
      refine ⟨.agg ((us.drop off).take size).toArray, ?_, ?_⟩
      · simp only [if_true, Sem.run_bind, run_sizeOf' hi, Result.andThen_ok, Sem.run_pure, hi2]
        congr 2
        simp
      · simp only [VR]
        exact ⟨_, rfl, by rw [h1]; exact (hv.drop off).take size⟩
    · cases hp
  | false =>
    simp only [partK, getO_eq] at hp
    obtain ⟨u, hu, hr⟩ := hv.get off v hp
    refine ⟨u, ?_, hr⟩
    simp [hu]
end
end Go.Abs
namespace Go.Abs
open Go.RowKit
variable {S : Seat}
theorem intOp_run {P : Program} {op : BinOp} {k : IntKind} {a b : Int} {v : AV} (h : intOp op k a b = some v) (hs : op ≠ .shl) (hr : op ≠ .shr) (hq : op ≠ .quo) (hm : op ≠ .rem) (ty : TypeId) (w : World) (E : Env) :
    ∃ u, (binOp op ty (.int k a) (.int k b)).run P w = .ok u w ∧ VR E v u := by
  cases op <;> simp_all [intOp, bitOp] <;> (subst h; simp [binOp, Op.intArith, Op.intCmp, Op.intBits, VR])
theorem equal_step (t : TypeId) (x y : Value) : Op.equal t x y = Op.equalIn (9999 + 1) t x y := rfl
theorem guard_int {P : Program} {op : BinOp} (ty : TypeId) (xo yo : Operand) (k k' : IntKind) (a b : Int) (w : World) : (eqGuard op ty xo yo (.int k a) (.int k' b)).run P w = .ok () w := by
  unfold eqGuard
  cases op <;> simp
theorem guard_str {P : Program} {op : BinOp} (ty : TypeId) (xo yo : Operand) (a b : ByteArray) (w : World) : (eqGuard op ty xo yo (.string a) (.string b)).run P w = .ok () w := by
  unfold eqGuard
  cases op <;> simp
theorem eqK_run (hS : SeatOK S) {ty : TypeId} {x y : AV} {r : Bool} (h : eqK S.flat S.Γ ty x y = some r) (op : BinOp) {E : Env} {u1 u2 : Value} (h1 : VR E x u1) (h2 : VR E y u2) (xo yo : Operand) (w : World) :
    ((eqGuard op ty xo yo u1 u2).run S.P w = .ok () w ∧ (Op.equal ty u1 u2).run S.P w = .ok r w) ∧ binOp .eql ty u1 u2 = (Value.bool <$> Op.equal ty u1 u2) ∧ binOp .neq ty u1 u2 = ((fun b => Value.bool !b) <$> Op.equal ty u1 u2) := by
  unfold eqK at h
  split at h
  · cases h
  · rename_i ti hti
    have hT := hS.ty ty ti hti
    split at h
    ·
      rename_i a b hk
      cases h
      simp only [VR] at h1 h2
      subst h1; subst h2
      refine ⟨⟨by unfold eqGuard; cases op <;> simp, ?_⟩, rfl, rfl⟩
      rw [equal_step, Op.equalIn]
      simp [run_underlying (hT.bool hk)]
    · rename_i xs ys hk
      split at h
      · rename_i ks hf
        have hF := hS.flat ty ks hf
        split at h
        · rename_i hs1 hs2
          simp only [VR] at h1 h2
          obtain ⟨us, rfl, hu⟩ := h1
          obtain ⟨ws, rfl, hw⟩ := h2
          refine ⟨⟨?_, hF.eq E _ _ _ _ _ w h hu hw hs1 hs2⟩, rfl, rfl⟩
          unfold eqGuard
          cases op <;> simp [hF.guard]
        · cases h
      · cases h
    · unfold nilEq at h
      split at h <;> (try cases h)
      all_goals simp only [VR] at h1 h2
      · obtain ⟨e, he⟩ := hT.ptr (by assumption)
        subst h1; subst h2
        refine ⟨⟨by unfold eqGuard; cases op <;> simp, ?_⟩, rfl, rfl⟩
        rw [equal_step, Op.equalIn]; simp [run_underlying he]
      · obtain ⟨e, he⟩ := hT.ptr (by assumption)
        subst h1; obtain ⟨b, _, rfl⟩ := h2
        refine ⟨⟨by unfold eqGuard; cases op <;> simp, ?_⟩, rfl, rfl⟩
        rw [equal_step, Op.equalIn]; simp [run_underlying he]
      · obtain ⟨e, he⟩ := hT.ptr (by assumption)
        subst h2; obtain ⟨b, _, rfl⟩ := h1
        refine ⟨⟨by unfold eqGuard; cases op <;> simp, ?_⟩, rfl, rfl⟩
        rw [equal_step, Op.equalIn]; simp [run_underlying he]
      · obtain ⟨e, he⟩ := hT.ptr (by assumption)
        subst h1; obtain ⟨b, _, rfl, _⟩ := h2
        refine ⟨⟨by unfold eqGuard; cases op <;> simp, ?_⟩, rfl, rfl⟩
        rw [equal_step, Op.equalIn]; simp [run_underlying he]
      · obtain ⟨e, he⟩ := hT.ptr (by assumption)
        subst h2; obtain ⟨b, _, rfl, _⟩ := h1
        refine ⟨⟨by unfold eqGuard; cases op <;> simp, ?_⟩, rfl, rfl⟩
        rw [equal_step, Op.equalIn]; simp [run_underlying he]
      · obtain ⟨a, b, c, he⟩ := hT.func (by assumption)
        subst h1; subst h2
        refine ⟨⟨by unfold eqGuard; cases op <;> simp, ?_⟩, rfl, rfl⟩
        rw [equal_step, Op.equalIn]; simp [run_underlying he]
      · obtain ⟨a, b, c, he⟩ := hT.func (by assumption)
        subst h1; obtain ⟨_, _, rfl, _⟩ := h2
        refine ⟨⟨by unfold eqGuard; cases op <;> simp, ?_⟩, rfl, rfl⟩
        rw [equal_step, Op.equalIn]; simp [run_underlying he]
      · obtain ⟨a, b, c, he⟩ := hT.func (by assumption)
        subst h2; obtain ⟨_, _, rfl, _⟩ := h1
        refine ⟨⟨by unfold eqGuard; cases op <;> simp, ?_⟩, rfl, rfl⟩
        rw [equal_step, Op.equalIn]; simp [run_underlying he]
      · obtain ⟨a, b, c, he⟩ := hT.func (by assumption)
        subst h1; obtain ⟨_, _, _, _, rfl, _⟩ := h2
        refine ⟨⟨by unfold eqGuard; cases op <;> simp, ?_⟩, rfl, rfl⟩
        rw [equal_step, Op.equalIn]; simp [run_underlying he]
      · obtain ⟨a, b, c, he⟩ := hT.func (by assumption)
        subst h2; obtain ⟨_, _, _, _, rfl, _⟩ := h1
        refine ⟨⟨by unfold eqGuard; cases op <;> simp, ?_⟩, rfl, rfl⟩
        rw [equal_step, Op.equalIn]; simp [run_underlying he]
      · obtain ⟨a, he⟩ := hT.iface (by assumption)
        subst h1; obtain ⟨_, rfl, _⟩ := h2
        refine ⟨⟨by unfold eqGuard; cases op <;> simp, ?_⟩, rfl, rfl⟩
        rw [equal_step, Op.equalIn]; simp [run_underlying he]
      · obtain ⟨a, he⟩ := hT.iface (by assumption)
        subst h2; obtain ⟨_, rfl, _⟩ := h1
        refine ⟨⟨by unfold eqGuard; cases op <;> simp, ?_⟩, rfl, rfl⟩
        rw [equal_step, Op.equalIn]; simp [run_underlying he]
theorem binK_sound (hS : SeatOK S) {op : BinOp} {ty : TypeId} {x y : AV} {k : AV → Prop} (h : binK S.flat S.Γ op ty x y k) :
    ∃ v, k v ∧ ∀ (E : Env) (w : World) (u1 u2 : Value) (xo yo : Operand), VR E x u1 → VR E y u2 → ∃ u, (eqGuard op ty xo yo u1 u2).run S.P w = .ok () w ∧ (binOp op ty u1 u2).run S.P w = .ok u w ∧ VR E v u := by
  unfold binK at h
  split at h
  · rename_i kx a ky b
    split at h
    · refine ⟨_, h.go.out, fun E w u1 u2 xo yo h1 h2 => ?_⟩
      simp only [VR] at h1 h2; subst h1; subst h2
      have hb := h.pf
      exact ⟨_, guard_int _ _ _ _ _ _ _ _, by simp [binOp, Op.shift, show ¬ b < 0 by omega]; rfl, by simp only [VR]⟩
    · refine ⟨_, h.go.out, fun E w u1 u2 xo yo h1 h2 => ?_⟩
      simp only [VR] at h1 h2; subst h1; subst h2
      have hb := h.pf
      exact ⟨_, guard_int _ _ _ _ _ _ _ _, by simp [binOp, Op.shift, show ¬ b < 0 by omega]; rfl, by simp only [VR]⟩
    · split at h
      · rename_i he
        have e := kEq_eq he
        refine ⟨_, h.go.out, fun E w u1 u2 xo yo h1 h2 => ?_⟩
        simp only [VR] at h1 h2; subst h1; subst h2; subst e
        have hb := h.pf
        exact ⟨_, guard_int _ _ _ _ _ _ _ _, by simp [binOp, Op.intDiv, hb]; rfl, by simp only [VR]⟩
      · exact h.elim
    · split at h
      · rename_i he
        have e := kEq_eq he
        refine ⟨_, h.go.out, fun E w u1 u2 xo yo h1 h2 => ?_⟩
        simp only [VR] at h1 h2; subst h1; subst h2; subst e
        have hb := h.pf
        exact ⟨_, guard_int _ _ _ _ _ _ _ _, by simp [binOp, Op.intDiv, hb]; rfl, by simp only [VR]⟩
      · exact h.elim
    · split at h
      · rename_i he
        have e := kEq_eq he
        obtain ⟨v, hv, hk⟩ := (arithK_ld h).elim
        refine ⟨v, hk, fun E w u1 u2 xo yo h1 h2 => ?_⟩
        simp only [VR] at h1 h2; subst h1; subst h2; subst e
        obtain ⟨u, hu, hr⟩ := intOp_run hv (by assumption) (by assumption) (by assumption) (by assumption) ty w E
        exact ⟨u, guard_int _ _ _ _ _ _ _ _, hu, hr⟩
      · exact h.elim
  · rename_i a b
    split at h
    · refine ⟨_, h.go, fun E w u1 u2 xo yo h1 h2 => ?_⟩
      simp only [VR] at h1 h2; subst h1; subst h2
      have hb := h.pf
      refine ⟨.string (⟨a.toArray⟩ ++ ⟨b.toArray⟩), guard_str _ _ _ _ _ _, ?_, ?_⟩
      · have hlt : ¬ ((((⟨a.toArray⟩ : ByteArray).size + (⟨b.toArray⟩ : ByteArray).size : Nat) : Int) > IntKind.i64.max) := by
          have e1 : (⟨a.toArray⟩ : ByteArray).size = a.length := by simp [ByteArray.size]
          have e2 : (⟨b.toArray⟩ : ByteArray).size = b.length := by simp [ByteArray.size]
          rw [e1, e2, show IntKind.i64.max = 9223372036854775807 from by decide]
          omega
        simp only [binOp, Op.stringOp]
        rw [if_neg hlt]; rfl
      · simp only [VR]
        congr 1
    · refine ⟨_, h, fun E w u1 u2 xo yo h1 h2 => ?_⟩
      simp only [VR] at h1 h2; subst h1; subst h2
      exact ⟨_, guard_str _ _ _ _ _ _, by simp [binOp, Op.stringOp]; rfl, by simp only [VR]⟩
    · refine ⟨_, h, fun E w u1 u2 xo yo h1 h2 => ?_⟩
      simp only [VR] at h1 h2; subst h1; subst h2
      exact ⟨_, guard_str _ _ _ _ _ _, by simp [binOp, Op.stringOp]; rfl, by simp only [VR]⟩
    · exact h.elim
  · rename_i hni hns
    split at h
    · obtain ⟨r, hr, hk⟩ := h.elim
      refine ⟨_, hk, fun E w u1 u2 xo yo h1 h2 => ?_⟩
      obtain ⟨⟨hg, he⟩, hb, _⟩ := eqK_run hS hr .eql h1 h2 xo yo w
      exact ⟨.bool r, hg, by rw [hb]; simp [he], by simp only [VR]⟩
    · obtain ⟨r, hr, hk⟩ := h.elim
      refine ⟨_, hk, fun E w u1 u2 xo yo h1 h2 => ?_⟩
      obtain ⟨⟨hg, he⟩, _, hb⟩ := eqK_run hS hr .neq h1 h2 xo yo w
      exact ⟨.bool (!r), hg, by rw [hb]; simp [he], by simp only [VR]⟩
    · exact h.elim
end Go.Abs
namespace Go.Abs
open Go.RowKit
variable {S : Seat}
def puts : Heap → List (Nat × Chunk) → Heap
  | h, [] => h
  | h, (i, c) :: r => puts (put h i c) r
def OpOK (S : Seat) (ρ : Operand → AV) (h : Heap) (nid : Nat) (op : Op) (v : AV) (ups : List (Nat × Chunk)) : Prop :=
  ∀ (E : Env) (w : World) (ρ' : Operand → Value), R S E h w → (ups ≠ [] → E.blk nid = none) → (ups ≠ [] → E.tok nid = none) → (ups ≠ [] → E.cbv nid = none) → (ups ≠ [] → ∀ c, h[nid]? = some c → c = .unborn) → (∀ x, VR E (ρ x) (ρ' x)) →
    ∀ o : Oper, o.op = op → ∃ E' w' u, ((execOp ρ' o).run S.P w = .ok (.value u) w' ∨ ((execOp ρ' o).run S.P w = .ok .skip w' ∧ u = undef)) ∧ VR E' v u ∧ Ext E E' ∧ E'.marks = E.marks ∧ R S E' (puts h ups) w' ∧ (ups = [] → E' = E ∧ w' = w)
theorem OpOK.pure {ρ : Operand → AV} {h : Heap} {nid : Nat} {op : Op} {v : AV}
    (hp : ∀ (E : Env) (w : World) (ρ' : Operand → Value), R S E h w → (∀ x, VR E (ρ x) (ρ' x)) → ∀ o : Oper, o.op = op → ∃ u, (execOp ρ' o).run S.P w = .ok (.value u) w ∧ VR E v u) : OpOK S ρ h nid op v [] :=
  fun E w ρ' hr _ _ _ _ hv o ho => let ⟨u, h1, h2⟩ := hp E w ρ' hr hv o ho
  ⟨E, w, u, .inl h1, h2, Ext.refl E, rfl, hr, fun _ => ⟨rfl, rfl⟩⟩
def OpSound (S : Seat) (ρ : Operand → AV) (h : Heap) (nid : Nat) (op : Op) (k : OpK) : Prop :=
  ∃ v ups rds, k v ups rds ∧ (∀ p ∈ ups, p.1 = nid ∨ p.1 ∈ rds) ∧ ∀ h' : Heap, (∀ i ∈ rds, h'[i]? = h[i]?) → OpOK S ρ h' nid op v ups
theorem OpSound.pure {ρ : Operand → AV} {h : Heap} {nid : Nat} {op : Op} {k : OpK} {v : AV} (hk : k v [] [])
    (hp : ∀ (E : Env) (w : World) (ρ' : Operand → Value), (∀ x, VR E (ρ x) (ρ' x)) → ∀ o : Oper, o.op = op → ∃ u, (execOp ρ' o).run S.P w = .ok (.value u) w ∧ VR E v u) : OpSound S ρ h nid op k :=
  ⟨v, [], [], hk, fun _ hp => (nomatch hp), fun _ _ => OpOK.pure fun E w ρ' _ hv o ho => hp E w ρ' hv o ho⟩
theorem unK_run {op : UnOp} {x v : AV} (h : unK op x = some v) {E : Env} {u : Value} (hu : VR E x u) (P : Program) (w : World) : ∃ r, (Op.unary op u).run P w = .ok r w ∧ VR E v r := by
  unfold unK at h
  split at h
  · cases h; simp only [VR] at hu; subst hu; exact ⟨_, rfl, by simp only [VR]⟩
  · simp only [VR] at hu; subst hu
    simp only [bitOp] at h
    cases h; exact ⟨_, rfl, by simp only [VR]⟩
  · cases h; simp only [VR] at hu; subst hu; exact ⟨_, by simp [Op.unary]; rfl, by simp only [VR]⟩
  · cases h
theorem ofCell_VR (E : Env) (v : Value) : VR E (ofCell v) v := by
  unfold ofCell
  split <;> simp only [VR] <;> first | trivial | skip
theorem ofCells_VRL (E : Env) : ∀ (l : List Value), VRL E (ofCells l) l
  | [] => VRL.nil
  | v :: l => VRL.cons (ofCell_VR E v) (ofCells_VRL E l)
theorem ofV_VR (E : Env) (v : Value) : VR E (ofV v) v := by
  unfold ofV
  split
  · rename_i cs
    simp only [VR]; exact ⟨cs.toList, by simp, ofCells_VRL E _⟩
  · simp only [VR]; exact ⟨_, rfl, ofCell_VR E _⟩
  · exact ofCell_VR E v
theorem cellsOf_VRL {E : Env} {a : AV} {v : Value} (h : VR E a v) (hs : solid a = true) : VRL E (cellsOf a) v.cells.toList := by
  cases a with
  | agg cs => simp only [VR] at h; obtain ⟨us, rfl, hu⟩ := h; simpa [cellsOf, Value.cells] using hu
  | tup vs => cases hs
  | undef => cases hs
  | _ =>
    simp only [cellsOf]
    have h0 := h
    simp only [VR] at h
    first
    | (subst h; exact VRL.cons h0 VRL.nil)
    | (obtain ⟨_, _, rfl⟩ := h; exact VRL.cons h0 VRL.nil)
    | (obtain ⟨_, _, rfl, _⟩ := h; exact VRL.cons h0 VRL.nil)
    | (obtain ⟨_, _, _, _, rfl, _⟩ := h; exact VRL.cons h0 VRL.nil)
    | (obtain ⟨_, rfl, _⟩ := h; exact VRL.cons h0 VRL.nil)
theorem okCell_one {E : Env} {c : AV} {u : Value} (h : okCell c = true) (hv : VR E c u) : u.oneCell' = true := by
  cases c <;> simp only [okCell] at h <;> first | (cases h; done) | skip
  all_goals
    simp only [VR] at hv
    first
    | (subst hv; rfl)
    | (obtain ⟨_, _, rfl⟩ := hv; rfl)
    | (obtain ⟨_, _, rfl, _⟩ := hv; rfl)
    | (obtain ⟨_, _, _, _, rfl, _⟩ := hv; rfl)
    | (obtain ⟨_, rfl, _⟩ := hv; rfl)
theorem okCells_one {E : Env} : ∀ {cs : List AV} {us : List Value}, okCells cs = true → VRL E cs us → ∀ u ∈ us, u.oneCell' = true
  | [], us, _, hv, u, hu => by simp only [VRL] at hv; subst hv; cases hu
  | c :: cs, us, h, hv, u, hu => by
    simp only [VRL] at hv
    obtain ⟨u0, us', rfl, h0, hr⟩ := hv
    simp only [okCells] at h
    split at h
    · rename_i hc
      rcases List.mem_cons.1 hu with rfl | hu
      · exact okCell_one hc h0
      · exact okCells_one h hr u hu
    · cases h
end Go.Abs
namespace Go.Abs
open Go.RowKit
variable {S : Seat}
theorem imm_lt {imm : Imm} {w : World} (h : immOK imm w) {b o : Nat} {u : Value} (hu : imm b o = some u) : b < w.heap.size :=
  World.block_lt_of_cell? w ⟨b, o, none⟩ (h b o u hu)
theorem immOK.alloc {imm : Imm} {w : World} (h : immOK imm w) (o : Obj) : immOK imm (w.alloc o) := fun b j u hu => by
  rw [World.cell?_alloc_lt w o ⟨b, j, none⟩ (imm_lt h hu)]; exact h b j u hu
def Env.withBlk (E : Env) (i b : Nat) : Env := { E with blk := fun j => if j = i then some b else E.blk j }
theorem Ext.withBlk {E : Env} {i b : Nat} (h : E.blk i = none) : Ext E (E.withBlk i b) where
  blk j c hj := by
    show (if j = i then some b else E.blk j) = some c
    rw [if_neg (fun e => by subst e; rw [h] at hj; cases hj)]; exact hj
  tok j F v hj := ⟨F, v, hj, .inr ⟨rfl, rfl⟩⟩
  cbv j v hj := ⟨hj, rfl⟩
  imm b o u hu := hu
  new b o hk := rfl
  keep := rfl
  base := rfl
  rnd := rfl
theorem R.new {E : Env} {h : Heap} {w : World} (hr : R S E h w) {i : Nat} (hb : E.blk i = none) (htk : E.tok i = none) {cs : List AV} {us : List Value} (hv : VRL E cs us) (t : Nat) :
    R S (E.withBlk i w.heap.size) (put h i (.var cs t)) (w.alloc (.cells us.toArray t)) := by
  have hext : Ext E (E.withBlk i w.heap.size) := Ext.withBlk hb
  have hold : ∀ b, b < w.heap.size → (w.alloc (.cells us.toArray t)).heap[b]? = w.heap[b]? := fun b hb => Below.heap_alloc w _ b hb
  refine hr.step {
    v := hext.v
    blk := fun j hj => if_neg hj
    tok := fun _ _ => rfl, cbv := fun _ _ => rfl, cbJ := fun _ _ => rfl, fp := fun _ _ => rfl
    own := fun j d b hj hd ho => hold b (hr.r0.lt j d b hd ho)
    ownI := fun _ _ _ _ _ _ _ => rfl
    ok := hr.r0.imm.alloc _
    cr := ⟨w.heap.size, us, if_pos rfl, heap_alloc_new w _, hv.mono hext.v, fun o => ?_, htk⟩
    new := fun b ho => ?_
    kp := fun b hk => hold b (Nat.lt_of_lt_of_le (hr.kp.klt b hk) hr.kp.size)
    size := by simp
    s3 := ⟨rfl, rfl, rfl⟩
    hrnd := fun l hl => ?_
    hmks := fun D hD => ?_
    keep := rfl, base := rfl, rnd := rfl, marks := rfl }
  · cases hu : E.imm w.heap.size o with
    | none => exact hu
    | some u => exact absurd (imm_lt hr.r0.imm hu) (Nat.lt_irrefl _)
  · have e : (if i = i then some w.heap.size else E.blk i) = some b := ho
    rw [if_pos rfl] at e; cases e
    refine ⟨by simp, fun hk => absurd (Nat.lt_of_lt_of_le (hr.kp.klt _ hk) hr.kp.size) (Nat.lt_irrefl _), fun j d hj hd ho' => absurd (hr.r0.lt j d _ hd ho') (Nat.lt_irrefl _), fun e => ?_, fun hm => ?_⟩
    · obtain ⟨⟨r, hl⟩, _⟩ := hr.r0.rnd _ e
      exact absurd (Array.getElem?_eq_some_iff.1 hl).1 (Nat.lt_irrefl _)
    · exact absurd (Array.getElem?_eq_some_iff.1 (hr.r0.mks _ hm).1).1 (Nat.lt_irrefl _)
  · obtain ⟨⟨r, hl'⟩, _⟩ := hr.r0.rnd _ hl
    exact hold l (Array.getElem?_eq_some_iff.1 hl').1
  · exact hold D (Array.getElem?_eq_some_iff.1 (hr.r0.mks _ hD).1).1
theorem R.store {E : Env} {h : Heap} {w : World} (hr : R S E h w) {i : Nat} {cs : List AV} {t : Nat} (hi : h[i]? = some (.var cs t)) {o : Nat} {vs : List AV} {ws : List Value} (hv : VRL E vs ws) (h1 : ∀ u ∈ ws, u.oneCell' = true) (hfit : o + vs.length ≤ cs.length) :
    ∃ b w', E.blk i = some b ∧ (storeCells ⟨b, o, none⟩ ws).run S.P w = .ok () w' ∧ R S E (put h i (.var (splice cs o vs) t)) w' := by
  obtain ⟨b, us, hb, hh, hu, himm, htk⟩ := hr.r0.ch i _ hi
  have hlen := hu.length
  have hlen2 := hv.length
  have hst := run_storeCells_at S.P b o t ws 0 us.toArray w hh (by simp; omega) h1
  simp only [Nat.add_zero] at hst
  have e : us.toArray.toList.take o ++ ws ++ us.toArray.toList.drop (o + ws.length) = spliceV us o ws := by
    rw [spliceV_eq ws us o (by omega)]
  rw [e] at hst
  have hown : ownsC E i (.var cs t) b := hb
  have hoth : ∀ k, k ≠ b → (w.setRow b (spliceV us o ws).toArray).heap[k]? = w.heap[k]? := fun k hk => setRow_other w b k _ hk
  refine ⟨b, _, hb, hst, hr.step {
    v := (Ext.refl E).v
    blk := fun _ _ => rfl, tok := fun _ _ => rfl, cbv := fun _ _ => rfl, cbJ := fun _ _ => rfl, fp := fun _ _ => rfl
    own := fun j d b' hj hd ho => hoth b' (fun e => by subst e; exact hj (hr.r0.disj j i d _ b' hd hi ho hown))
    ownI := fun _ _ _ _ _ _ _ => rfl
    ok := fun b' o' u hu' => ?_
    cr := ⟨b, spliceV us o ws, hb, setRow_heap w b _ _ t _ hh, hu.splice o hv, himm, htk⟩
    new := fun b' ho => ?_
    kp := fun b' hk => hoth b' (fun e => by subst e; exact hr.kp.keep i _ b' hi hown hk)
    size := by simp [World.setRow]
    s3 := ⟨rfl, rfl, rfl⟩
    hrnd := fun l hl => hoth l (fun e => by subst e; exact (hr.r0.rnd _ hl).2 i _ hi hown)
    hmks := fun D hD => hoth D (fun e => by subst e; exact (hr.r0.mks _ hD).2.2 i _ hi hown)
    keep := rfl, base := rfl, rnd := rfl, marks := rfl }⟩
  · have hne : b' ≠ b := fun e => by subst e; rw [himm] at hu'; cases hu'
    exact (World.cell?_of_block (w := w) (a := ⟨b', o', none⟩) (hoth b' hne)).trans (hr.r0.imm b' o' u hu')
  · have e : E.blk i = some b' := ho
    rw [hb] at e; cases e
    refine ⟨?_, hr.kp.keep i _ b hi hown, fun j d hj hd ho' => hj (hr.r0.disj j i d _ b hd hi ho' hown), fun e => (hr.r0.rnd _ e).2 i _ hi hown, fun hm => (hr.r0.mks _ hm).2.2 i _ hi hown⟩
    have := hr.r0.lt i _ b hi hown
    simpa [World.setRow] using this
theorem run_loadVar' {P : Program} {t : TypeId} {ti : TI} (hT : TIok P t ti) {E : Env} {w : World} {cs : List AV} {b o off : Nat} {v : AV} (hc : ∀ j c, cs[j]? = some c → ∃ u, w.cell? ⟨b, off + j, none⟩ = some u ∧ VR E c u) (hp : partK ti.kind.agg cs o ti.size = some v) :
    ∃ u, (loadVar t ⟨b, off + o, none⟩).run P w = .ok u w ∧ VR E v u := by
  unfold loadVar
  rw [Sem.run_bind, hT.runAgg]
  simp only [Result.andThen_ok]
  cases ha : ti.kind.agg with
  | true =>
    rw [ha] at hp
    simp only [partK] at hp
    split at hp
    · rename_i r hr
      cases hp
      obtain ⟨h1, h2⟩ := sub_some hr
      have hex : ∃ us : List Value, us.length = r.length ∧ VRL E r us ∧ ∀ j u, us[j]? = some u → w.cell? ⟨b, off + o + j, none⟩ = some u := by
        have hall : ∀ j c, r[j]? = some c → ∃ u, w.cell? ⟨b, off + o + j, none⟩ = some u ∧ VR E c u := by
          intro j c hj
          rw [h1, List.getElem?_take] at hj
          split at hj
          · rw [List.getElem?_drop] at hj
            obtain ⟨u, hu, hv⟩ := hc _ c hj
            exact ⟨u, by rw [Nat.add_assoc]; exact hu, hv⟩
          · cases hj
        clear h1 h2 hr ha
        generalize off + o = q at hall
        induction r generalizing q with
        | nil => exact ⟨[], rfl, VRL.nil, fun j u hj => by simp at hj⟩
        | cons c r ih =>
          obtain ⟨u, hu, hv⟩ := hall 0 c (by simp)
          obtain ⟨us, hl, hvs, hg⟩ := ih (q + 1) (fun j c' hj => by
            have := hall (j + 1) c' (by simpa using hj)
            rwa [show q + (j + 1) = q + 1 + j by omega] at this)
          refine ⟨u :: us, by simp [hl], VRL.cons hv hvs, fun j u' hj => ?_⟩
          cases j with
          | zero => simp at hj; subst hj; simpa using hu
          | succ j =>
            have := hg j u' (by simpa using hj)
            rwa [show q + (j + 1) = q + 1 + j by omega]
      obtain ⟨us, hl, hvs, hg⟩ := hex
      have hlc := run_loadCells_list (P := P) w ⟨b, off + o, none⟩ us (fun j u hj => by rw [Addr.add_lit]; exact hg j u hj)
      refine ⟨.agg us.toArray, ?_, by simp only [VR]; exact ⟨us, rfl, hvs⟩⟩
      have e : ti.size = us.length := by rw [hl, h2]
      have hsz := hT.runSize w
      rw [if_pos rfl]
      simp only [Sem.run_bind, Result.andThen_ok, hsz, Sem.run_pure]
      rw [e, hlc]
      rfl
    · cases hp
  | false =>
    rw [ha] at hp
    simp only [partK, getO_eq] at hp
    obtain ⟨u, hu, hv⟩ := hc o v hp
    refine ⟨u, ?_, hv⟩
    simp [hu]
end Go.Abs
namespace Go.Abs
open Go.RowKit
variable {S : Seat}
def PartsR (E : Env) : List (Nat × AV) → List (Nat × Value) → Prop
  | [], l => l = []
  | (i, a) :: r, l => ∃ v l', l = (i, v) :: l' ∧ VR E a v ∧ PartsR E r l'
theorem foldl_splice : ∀ (vs : List Value) (k off : Nat) (us : List Value), (vs.zipIdx k).foldl (fun (cs : Array Value) (x : Value × Nat) => cs.setIfInBounds (off + x.2) x.1) us.toArray = (spliceV us (off + k) vs).toArray
  | [], k, off, us => by simp [spliceV]
  | v :: vs, k, off, us => by
    simp only [List.zipIdx_cons, List.foldl_cons, spliceV]
    have := foldl_splice vs (k + 1) off (us.set (off + k) v)
    simp only [List.setIfInBounds_toArray]
    rw [this, Nat.add_assoc]
theorem spliceV_length : ∀ (vs : List Value) (o : Nat) (us : List Value), (spliceV us o vs).length = us.length
  | [], o, us => rfl
  | v :: vs, o, us => by rw [spliceV, spliceV_length vs]; simp
theorem fillK_run {fs : List (Nat × Nat × Bool)} : ∀ {parts : List (Nat × AV)} {cs : List AV} {k : List AV → Prop}, fillK fs parts cs k →
    ∃ cs', k cs' ∧ ∀ (E : Env) (us : List Value) (ps : List (Nat × Value)) (place : Nat → Option (Nat × Nat)), (∀ i, place i = (fs[i]?).map fun p => (p.1, p.2.1)) → VRL E cs us → PartsR E parts ps → ∃ us' : List Value, Instr.fill place us.toArray ps = some us'.toArray ∧ VRL E cs' us'
  | [], cs, k, h => ⟨cs, h, fun E us ps place _ hv hp => by
      simp only [PartsR] at hp; subst hp; exact ⟨us, rfl, hv⟩⟩
  | (i, a) :: r, cs, k, h => by
    simp only [fillK, getO_eq, forceK_eq] at h
    split at h
    · exact h.elim
    · rename_i off size ag hf
      split at h
      · rename_i h1 h2 h3
        rw [spliceK_eq] at h
        obtain ⟨cs', hk, hall⟩ := fillK_run h
        refine ⟨cs', hk, fun E us ps place hpl hv hp => ?_⟩
        simp only [PartsR] at hp
        obtain ⟨v, ps', rfl, hva, hpr⟩ := hp
        have hc := cellsOf_VRL hva h3
        have hl := hc.length
        have hl2 := hv.length
        rw [lenN_eq] at h1 h2
        have h1 := Nat.eq_of_beq_eq_true h1
        have h2 := natLe_eq.1 h2
        rw [lenN_eq] at h2
        obtain ⟨us', hfill, hv'⟩ := hall E (spliceV us off v.cells.toList) ps' place hpl (hv.splice off hc) hpr
        refine ⟨us', ?_, hv'⟩
        have hp1 : place i = some (off, size) := by rw [hpl, hf]; rfl
        simp only [Instr.fill, hp1]
        have e1 : v.cells.size = size := by have := Array.length_toList (xs := v.cells); omega
        have e2 : ¬ (off + v.cells.size > us.toArray.size) := by have := Array.length_toList (xs := v.cells); simp; omega
        have hfold : v.cells.zipIdx.foldl (fun (cs : Array Value) (x : Value × Nat) => cs.setIfInBounds (off + x.2) x.1) us.toArray = (spliceV us off v.cells.toList).toArray := by
          have := foldl_splice v.cells.toList 0 off us
          rw [Nat.add_zero] at this
          rw [← this, ← Array.foldl_toList]
          simp
        simp only [e1, ne_eq, not_true_eq_false, decide_false, Bool.false_or, decide_eq_true_eq]
        rw [e1] at e2
        rw [if_neg e2, hfold, hfill]
      · exact h.elim
theorem fillA_run {size : Nat} : ∀ {parts : List (Nat × AV)} {cs : List AV} {k : List AV → Prop}, fillA size parts cs k →
    ∃ cs', k cs' ∧ ∀ (E : Env) (us : List Value) (ps : List (Nat × Value)), VRL E cs us → PartsR E parts ps → ∃ us' : List Value, us'.length = us.length ∧ Instr.fill (fun i => some (i * size, size)) us.toArray ps = some us'.toArray ∧ VRL E cs' us'
  | [], cs, k, h => ⟨cs, h, fun E us ps hv hp => by
      simp only [PartsR] at hp; subst hp; exact ⟨us, rfl, rfl, hv⟩⟩
  | (i, a) :: r, cs, k, h => by
    simp only [fillA, forceK_eq] at h
    split at h
    · rename_i h1 h2 h3
      rw [spliceK_eq] at h
      obtain ⟨cs', hk, hall⟩ := fillA_run h
      refine ⟨cs', hk, fun E us ps hv hp => ?_⟩
      simp only [PartsR] at hp
      obtain ⟨v, ps', rfl, hva, hpr⟩ := hp
      have hc := cellsOf_VRL hva h3
      have hl := hc.length
      have hl2 := hv.length
      rw [lenN_eq] at h1 h2
      have h1 := Nat.eq_of_beq_eq_true h1
      have h2 := natLe_eq.1 h2
      rw [lenN_eq] at h2
      obtain ⟨us', hlen, hfill, hv'⟩ := hall E (spliceV us (i * size) v.cells.toList) ps' (hv.splice (i * size) hc) hpr
      refine ⟨us', by rw [hlen, spliceV_length], ?_, hv'⟩
      simp only [Instr.fill]
      have e1 : v.cells.size = size := by have := Array.length_toList (xs := v.cells); omega
      have e2 : ¬ (i * size + v.cells.size > us.toArray.size) := by have := Array.length_toList (xs := v.cells); simp; omega
      have hfold : v.cells.zipIdx.foldl (fun (cs : Array Value) (x : Value × Nat) => cs.setIfInBounds (i * size + x.2) x.1) us.toArray = (spliceV us (i * size) v.cells.toList).toArray := by
        have := foldl_splice v.cells.toList 0 (i * size) us
        rw [Nat.add_zero] at this
        rw [← this, ← Array.foldl_toList]
        simp
      simp only [e1, ne_eq, not_true_eq_false, decide_false, Bool.false_or, decide_eq_true_eq]
      rw [e1] at e2
      rw [if_neg e2, hfold, hfill]
    · exact h.elim
theorem partsR_of {E : Env} {ρ : Operand → AV} {ρ' : Operand → Value} (hv : ∀ x, VR E (ρ x) (ρ' x)) : ∀ (l : List (Nat × Operand)), PartsR E (l.map fun p => (p.1, ρ p.2)) (l.map fun p => (p.1, ρ' p.2))
  | [] => rfl
  | p :: l => ⟨_, _, rfl, hv p.2, partsR_of hv l⟩
theorem mapF_run {E : Env} {ρ : Operand → AV} {ρ' : Operand → Value} (hv : ∀ x, VR E (ρ x) (ρ' x)) : ∀ (l : List Operand), VRL E (l.map ρ) (l.map ρ')
  | [] => VRL.nil
  | o :: l => VRL.cons (hv o) (mapF_run hv l)
theorem run_fields {P : Program} {F : Array Field} (h : ∀ f ∈ F.toList, (∃ i, P.info? f.type = some i) ∧ ∃ d, P.underlying f.type = some d) (w : World) :
    (F.mapM fun f => (do pure (f.offset, ← sizeOf f.type) : Sem (Nat × Nat))).run P w = .ok (F.toList.map fun f => (f.offset, P.cellsOf f.type)).toArray w := by
  rw [Array.mapM_eq_mapM_toList]
  have : ∀ (l : List Field), (∀ f ∈ l, ∃ i, P.info? f.type = some i) → (l.mapM fun f => (do pure (f.offset, ← sizeOf f.type) : Sem (Nat × Nat))).run P w = .ok (l.map fun f => (f.offset, P.cellsOf f.type)) w := by
    intro l
    induction l with
    | nil => intro _; rfl
    | cons f l ih =>
      intro hl
      obtain ⟨i, hi⟩ := hl f (by simp)
      have := ih (fun g hg => hl g (by simp [hg]))
      simp only [List.mapM_cons, Sem.run_bind, run_sizeOf' hi, Result.andThen_ok, Sem.run_pure, this, List.map_cons]
      simp [Program.cellsOf, hi]
  have h2 := this F.toList (fun f hf => (h f hf).1)
  simp only [Sem.run_map, h2, Result.andThen_ok]
end Go.Abs
namespace Go.Abs
open Go.RowKit
variable {S : Seat}
section
variable {ρ : Operand → AV} {h : Heap} {nid : Nat} {k : OpK}
theorem op_move {x : Operand} (hk : opK S.flat S.Γ ρ h nid (.move x) k) : OpSound S ρ h nid (.move x) k := by
  simp only [opK, forceK_eq] at hk
  exact .pure hk fun E w ρ' hv o ho => ⟨ρ' x, by simp [execOp, ho], hv x⟩
theorem op_assign {x : Operand} (hk : opK S.flat S.Γ ρ h nid (.assign x) k) : OpSound S ρ h nid (.assign x) k := by
  simp only [opK, forceK_eq] at hk
  exact .pure hk fun E w ρ' hv o ho => ⟨ρ' x, by simp [execOp, ho], hv x⟩
theorem op_pick {c a b : Operand} (hk : opK S.flat S.Γ ρ h nid (.pick c a b) k) : OpSound S ρ h nid (.pick c a b) k := by
  simp only [opK, forceK_eq] at hk
  split at hk
  · rename_i x hx
    cases x with
    | true => exact .pure (hk.elim.1 rfl) fun E w ρ' hv o ho => ⟨ρ' a, by
        have := hv c; rw [hx] at this; simp only [VR] at this
        simp [execOp, ho, this, asBool], hv a⟩
    | false => exact .pure (hk.elim.2 rfl) fun E w ρ' hv o ho => ⟨ρ' b, by
        have := hv c; rw [hx] at this; simp only [VR] at this
        simp [execOp, ho, this, asBool], hv b⟩
  · exact hk.elim
theorem op_bin (hS : SeatOK S) {op : BinOp} {t yt : TypeId} {x y : Operand} (hk : opK S.flat S.Γ ρ h nid (.binOp op t x y yt) k) : OpSound S ρ h nid (.binOp op t x y yt) k := by
  simp only [opK] at hk
  split at hk
  · rename_i c e1 e2
    split at hk
    · rename_i ti hti
      split at hk
      · rename_i hkind
        refine .pure hk fun E w ρ' hv o ho => ⟨.bool true, ?_, by simp only [VR]⟩
        have h1 := hv x; rw [e1] at h1; simp only [VR] at h1
        have h2 := hv (.const c); rw [e2] at h2; simp only [VR] at h2
        obtain ⟨a, he⟩ := (hS.ty t ti hti).iface hkind
        have heq : (Op.equal t .nilIface .nilIface).run S.P w = .ok true w := by rw [equal_step, Op.equalIn]; simp [run_underlying he]
        have hb : binOp .eql t .nilIface .nilIface = (Value.bool <$> Op.equal t .nilIface .nilIface) := rfl
        simp [execOp, ho, h1, h2, eqGuard, hb, heq]
      · exact hk.elim
    · exact hk.elim
  · rename_i c e1 e2
    split at hk
    · rename_i ti hti
      split at hk
      · rename_i hkind
        refine .pure hk fun E w ρ' hv o ho => ⟨.bool false, ?_, by simp only [VR]⟩
        have h1 := hv x; rw [e1] at h1; simp only [VR] at h1
        have h2 := hv (.const c); rw [e2] at h2; simp only [VR] at h2
        obtain ⟨a, he⟩ := (hS.ty t ti hti).iface hkind
        have heq : (Op.equal t .nilIface .nilIface).run S.P w = .ok true w := by rw [equal_step, Op.equalIn]; simp [run_underlying he]
        have hb : binOp .neq t .nilIface .nilIface = ((fun b => Value.bool !b) <$> Op.equal t .nilIface .nilIface) := rfl
        simp [execOp, ho, h1, h2, eqGuard, hb, heq]
      · exact hk.elim
    · exact hk.elim
  · rename_i y1 op1 y2 a b op2 n1 n2
    obtain ⟨v, hkv, hall⟩ := binK_sound hS hk
    refine .pure hkv fun E w ρ' hv o ho => ?_
    obtain ⟨u, hg, hb, hr⟩ := hall E w (ρ' x) (ρ' y1) x y1 (hv x) (hv y1)
    exact ⟨u, by simp [execOp, ho, hg, hb], hr⟩
theorem op_un {op : UnOp} {t : TypeId} {x : Operand} (hk : opK S.flat S.Γ ρ h nid (.unOp op t x) k) : OpSound S ρ h nid (.unOp op t x) k := by
  simp only [opK] at hk
  obtain ⟨v, hv, hkv⟩ := (unopK_ld hk).elim
  refine .pure hkv fun E w ρ' hv' o ho => ?_
  obtain ⟨u, h1, h2⟩ := unK_run hv (hv' x) S.P w
  exact ⟨u, by simp [execOp, ho, h1], h2⟩
theorem isU8_und (hS : SeatOK S) {s e : TypeId} {ts : TI} (hT : TIok S.P s ts) (hk : ts.kind = .slice e) (h : isU8 S.Γ e = true) : S.P.underlying s = some (.slice e) ∧ S.P.underlying e = some (.int .u8) := by
  unfold isU8 at h
  split at h
  · rename_i te hte
    split at h
    · rename_i hk2
      exact ⟨hT.slice hk, (hS.ty e te hte).int hk2⟩
    · cases h
  · cases h
theorem bytesK_ints : ∀ {n : Nat} {cs : List AV} {bs : List UInt8}, bytesK n cs = some bs → ∃ ns : List Int, cs = ns.map (.int .u8) ∧ bs = ns.map (fun m => UInt8.ofNat m.toNat) ∧ ns.length = n
  | 0, [], bs, h => by cases h; exact ⟨[], rfl, rfl, rfl⟩
  | n + 1, .int .u8 m :: cs, bs, h => by
    simp only [bytesK] at h
    split at h
    · rename_i r hr
      cases h
      obtain ⟨ns, h1, h2, h3⟩ := bytesK_ints hr
      exact ⟨m :: ns, by rw [h1]; rfl, by rw [h2]; rfl, by simp [h3]⟩
    · cases h
theorem foldl_push : ∀ (ns : List Int) (s : ByteArray), ns.foldl (fun r n => r.push (UInt8.ofNat n.toNat)) s = ⟨s.data ++ (ns.map (fun m => UInt8.ofNat m.toNat)).toArray⟩
  | [], s => by cases s; simp
  | n :: ns, s => by
    rw [List.foldl_cons, foldl_push ns]
    simp [ByteArray.push]
theorem op_conv0 (hS : SeatOK S) {s d : TypeId} {x : Operand} (hk : convK S.Γ s d (ρ x) (fun v => k v [] [])) : OpSound S ρ h nid (.convert s d x) k := by
  unfold convK at hk
  split at hk
  · rename_i ts td hs hd
    have hTs := hS.ty s ts hs
    have hTd := hS.ty d td hd
    split at hk
    · rename_i k1 k2 k3 n e1 e2 e3
      refine .pure hk.out fun E w ρ' hv o ho => ⟨.int k2 (k2.wrap n), ?_, by simp only [VR]⟩
      have := hv x; rw [e3] at this; simp only [VR] at this
      simp [execOp, ho, this, convert, run_underlying (hTs.int e1), run_underlying (hTd.int e2), Conv.intToInt]
    · rename_i s0 e1 e2 e3
      refine .pure hk fun E w ρ' hv o ho => ⟨.string ⟨s0.toArray⟩, ?_, by simp only [VR]⟩
      have := hv x; rw [e3] at this; simp only [VR] at this
      simp [execOp, ho, this, convert, run_underlying (hTs.str e1), run_underlying (hTd.str e2)]
    · rename_i k1 k3 n e1 e2 e3
      have hn := hk.pf
      refine .pure hk.go fun E w ρ' hv o ho => ⟨.string ⟨#[UInt8.ofNat n.toNat]⟩, ?_, by simp only [VR]⟩
      have := hv x; rw [e3] at this; simp only [VR] at this
      have hval : Utf8.valid n = true := by simp [Utf8.valid]; omega
      have hlt : n.toNat < 128 := by omega
      simp [execOp, ho, this, convert, run_underlying (hTs.int e1), run_underlying (hTd.str e2), Conv.intToString, Utf8.encode, hval, hlt]
    · rename_i e0 cs len g e1 e2 e3
      split at hk
      · rename_i hu8
        obtain ⟨bs, hbs, hkv⟩ := hk.elim
        refine ⟨.str bs, [], [], hkv, fun _ hp => (nomatch hp), fun h' _ => OpOK.pure fun E w ρ' hr hv' oo ho => ?_⟩
        have hv := hv' x; rw [e3] at hv; simp only [VR] at hv
        obtain ⟨a, cap, hx, hlc, hcs, _⟩ := hv
        obtain ⟨hsl, hu⟩ := isU8_und hS hTs e1 hu8
        refine ⟨.string ⟨bs.toArray⟩, ?_, by simp only [VR]⟩
        obtain ⟨ns, hns, hbn, hnl⟩ := bytesK_ints hbs
        have hst : (convert s d (.slice a len cap)).run S.P w = .ok (.string ⟨bs.toArray⟩) w := by
          rw [run_convert_bytes_string w s d e0 a len cap hsl hu (hTd.str e2)]
          cases len with
          | zero =>
            obtain rfl : ns = [] := List.length_eq_zero_iff.1 hnl
            subst hbn
            cases a with
            | none => rfl
            | some a =>
              have := run_bytesToString (P := S.P) w a 0 cap [] (by simp [loadCells, loadCellsFrom])
              rw [this]; rfl
          | succ len =>
            rcases hcs with rfl | ⟨b, o, rfl, hI⟩
            · rw [List.map_eq_nil_iff.1 hns.symm] at hnl; cases hnl
            · have hl := run_loadCells_list (P := S.P) w ⟨b, o, none⟩ (ns.map (Value.int .u8)) (fun j u hj => by
                rw [Addr.add_lit]
                rw [List.getElem?_map] at hj
                cases hn : ns[j]? with
                | none => rw [hn] at hj; cases hj
                | some n =>
                  rw [hn] at hj; cases hj
                  obtain ⟨u, hu1, hu2⟩ := hI.get j (.int .u8 n) (by rw [hns, List.getElem?_map, hn]; rfl)
                  simp only [VR] at hu2
                  subst hu2
                  exact hr.r0.imm _ _ _ hu1)
              rw [List.length_map, hnl] at hl
              rw [run_bytesToString w _ _ cap ns hl, foldl_push]
              simp [hbn]
        simp [execOp, ho, hx, hst]
      · exact hk.elim
    · rename_i e0 e1 e2 e3
      split at hk
      · rename_i hu8
        obtain ⟨hsl, hu⟩ := isU8_und hS hTs e1 hu8
        refine .pure hk fun E w ρ' hv o ho => ⟨.string ⟨#[]⟩, ?_, by simp only [VR]⟩
        have := hv x; rw [e3] at this; simp only [VR] at this
        have hst : (convert s d (.slice none 0 0)).run S.P w = .ok (.string ⟨#[]⟩) w := by
          rw [run_convert_bytes_string w s d e0 none 0 0 hsl hu (hTd.str e2)]; rfl
        simp [execOp, ho, this, hst]
      · exact hk.elim
    · exact hk.elim
  · exact hk.elim
theorem op_conv (hS : SeatOK S) {s d : TypeId} {x : Operand} (hk : opK S.flat S.Γ ρ h nid (.convert s d x) k) : OpSound S ρ h nid (.convert s d x) k := by
  simp only [opK, getO_eq] at hk
  split at hk
  · rename_i i o len cap e3
    split at hk
    · rename_i cs ct hbs hi
      unfold isBS at hbs
      split at hbs
      · rename_i ts td hs hd
        split at hbs
        · rename_i e0 e1 e2
          have hTs := hS.ty s ts hs
          have hTd := hS.ty d td hd
          obtain ⟨bs, hb, hkv⟩ := hk.elim
          refine ⟨.str bs, [], [i], hkv, fun _ hp => (nomatch hp), fun h' hh => OpOK.pure fun E w ρ' hr hv' oo ho => ?_⟩
          have hi' : h'[i]? = some (.var cs ct) := by rw [hh i (by simp)]; exact hi
          have hv := hv' x; rw [e3] at hv; simp only [VR] at hv
          obtain ⟨b, hb1, hx⟩ := hv
          obtain ⟨b', us, hb', hh2, hu, _⟩ := hr.r0.ch i _ hi'
          rw [hb1] at hb'; cases hb'
          obtain ⟨hsl, hu8⟩ := isU8_und hS hTs e1 hbs
          obtain ⟨ns, hns, hbn, hnl⟩ := bytesK_ints hb
          refine ⟨.string ⟨bs.toArray⟩, ?_, by simp only [VR]⟩
          have hl := run_loadCells_list (P := S.P) w ⟨b, o, none⟩ (ns.map (Value.int .u8)) (fun j u hj => by
            rw [Addr.add_lit]
            rw [List.getElem?_map] at hj
            cases hn : ns[j]? with
            | none => rw [hn] at hj; cases hj
            | some n =>
              rw [hn] at hj; cases hj
              have hj2 : (ns.map (AV.int .u8))[j]? = some (.int .u8 n) := by rw [List.getElem?_map, hn]; rfl
              rw [← hns, List.getElem?_take] at hj2
              split at hj2
              · rw [List.getElem?_drop] at hj2
                obtain ⟨u, hu1, hu2⟩ := hu.get (o + j) _ hj2
                simp only [VR] at hu2
                subst hu2
                rw [cell_of_row w b (o + j) _ _ _ hh2]; simpa using hu1
              · cases hj2)
          rw [List.length_map, hnl] at hl
          have hst : (convert s d (.slice (some ⟨b, o, none⟩) len cap)).run S.P w = .ok (.string ⟨bs.toArray⟩) w := by
            rw [run_convert_bytes_string w s d e0 _ len cap hsl hu8 (hTd.str e2), run_bytesToString w _ _ cap ns hl, foldl_push]
            simp [hbn]
          simp [execOp, ho, hx, hst]
        · cases hbs
      · cases hbs
    · exact hk.elim
  · exact op_conv0 hS hk
theorem op_iface (hS : SeatOK S) {t : TypeId} {x : Operand} (hk : opK S.flat S.Γ ρ h nid (.makeInterface t x) k) : OpSound S ρ h nid (.makeInterface t x) k := by
  simp only [opK, forceK_eq] at hk
  split at hk
  · rename_i ti hti
    have hT := hS.ty t ti hti
    split at hk
    · exact hk.elim
    · rename_i hne
      refine .pure hk fun E w ρ' hv o ho => ⟨.iface t (ρ' x), ?_, by simp only [VR]; exact ⟨_, rfl, hv x⟩⟩
      obtain ⟨d, hd⟩ := hT.und
      have hni := hT.notIface hne
      simp only [execOp, ho, Instr.makeInterface, Sem.run_bind, run_underlying hd, Result.andThen_ok]
      cases d <;> first | rfl | exact absurd hd (hni _)
  · exact hk.elim
theorem op_func {fn : Fn} {a b : Array Operand} (hk : opK S.flat S.Γ ρ h nid (.makeFunc fn a b) k) : OpSound S ρ h nid (.makeFunc fn a b) k := by
  cases fn with
  | func f =>
    simp only [opK, mapF_eq] at hk
    refine .pure hk fun E w ρ' hv o ho => ⟨.func (.func f) (a.map ρ') (b.map ρ'), by simp [execOp, ho, Instr.makeFunc], ?_⟩
    simp only [VR]
    exact ⟨(a.map ρ').toList, (b.map ρ').toList, rfl, by rw [Array.toList_map]; exact mapF_run hv _, by rw [Array.toList_map]; exact mapF_run hv _⟩
  | _ => simp only [opK] at hk
theorem op_nilCheck {x : Operand} (hk : opK S.flat S.Γ ρ h nid (.nilCheck x) k) : OpSound S ρ h nid (.nilCheck x) k := by
  simp only [opK] at hk
  split at hk
  · rename_i i o' e
    refine .pure hk fun E w ρ' hv o ho => ⟨ρ' x, ?_, by have := hv x; rwa [e] at this⟩
    have := hv x; rw [e] at this; simp only [VR] at this
    obtain ⟨b, _, hb⟩ := this
    simp [execOp, ho, hb]
  · rename_i cs e
    refine .pure hk fun E w ρ' hv o ho => ⟨ρ' x, ?_, by have := hv x; rwa [e] at this⟩
    have := hv x; rw [e] at this; simp only [VR] at this
    obtain ⟨b, o', hb, _⟩ := this
    simp [execOp, ho, hb]
  · rename_i f a b e
    refine .pure hk fun E w ρ' hv o ho => ⟨ρ' x, ?_, by have := hv x; rwa [e] at this⟩
    have := hv x; rw [e] at this; simp only [VR] at this
    obtain ⟨us, ws, hb, _⟩ := this
    simp [execOp, ho, hb]
  · rename_i i e
    refine .pure hk fun E w ρ' hv o ho => ⟨ρ' x, ?_, by have := hv x; rwa [e] at this⟩
    have := hv x; rw [e] at this; simp only [VR] at this
    obtain ⟨_, f, a, b, hb, hm⟩ := this
    rw [hb]
    simp only [execOp, ho, hb]
    cases f <;> first | rfl | exact absurd rfl (hm _)
  · exact hk.elim
theorem op_extract {x : Operand} {i : Nat} (hk : opK S.flat S.Γ ρ h nid (.extract x i) k) : OpSound S ρ h nid (.extract x i) k := by
  simp only [opK, getO_eq] at hk
  split at hk
  · rename_i vs e
    obtain ⟨v, hv, hkv⟩ := hk.elim
    refine .pure hkv fun E w ρ' hv' o ho => ?_
    have := hv' x; rw [e] at this; simp only [VR] at this
    obtain ⟨us, hu, hl⟩ := this
    obtain ⟨u, h1, h2⟩ := hl.get i v hv
    exact ⟨u, by simp [execOp, ho, hu, Instr.extract, h1], h2⟩
  · exact hk.elim
theorem op_field (hS : SeatOK S) {t : TypeId} {x : Operand} {f : Nat} (hk : opK S.flat S.Γ ρ h nid (.field t x f) k) : OpSound S ρ h nid (.field t x f) k := by
  simp only [opK, getO_eq] at hk
  split at hk
  · rename_i ti cs hti e
    have hT := hS.ty t ti hti
    split at hk
    · rename_i fs hkd
      obtain ⟨p, hp, hk⟩ := hk.elim
      obtain ⟨v, hv, hkv⟩ := hk.elim
      obtain ⟨F, hF, hrow, hall⟩ := hT.struct hkd
      refine .pure hkv fun E w ρ' hv' o ho => ?_
      have := hv' x; rw [e] at this; simp only [VR] at this
      obtain ⟨us, hu, hl⟩ := this
      rw [← hrow, List.getElem?_map] at hp
      cases hf : F.toList[f]? with
      | none => rw [hf] at hp; cases hp
      | some fd =>
        rw [hf] at hp; simp at hp; subst hp
        have hmem : fd ∈ F.toList := List.mem_of_getElem? hf
        obtain ⟨⟨i, hi⟩, hd⟩ := hall fd hmem
        obtain ⟨u, h1, h2⟩ := run_part (P := S.P) (t := fd.type) hd rfl ⟨i, hi, by simp [fieldRow, Program.cellsOf, hi]⟩ hl hv w
        have hf' : F[f]? = some fd := by simpa using hf
        refine ⟨u, ?_, h2⟩
        simp only [fieldRow] at h1
        simp [execOp, ho, hu, Instr.field, run_underlying hF, hf', asAgg, h1]
    · exact hk.elim
  · exact hk.elim
theorem op_load (hS : SeatOK S) {t : TypeId} {a : Operand} (hk : opK S.flat S.Γ ρ h nid (.load t a) k) : OpSound S ρ h nid (.load t a) k := by
  simp only [opK, getO_eq] at hk
  split at hk
  · rename_i i o e
    obtain ⟨size, hs, hk⟩ := hk.elim
    unfold sizeT at hs
    split at hs
    · rename_i ti hti
      cases hs
      have hT := hS.ty t ti hti
      have hag : aggT S.Γ t = ti.kind.agg := by simp [aggT, hti]
      rw [hag] at hk
      split at hk
      · rename_i cs ct hi
        obtain ⟨v, hv, hkv⟩ := hk.elim
        refine ⟨v, [], [i], hkv, fun _ hp => (nomatch hp), fun h' hh => OpOK.pure fun E w ρ' hr hv' oo ho => ?_⟩
        have hi' : h'[i]? = some (.var cs ct) := by rw [hh i (by simp)]; exact hi
        have := hv' a; rw [e] at this; simp only [VR] at this
        obtain ⟨b, hb, hab⟩ := this
        obtain ⟨b', us, hb', hh2, hu, _⟩ := hr.r0.ch i _ hi'
        rw [hb] at hb'; cases hb'
        obtain ⟨u, h1, h2⟩ := run_loadVar' (w := w) (b := b) (off := 0) hT (fun j c hj => by
          obtain ⟨u, hu1, hu2⟩ := hu.get j c hj
          exact ⟨u, by rw [Nat.zero_add, cell_of_row w b j _ _ _ hh2]; simpa using hu1, hu2⟩) hv
        rw [Nat.zero_add] at h1
        exact ⟨u, by simp [execOp, ho, hab, Instr.loadAt, Instr.sureAddr, h1], h2⟩
      · rename_i cs hi
        obtain ⟨v, hv, hkv⟩ := hk.elim
        refine ⟨v, [], [i], hkv, fun _ hp => (nomatch hp), fun h' hh => OpOK.pure fun E w ρ' hr hv' oo ho => ?_⟩
        have hi' : h'[i]? = some (.ro cs) := by rw [hh i (by simp)]; exact hi
        have := hv' a; rw [e] at this; simp only [VR] at this
        obtain ⟨b, hb, hab⟩ := this
        obtain ⟨b', hb', hu⟩ := hr.r0.ch i _ hi'
        rw [hb] at hb'; cases hb'
        obtain ⟨u, h1, h2⟩ := run_loadVar' (w := w) (b := b) (off := 0) hT (fun j c hj => by
          obtain ⟨u, hu1, hu2⟩ := hu.get j c hj
          exact ⟨u, hr.r0.imm _ _ _ hu1, hu2⟩) hv
        rw [Nat.zero_add] at h1
        exact ⟨u, by simp [execOp, ho, hab, Instr.loadAt, Instr.sureAddr, h1], h2⟩
      · exact hk.elim
    · cases hs
  · rename_i cs e
    obtain ⟨size, hs, hk⟩ := hk.elim
    unfold sizeT at hs
    split at hs
    · rename_i ti hti
      cases hs
      have hT := hS.ty t ti hti
      have hag : aggT S.Γ t = ti.kind.agg := by simp [aggT, hti]
      rw [hag] at hk
      obtain ⟨v, hv, hkv⟩ := hk.elim
      refine ⟨v, [], [], hkv, fun _ hp => (nomatch hp), fun h' _ => OpOK.pure fun E w ρ' hr hv' oo ho => ?_⟩
      have := hv' a; rw [e] at this; simp only [VR] at this
      obtain ⟨b, off, hab, hu⟩ := this
      obtain ⟨u, h1, h2⟩ := run_loadVar' (w := w) (b := b) (off := off) hT (fun j c hj => by
        obtain ⟨u, hu1, hu2⟩ := hu.get j c hj
        exact ⟨u, hr.r0.imm _ _ _ hu1, hu2⟩) hv
      rw [Nat.add_zero] at h1
      exact ⟨u, by simp [execOp, ho, hab, Instr.loadAt, Instr.sureAddr, h1], h2⟩
    · cases hs
  · exact hk.elim
theorem op_alloc (hS : SeatOK S) {t : TypeId} (hk : opK S.flat S.Γ ρ h nid (.alloc t) k) : OpSound S ρ h nid (.alloc t) k := by
  simp only [opK] at hk
  split at hk
  · rename_i ti hti
    have hT := hS.ty t ti hti
    refine ⟨_, _, _, hk, fun p hp => .inl (by simp at hp; rw [hp]), fun h' _ E w ρ' hr hb htk _ hun hv o ho => ?_⟩
    have hz : VRL E (cellsOf (ofV ti.zero)) ti.zero.cells.toList := by
      cases hz : ti.zero with
      | agg cs => simpa [ofV, cellsOf, Value.cells] using ofCells_VRL E cs.toList
      | _ =>
        simp only [Value.cells]
        have h0 := ofV_VR E ti.zero
        rw [hz] at h0
        have : cellsOf (ofV ti.zero) = [ofV ti.zero] := by
          rw [hz]; simp only [ofV]
          first | rfl | (unfold ofCell; split <;> rfl)
        rw [hz] at this; rw [this]
        exact VRL.cons h0 VRL.nil
    have hn := hr.new (hb (by simp)) (htk (by simp)) hz t
    refine ⟨_, _, .pointer (some ⟨w.heap.size, 0, none⟩), .inl ?_, ?_, Ext.withBlk (hb (by simp)), rfl, hn, fun h => nomatch h⟩
    · simp [execOp, ho, Instr.alloc, hT.runZero, newVar, newRow]
    · simp only [VR]; exact ⟨w.heap.size, if_pos rfl, rfl⟩
  · exact hk.elim
theorem op_box {t : TypeId} {x : Operand} (hk : opK S.flat S.Γ ρ h nid (.box t x) k) : OpSound S ρ h nid (.box t x) k := by
  simp only [opK, forceK_eq] at hk
  split at hk
  · rename_i hs
    refine ⟨_, _, _, hk, fun p hp => .inl (by simp at hp; rw [hp]), fun h' _ E w ρ' hr hb htk _ hun hv o ho => ?_⟩
    have hn := hr.new (hb (by simp)) (htk (by simp)) (cellsOf_VRL (hv x) hs) t
    refine ⟨_, _, .pointer (some ⟨w.heap.size, 0, none⟩), .inl ?_, ?_, Ext.withBlk (hb (by simp)), rfl, hn, fun h => nomatch h⟩
    · simp [execOp, ho, Instr.box, newVar, newRow]
    · simp only [VR]; exact ⟨w.heap.size, if_pos rfl, rfl⟩
  · exact hk.elim
theorem op_store (hS : SeatOK S) {t : TypeId} {a x : Operand} (hk : opK S.flat S.Γ ρ h nid (.store t a x) k) : OpSound S ρ h nid (.store t a x) k := by
  simp only [opK, getO_eq, forceK_eq] at hk
  split at hk
  · rename_i i off e
    split at hk
    · rename_i ti cs ct hti hi
      have hT := hS.ty t ti hti
      split at hk
      · rename_i h1 h2 h3
        rw [spliceK_eq] at hk
        have hsol : solid (ρ x) = true := by
          cases hx : ρ x <;> rw [hx] at h3 <;> first | rfl | (simp [cellsOf, okCells, okCell] at h3)
        rw [lenN_eq] at h1 h2
        have h1 := Nat.eq_of_beq_eq_true h1
        have h2 := natLe_eq.1 h2
        rw [lenN_eq] at h2
        refine ⟨_, _, _, hk, fun p hp => .inr (by simp at hp; rw [hp]; simp), fun h' hh E w ρ' hr hb _ _ hun hv o ho => ?_⟩
        have hi' : h'[i]? = some (.var cs ct) := by rw [hh i (by simp)]; exact hi
        have hc := cellsOf_VRL (hv x) hsol
        obtain ⟨b, w', hb', hst, hr'⟩ := hr.store hi' hc (okCells_one h3 hc) h2
        have := hv a; rw [e] at this; simp only [VR] at this
        obtain ⟨b2, hb2, hab⟩ := this
        rw [hb'] at hb2; cases hb2
        refine ⟨E, w', undef, .inr ⟨?_, rfl⟩, by simp only [VR], Ext.refl E, rfl, hr', fun h => nomatch h⟩
        have hsz : (ρ' x).cells.size = ti.size := by
          exact Array.length_toList.symm.trans (hc.length.symm.trans h1)
        simp [execOp, ho, hab, Instr.storeAt, Instr.sureAddr, storeVar, hT.runSize, hsz, hst]
      · exact hk.elim
    · exact hk.elim
  · exact hk.elim
end
end Go.Abs
namespace Go.Abs
open Go.RowKit
variable {S : Seat}
section
variable {ρ : Operand → AV} {h : Heap} {nid : Nat} {k : OpK}
theorem zero_VRL (E : Env) (z : Value) : VRL E (cellsOf (ofV z)) z.cells.toList := by
  cases hz : z with
  | agg cs => simpa [ofV, cellsOf, Value.cells] using ofCells_VRL E cs.toList
  | _ =>
    simp only [Value.cells]
    have h0 := ofV_VR E z
    rw [hz] at h0
    have : cellsOf (ofV z) = [ofV z] := by
      rw [hz]; simp only [ofV]
      first | rfl | (unfold ofCell; split <;> rfl)
    rw [hz] at this; rw [this]
    exact VRL.cons h0 VRL.nil
theorem op_build (hS : SeatOK S) {t : TypeId} {parts : Array (Nat × Operand)} (hk : opK S.flat S.Γ ρ h nid (.build t parts) k) : OpSound S ρ h nid (.build t parts) k := by
  simp only [opK] at hk
  split at hk
  · rename_i ti hti
    have hT := hS.ty t ti hti
    split at hk
    · rename_i fs hkd
      obtain ⟨F, hF, hrow, hall⟩ := hT.struct hkd
      obtain ⟨cs', hk', hrun⟩ := fillK_run hk
      refine .pure hk' fun E w ρ' hv o ho => ?_
      obtain ⟨us', h1, h2⟩ := hrun E ti.zero.cells.toList (parts.toList.map fun p => (p.1, ρ' p.2)) (((F.toList.map fun f => (f.offset, S.P.cellsOf f.type)).toArray)[·]?) (fun i => by
        rw [← hrow]; simp only [List.getElem?_toArray, List.getElem?_map]; cases F.toList[i]? <;> rfl) (zero_VRL E ti.zero) (partsR_of hv _)
      refine ⟨.agg us'.toArray, ?_, by simp only [VR]; exact ⟨us', rfl, h2⟩⟩
      have h1' : Instr.fill ((((F.toList.map fun f => (f.offset, S.P.cellsOf f.type)).toArray)[·]?)) ti.zero.cells (parts.toList.map fun p => (p.1, ρ' p.2)) = some us'.toArray := by simpa using h1
      have hff := run_fields hall w
      simp only [execOp, ho, Instr.build, Sem.run_bind, hT.runZero, Result.andThen_ok, run_underlying hF, hff, Array.toList_map, h1', Sem.run_pure]
    · rename_i n e hkd
      have hu := hT.arr hkd
      obtain ⟨size, hs, hk⟩ := hk.elim
      unfold sizeT at hs
      split at hs
      · rename_i te hte
        cases hs
        have hTe := hS.ty e te hte
        obtain ⟨cs', hk', hrun⟩ := fillA_run hk
        refine .pure hk' fun E w ρ' hv o ho => ?_
        obtain ⟨us', _, h1, h2⟩ := hrun E ti.zero.cells.toList (parts.toList.map fun p => (p.1, ρ' p.2)) (zero_VRL E ti.zero) (partsR_of hv _)
        refine ⟨.agg us'.toArray, ?_, by simp only [VR]; exact ⟨us', rfl, h2⟩⟩
        have h1' : Instr.fill (fun i => some (i * te.size, te.size)) ti.zero.cells (parts.toList.map fun p => (p.1, ρ' p.2)) = some us'.toArray := by simpa using h1
        simp only [execOp, ho, Instr.build, Sem.run_bind, hT.runZero, Result.andThen_ok, run_underlying hu, hTe.runSize, Array.toList_map, h1', Sem.run_pure]
      · cases hs
    · exact hk.elim
  · exact hk.elim
theorem op_fieldAddr (hS : SeatOK S) {t : TypeId} {x : Operand} {f : Nat} (hk : opK S.flat S.Γ ρ h nid (.fieldAddr t x f) k) : OpSound S ρ h nid (.fieldAddr t x f) k := by
  simp only [opK, getO_eq] at hk
  split at hk
  · rename_i ti hti
    have hT := hS.ty t ti hti
    split at hk
    · rename_i fs hkd
      obtain ⟨F, hF, hrow, hall⟩ := hT.struct hkd
      obtain ⟨p, hp, hk⟩ := hk.elim
      split at hk
      · rename_i hsz
        obtain ⟨v, hv, hk⟩ := hk.elim
        refine .pure hk fun E w ρ' hv' o ho => ?_
        rw [← hrow, List.getElem?_map] at hp
        cases hf : F.toList[f]? with
        | none => rw [hf] at hp; cases hp
        | some fd =>
          rw [hf] at hp; simp at hp; subst hp
          obtain ⟨⟨i, hi⟩, _⟩ := hall fd (List.mem_of_getElem? hf)
          have hf' : F[f]? = some fd := by simpa using hf
          have hne : i.size ≠ 0 := by
            have := natLe_eq.1 hsz; simp [fieldRow, Program.cellsOf, hi] at this; omega
          simp only [fieldRow] at hv
          have hx := hv' x
          cases hax : ρ x <;> rw [hax] at hv hx <;> simp only [fieldPtr] at hv <;> first | (cases hv; done) | skip
          · rename_i i0 o0
            cases hv
            simp only [VR] at hx
            obtain ⟨b, hb, hxe⟩ := hx
            exact ⟨.pointer (some ⟨b, o0 + fd.offset, none⟩), by simp [execOp, ho, hxe, Instr.fieldAt, run_underlying hF, hf', Instr.sureAddr, fieldPlace, run_sizeOf' hi, hne, Addr.add_lit], by simp only [VR]; exact ⟨b, hb, rfl⟩⟩
          · rename_i cs
            cases hv
            simp only [VR] at hx
            obtain ⟨b, o0, hxe, hc⟩ := hx
            exact ⟨.pointer (some ⟨b, o0 + fd.offset, none⟩), by simp [execOp, ho, hxe, Instr.fieldAt, run_underlying hF, hf', Instr.sureAddr, fieldPlace, run_sizeOf' hi, hne, Addr.add_lit], by simp only [VR]; exact ⟨b, _, rfl, by rw [dropL_eq]; exact hc.drop _⟩⟩
      · exact hk.elim
    · exact hk.elim
  · exact hk.elim
theorem op_indexAddr (hS : SeatOK S) {t : TypeId} {x ix : Operand} (hk : opK S.flat S.Γ ρ h nid (.indexAddr t x ix) k) : OpSound S ρ h nid (.indexAddr t x ix) k := by
  simp only [opK] at hk
  split at hk
  · rename_i ti kn n hti hix
    have hT := hS.ty t ti hti
    split at hk
    · rename_i len e i0 o0 hkd hx
      obtain ⟨size, hs, hk⟩ := hk.elim
      unfold sizeT at hs
      split at hs
      · rename_i te hte
        cases hs
        have hTe := hS.ty e te hte
        refine .pure hk.go fun E w ρ' hv o ho => ?_
        have h1 := hv x; have h2 := hv ix
        rw [hx] at h1; rw [hix] at h2
        simp only [VR] at h1 h2
        obtain ⟨b, hb, h1⟩ := h1
        exact ⟨.pointer (some ⟨b, o0 + n.toNat * te.size, none⟩), by simp [execOp, ho, h1, h2, Instr.indexAt, asIntOf, run_underlying (hT.arr hkd), Instr.sureAddr, hk.pf, hTe.runSize, Addr.add_lit], by simp only [VR]; exact ⟨b, hb, rfl⟩⟩
      · cases hs
    · rename_i len e cs hkd hx
      obtain ⟨size, hs, hk⟩ := hk.elim
      unfold sizeT at hs
      split at hs
      · rename_i te hte
        cases hs
        have hTe := hS.ty e te hte
        refine .pure hk.go fun E w ρ' hv o ho => ?_
        have h1 := hv x; have h2 := hv ix
        rw [hx] at h1; rw [hix] at h2
        simp only [VR] at h1 h2
        obtain ⟨b, o0, h1, hc⟩ := h1
        exact ⟨.pointer (some ⟨b, o0 + n.toNat * te.size, none⟩), by simp [execOp, ho, h1, h2, Instr.indexAt, asIntOf, run_underlying (hT.arr hkd), Instr.sureAddr, hk.pf, hTe.runSize, Addr.add_lit], by simp only [VR]; exact ⟨b, _, rfl, by rw [dropL_eq]; exact hc.drop _⟩⟩
      · cases hs
    · rename_i e cs len g hkd hx
      obtain ⟨size, hs, hk⟩ := hk.elim
      unfold sizeT at hs
      split at hs
      · rename_i te hte
        cases hs
        have hTe := hS.ty e te hte
        have hpf := hk.pf
        obtain ⟨el, hel, hk⟩ := hk.go.elim
        split at hk
        · exact hk.elim
        · rename_i c r
          obtain ⟨e1, e2⟩ := sub_some hel
          refine .pure hk fun E w ρ' hv o ho => ?_
          have h1 := hv x; have h2 := hv ix
          rw [hx] at h1; rw [hix] at h2
          simp only [VR] at h1 h2
          obtain ⟨a, cap, h1, _, hc, _⟩ := h1
          rcases hc with hc | ⟨b, o0, rfl, hc⟩
          · rw [hc] at e1; simp at e1
          · exact ⟨.pointer (some ⟨b, o0 + n.toNat * te.size, none⟩), by simp [execOp, ho, h1, h2, Instr.indexAt, asIntOf, run_underlying (hT.slice hkd), hpf, hTe.runSize, Addr.add_lit], by simp only [VR]; exact ⟨b, _, rfl, by rw [e1]; exact (hc.drop _).take _⟩⟩
      · cases hs
    · rename_i e i0 o0 len cap hkd hx
      obtain ⟨size, hs, hk⟩ := hk.elim
      unfold sizeT at hs
      split at hs
      · rename_i te hte
        cases hs
        have hTe := hS.ty e te hte
        refine .pure hk.go fun E w ρ' hv o ho => ?_
        have h1 := hv x; have h2 := hv ix
        rw [hx] at h1; rw [hix] at h2
        simp only [VR] at h1 h2
        obtain ⟨b, hb, h1⟩ := h1
        exact ⟨.pointer (some ⟨b, o0 + n.toNat * te.size, none⟩), by simp [execOp, ho, h1, h2, Instr.indexAt, asIntOf, run_underlying (hT.slice hkd), hk.pf, hTe.runSize, Addr.add_lit], by simp only [VR]; exact ⟨b, hb, rfl⟩⟩
      · cases hs
    · exact hk.elim
  · exact hk.elim
theorem op_index (hS : SeatOK S) {t : TypeId} {x ix : Operand} (hk : opK S.flat S.Γ ρ h nid (.index t x ix) k) : OpSound S ρ h nid (.index t x ix) k := by
  simp only [opK] at hk
  split at hk
  · rename_i ti kn n hti hix
    have hT := hS.ty t ti hti
    split at hk
    · rename_i s hkd hx
      have hpf := hk.pf
      obtain ⟨c, hc, hk⟩ := hk.go.elim
      refine .pure hk fun E w ρ' hv o ho => ?_
      have h1 := hv x; have h2 := hv ix
      rw [hx] at h1; rw [hix] at h2
      simp only [VR] at h1 h2
      refine ⟨.int .u8 c.toNat, ?_, by simp only [VR]⟩
      have hg : (⟨s.toArray⟩ : ByteArray)[n.toNat]? = some c := by
        have hlt : n.toNat < s.length := by omega
        have hlt' : n.toNat < (⟨s.toArray⟩ : ByteArray).size := by simpa [ByteArray.size] using hlt
        rw [getElem?_pos (⟨s.toArray⟩ : ByteArray) n.toNat hlt']
        rw [List.getElem?_eq_getElem hlt] at hc
        cases hc
        rfl
      simp [execOp, ho, h1, h2, Instr.index, asIntOf, run_underlying (hT.str hkd), hpf.1, hg]
    · rename_i len e cs hkd hx
      obtain ⟨size, hs, hk⟩ := hk.elim
      unfold sizeT at hs
      split at hs
      · rename_i te hte
        cases hs
        have hTe := hS.ty e te hte
        have hpf := hk.pf
        obtain ⟨v, hv0, hk⟩ := hk.go.elim
        have hag : aggT S.Γ e = te.kind.agg := by simp [aggT, hte]
        rw [hag] at hv0
        refine .pure hk fun E w ρ' hv o ho => ?_
        have h1 := hv x; have h2 := hv ix
        rw [hx] at h1; rw [hix] at h2
        simp only [VR] at h1 h2
        obtain ⟨us, h1, hu⟩ := h1
        obtain ⟨i, hi, hi2, _⟩ := hTe.info'
        obtain ⟨u, hp1, hp2⟩ := run_part (P := S.P) (t := e) hTe.und hTe.aggP ⟨i, hi, hi2⟩ hu hv0 w
        exact ⟨u, by simp [execOp, ho, h1, h2, Instr.index, asIntOf, run_underlying (hT.arr hkd), hpf, hTe.runSize, hp1], hp2⟩
      · cases hs
    · exact hk.elim
  · exact hk.elim
theorem op_typeAssert (hS : SeatOK S) {x : Operand} {t a : TypeId} {ok : Bool} (hk : opK S.flat S.Γ ρ h nid (.typeAssert x t a ok) k) : OpSound S ρ h nid (.typeAssert x t a ok) k := by
  simp only [opK] at hk
  split at hk
  · rename_i t0 v ti hx hti
    have hT := hS.ty a ti hti
    obtain ⟨d, hd⟩ := hT.und
    split at hk
    · exact hk.elim
    · rename_i heq hni
      have heq := Nat.eq_of_beq_eq_true heq
      have hni := hT.notIface hni
      cases ok with
      | true =>
        refine .pure hk fun E w ρ' hv o ho => ?_
        have h1 := hv x; rw [hx] at h1; simp only [VR] at h1
        obtain ⟨u, h1, hu⟩ := h1
        refine ⟨.tuple #[u, .bool true], ?_, by simp only [VR]; exact ⟨[u, .bool true], rfl, VRL.cons hu (VRL.cons (by simp only [VR]) VRL.nil)⟩⟩
        simp only [execOp, ho, h1, Instr.typeAssert, Sem.run_bind, run_underlying hd, Result.andThen_ok]
        cases d <;> first | exact absurd hd (hni _) | simp [heq]
      | false =>
        refine .pure hk fun E w ρ' hv o ho => ?_
        have h1 := hv x; rw [hx] at h1; simp only [VR] at h1
        obtain ⟨u, h1, hu⟩ := h1
        refine ⟨u, ?_, hu⟩
        simp only [execOp, ho, h1, Instr.typeAssert, Sem.run_bind, run_underlying hd, Result.andThen_ok]
        cases d <;> first | exact absurd hd (hni _) | simp [heq]
    · rename_i heq hni
      have heq : t0 ≠ a := fun e => by subst e; simp at heq
      have hni := hT.notIface hni
      cases ok with
      | true =>
        refine .pure hk fun E w ρ' hv o ho => ?_
        have h1 := hv x; rw [hx] at h1; simp only [VR] at h1
        obtain ⟨u, h1, hu⟩ := h1
        refine ⟨.tuple #[ti.zero, .bool false], ?_, by simp only [VR]; exact ⟨[ti.zero, .bool false], rfl, VRL.cons (ofV_VR E _) (VRL.cons (by simp only [VR]) VRL.nil)⟩⟩
        simp only [execOp, ho, h1, Instr.typeAssert, Sem.run_bind, run_underlying hd, Result.andThen_ok]
        cases d <;> first | exact absurd hd (hni _) | simp [heq, hT.runZero]
      | false => exact hk.elim
  · exact hk.elim
end
end Go.Abs
