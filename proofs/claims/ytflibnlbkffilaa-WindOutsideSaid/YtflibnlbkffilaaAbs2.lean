/- How an abstract heap stands to the machine's memory ('R'), what a call of a function comes to in these words ('ACalls'), and the steps by which memory may turn. No condition: definitions and lemmas. -/
import Derived.Test.YtflibnlbkffilaaAbs1
set_option linter.unusedSimpArgs false
set_option linter.unusedVariables false
set_option linter.deprecated false
namespace Go.Abs
open Go.RowKit

/-- The streams are as they were. -/
structure Same3 (w w' : World) : Prop where
  os : w'.os = w.os
  tape : w'.tape = w.tape
  output : w'.output = w.output
theorem Same3.refl (w : World) : Same3 w w := ⟨rfl, rfl, rfl⟩
theorem Same3.trans {a b c : World} (h : Same3 a b) (k : Same3 b c) : Same3 a c := ⟨k.os.trans h.os, k.tape.trans h.tape, k.output.trans h.output⟩

def immOK (imm : Imm) (w : World) : Prop := ∀ b o u, imm b o = some u → w.cell? ⟨b, o, none⟩ = some u

/-- An environment that knows of no pieces of memory. -/
def closedEnv (imm : Imm) : Env :=
  { blk := fun _ => none, tok := fun _ => none, fp := fun _ _ => False, cbv := fun _ => none, cbJ := fun _ _ _ _ _ _ => False, imm := imm, keep := fun _ => False, base := default, rnd := none, marks := [] }

/-- The call of a function by its number: its body is entered, or the model answers for it. -/
def CallOut (P : Program) (f : FuncId) (args : Array Value) (w : World) (post : Ending → World → Prop) : Prop :=
  ((callFunc f args).run P w = .ok (.enter f args) w ∧ Calls P f args w post) ∨
  (∃ v w', (callFunc f args).run P w = .ok (.value v) w' ∧ post (.returned v) w')

theorem CallOut.mono {P : Program} {f : FuncId} {args : Array Value} {w : World} {R R' : Ending → World → Prop} (h : CallOut P f args w R) (hr : ∀ e w', R e w' → R' e w') : CallOut P f args w R' := by
  rcases h with ⟨h1, h2⟩ | ⟨v, w', h1, h2⟩
  · exact .inl ⟨h1, h2.mono hr⟩
  · exact .inr ⟨v, w', h1, hr _ _ h2⟩

/-- The call of a function value. -/
def Invoke (P : Program) (fv : Value) (args : List Value) (w : World) (post : Ending → World → Prop) : Prop :=
  (∃ f first caps, fv = .func (.func f) first caps ∧ CallOut P f (first ++ args.toArray ++ caps) w post) ∨
  (∃ l fn tmps assign body, fv = .func (.yield l) #[] #[] ∧ (Instr.yield l args.toArray).run P w = .ok (.round l fn tmps assign body) w ∧ RoundIn Fence.wide 0 P l fn tmps assign body w post)

theorem Invoke.mono {P : Program} {fv : Value} {args : List Value} {w : World} {R R' : Ending → World → Prop} (h : Invoke P fv args w R) (hr : ∀ e w', R e w' → R' e w') : Invoke P fv args w R' := by
  rcases h with ⟨f, a, b, h1, h2⟩ | ⟨l, fn, t, x, y, h1, h2, h3⟩
  · exact .inl ⟨f, a, b, h1, h2.mono hr⟩
  · exact .inr ⟨l, fn, t, x, y, h1, h2, h3.mono hr⟩

abbrev CbJ := List (List AV) → Bool → (Nat → Prop) → Imm → World → Prop

/-- What a function value that was handed in promises. J: what its owner holds, by what came so far and whether it said 'no more'. -/
structure CbOK (P : Program) (fv : Value) (J : CbJ) : Prop where
  isfn : ∃ fn a b, fv = .func fn a b ∧ ∀ n, fn ≠ .method n
  own : ∀ seen st fp imm w, J seen st fp imm w → ∀ b, fp b → b < w.heap.size
  loc : ∀ seen st fp imm w imm' w', J seen st fp imm w → (∀ b, fp b → w'.heap[b]? = w.heap[b]?) → (∀ b, fp b → ∀ o, imm' b o = imm b o) → (∀ b o u, imm b o = some u → imm' b o = some u) → immOK imm' w' → w.heap.size ≤ w'.heap.size → Same3 w w' → J seen st fp imm' w'
  call : ∀ seen fp imm w args args', J seen false fp imm w → immOK imm w → VRL (closedEnv imm) args args' → Invoke P fv args' w fun e w2 =>
    ∃ st fp2 imm2, e = .returned (.bool (!st)) ∧ J (seen ++ [args]) st fp2 imm2 w2 ∧ (∀ b o u, imm b o = some u → imm2 b o = some u) ∧ immOK imm2 w2 ∧
      (∀ b, b < w.heap.size → ¬ fp b → w2.heap[b]? = w.heap[b]?) ∧ (∀ b, b < w.heap.size → ¬ fp b → ∀ o, imm2 b o = imm b o) ∧ (∀ b, fp2 b → fp b ∨ w.heap.size ≤ b) ∧ w.heap.size ≤ w2.heap.size ∧ Same3 w w2

def ownsC (E : Env) (i : Nat) : Chunk → Nat → Prop
  | .var _ _, b => E.blk i = some b
  | .tok _ _ _, b => ∃ F v, E.tok i = some (F, v) ∧ v.ownBlock = some b
  | .cb _ _, b => E.fp i b
  | _, _ => False

def CR (P : Program) (E : Env) (w : World) (i : Nat) : Chunk → Prop
  | .var cs t => ∃ b us, E.blk i = some b ∧ w.heap[b]? = some (.cells us.toArray t (0, 0)) ∧ VRL E cs us ∧ (∀ o, E.imm b o = none) ∧ E.tok i = none
  | .ro cs => ∃ b, E.blk i = some b ∧ VRI E cs b 0
  | .tok F t sz => ∃ v xs, E.tok i = some (F, v) ∧ w.ownsRow 0 t sz v F xs ∧ (∀ b, v.ownBlock = some b → ∀ o u, E.imm b o = some u → xs[o]? = some u)
  | .cb seen st => ∃ fv, E.cbv i = some fv ∧ CbOK P fv (E.cbJ i) ∧ E.cbJ i seen st (E.fp i) E.imm w
  | .dead => True
  | .unborn => E.blk i = none ∧ E.tok i = none ∧ E.cbv i = none

structure R0 (S : Seat) (E : Env) (h : Heap) (w : World) : Prop where
  ch : ∀ i c, h[i]? = some c → CR S.P E w i c
  glob : ∀ g cs, S.G g = some cs → VRI E cs g 0
  non : ∀ i, h[i]? = none → E.blk i = none ∧ E.tok i = none ∧ E.cbv i = none
  lt : ∀ i c b, h[i]? = some c → ownsC E i c b → b < w.heap.size
  disj : ∀ i j c d b, h[i]? = some c → h[j]? = some d → ownsC E i c b → ownsC E j d b → i = j
  imm : immOK E.imm w
  rnd : ∀ l, E.rnd = some l → (∃ r, w.heap[l]? = some (.loop r)) ∧ ∀ i c, h[i]? = some c → ¬ ownsC E i c l
  mks : ∀ D ∈ E.marks, w.heap[D]? = some (.deferred (some [])) ∧ ¬ E.keep D ∧ ∀ i c, h[i]? = some c → ¬ ownsC E i c D

structure KP (E : Env) (h : Heap) (w : World) : Prop where
  same : ∀ b, E.keep b → w.heap[b]? = E.base.heap[b]?
  keep : ∀ i c b, h[i]? = some c → ownsC E i c b → ¬ E.keep b
  size : E.base.heap.size ≤ w.heap.size
  klt : ∀ b, E.keep b → b < E.base.heap.size
  s3 : Same3 E.base w

structure R (S : Seat) (E : Env) (h : Heap) (w : World) : Prop where
  r0 : R0 S E h w
  kp : KP E h w

inductive AEnd where
  | ret (v : AV)
  | pan (v : AV)

def EndR (E : Env) : AEnd → Ending → Prop
  | .ret a, e => ∃ v, e = .returned v ∧ VR E a v
  | .pan a, e => ∃ v, e = .panicked [{ v, recovered := false }] ∧ VR E a v

/-- WHAT A CALL COMES TO, in abstract words. -/
def ACalls (S : Seat) (f : Nat) (args : List AV) (h : Heap) (Q : AEnd → Heap → Prop) : Prop :=
  ∀ (E : Env) (w : World) (args' : List Value), E.marks = [] → E.rnd = none → R S E h w → VRL E args args' →
    CallOut S.P f args'.toArray w fun e w' => ∃ E' h' r, Ext E E' ∧ E'.marks = [] ∧ R S E' h' w' ∧ EndR E' r e ∧ Q r h'

theorem ACalls.mono {S : Seat} {f : Nat} {args : List AV} {h : Heap} {Q Q' : AEnd → Heap → Prop} (hc : ACalls S f args h Q) (hq : ∀ r h', Q r h' → Q' r h') : ACalls S f args h Q' :=
  fun E w args' hm hn hr ha => (hc E w args' hm hn hr ha).mono fun _ _ ⟨E', h', r, h1, h2, h3, h4, h5⟩ => ⟨E', h', r, h1, h2, h3, h4, hq _ _ h5⟩

/-! ### What is owned stays related where it is left alone -/

/-- A world and cells known that differ from others only outside of what is owned here. -/
structure Apart (E : Env) (h : Heap) (w : World) (imm' : Imm) (w' : World) : Prop where
  own : ∀ i c b, h[i]? = some c → ownsC E i c b → w'.heap[b]? = w.heap[b]?
  ownI : ∀ i c b, h[i]? = some c → ownsC E i c b → ∀ o, imm' b o = E.imm b o
  imm : ∀ b o u, E.imm b o = some u → imm' b o = some u
  ok : immOK imm' w'
  size : w.heap.size ≤ w'.heap.size
  s3 : Same3 w w'
  rnd : ∀ l, E.rnd = some l → w'.heap[l]? = w.heap[l]?
  mks : ∀ D ∈ E.marks, w'.heap[D]? = w.heap[D]?

def Env.withImm (E : Env) (imm' : Imm) : Env := { E with imm := imm' }

theorem VExt.withImm {E : Env} {imm' : Imm} (h : ∀ b o u, E.imm b o = some u → imm' b o = some u) : VExt E (E.withImm imm') :=
  ⟨fun _ _ h => h, fun _ F v h => ⟨F, v, h, .inr ⟨rfl, rfl⟩⟩, fun _ _ h => h, h⟩

theorem ownsRow_of_same {w w' : World} {t sz : Nat} {v : Value} {n : Nat} {xs : List Value} (h : w.ownsRow 0 t sz v n xs) (hs : ∀ b, v.ownBlock = some b → w'.heap[b]? = w.heap[b]?) : w'.ownsRow 0 t sz v n xs := by
  refine ⟨h.1, ?_⟩
  rcases h.2 with hn | ⟨g, cap, cur, rfl, hb, hg, rest⟩
  · exact .inl hn
  · exact .inr ⟨g, cap, cur, rfl, hb, by rw [hs g rfl]; exact hg, rest⟩

/-- One piece of memory, seen from a later environment and world that leave it alone. -/
theorem CR.move {P : Program} {E E' : Env} {w w' : World} {i : Nat} {c : Chunk} (hv : VExt E E') (hb : E'.blk i = E.blk i) (ht : E'.tok i = E.tok i) (hc1 : E'.cbv i = E.cbv i) (hc2 : E'.cbJ i = E.cbJ i) (hf : E'.fp i = E.fp i)
    (own : ∀ b, ownsC E i c b → w'.heap[b]? = w.heap[b]?) (ownI : ∀ b, ownsC E i c b → ∀ o, E'.imm b o = E.imm b o) (ok : immOK E'.imm w') (size : w.heap.size ≤ w'.heap.size) (s3 : Same3 w w')
    (hc : CR P E w i c) : CR P E' w' i c := by
  cases c with
  | var cs t =>
    obtain ⟨b, us, h1, h2, h3, h5, h6⟩ := hc
    exact ⟨b, us, by rw [hb]; exact h1, by rw [own b h1]; exact h2, h3.mono hv, fun o => (by rw [ownI b h1]; exact h5 o), by rw [ht]; exact h6⟩
  | ro cs =>
    obtain ⟨b, h1, h2⟩ := hc
    exact ⟨b, by rw [hb]; exact h1, h2.mono hv⟩
  | tok F t sz =>
    obtain ⟨v, xs, h1, h2, h4⟩ := hc
    refine ⟨v, xs, by rw [ht]; exact h1, ownsRow_of_same h2 fun b hb => own b ⟨F, v, h1, hb⟩, fun b hb o u hu => ?_⟩
    rw [ownI b ⟨F, v, h1, hb⟩] at hu
    exact h4 b hb o u hu
  | cb seen st =>
    obtain ⟨fv, h1, h2, h3⟩ := hc
    refine ⟨fv, by rw [hc1]; exact h1, by rw [hc2]; exact h2, ?_⟩
    rw [hc2, hf]
    exact h2.loc _ _ _ _ _ _ _ h3 (fun b hb => own b hb) (fun b hb => ownI b hb) hv.imm ok size s3
  | dead => exact trivial
  | unborn => exact ⟨by rw [hb]; exact hc.1, by rw [ht]; exact hc.2.1, by rw [hc1]; exact hc.2.2⟩

theorem CR.apart {P : Program} {E : Env} {h : Heap} {w : World} {imm' : Imm} {w' : World} (ha : Apart E h w imm' w') {i : Nat} {c : Chunk} (hi : h[i]? = some c) (hc : CR P E w i c) : CR P (E.withImm imm') w' i c :=
  hc.move (VExt.withImm ha.imm) rfl rfl rfl rfl rfl (fun b hb => ha.own i c b hi hb) (fun b hb => ha.ownI i c b hi hb) ha.ok ha.size ha.s3

theorem ownsC_withImm (E : Env) (imm' : Imm) (i : Nat) (c : Chunk) (b : Nat) : ownsC (E.withImm imm') i c b = ownsC E i c b := by cases c <;> rfl

theorem R0.apart {S : Seat} {E : Env} {h : Heap} {w : World} {imm' : Imm} {w' : World} (hr : R0 S E h w) (ha : Apart E h w imm' w') : R0 S (E.withImm imm') h w' where
  glob g cs hg := (hr.glob g cs hg).mono (VExt.withImm ha.imm)
  ch i c hi := (hr.ch i c hi).apart ha hi
  non := hr.non
  lt i c b hi ho := Nat.lt_of_lt_of_le (hr.lt i c b hi (by rwa [ownsC_withImm] at ho)) ha.size
  disj i j c d b hi hj h1 h2 := hr.disj i j c d b hi hj (by rwa [ownsC_withImm] at h1) (by rwa [ownsC_withImm] at h2)
  imm := ha.ok
  rnd l hl := ⟨by rw [ha.rnd l hl]; exact (hr.rnd l hl).1, fun i c hi ho => (hr.rnd l hl).2 i c hi (by rwa [ownsC_withImm] at ho)⟩
  mks D hD := ⟨by rw [ha.mks D hD]; exact (hr.mks D hD).1, (hr.mks D hD).2.1, fun i c hi ho => (hr.mks D hD).2.2 i c hi (by rwa [ownsC_withImm] at ho)⟩


/-! ### Writing a piece of an abstract heap -/
def put : Heap → Nat → Chunk → Heap
  | [], 0, c => [c]
  | [], i + 1, c => .unborn :: put [] i c
  | _ :: l, 0, c => c :: l
  | a :: l, i + 1, c => a :: put l i c
def putK : Heap → Nat → Chunk → (Heap → Prop) → Prop
  | [], 0, c, k => k [c]
  | [], i + 1, c, k => putK [] i c (fun l => k (.unborn :: l))
  | _ :: l, 0, c, k => k (c :: l)
  | a :: l, i + 1, c, k => putK l i c (fun l' => k (a :: l'))
theorem putK_eq : ∀ (h : Heap) (i : Nat) (c : Chunk) (k : Heap → Prop), putK h i c k = k (put h i c)
  | [], 0, c, k => rfl
  | [], i + 1, c, k => by simp only [putK, put, putK_eq [] i c]
  | _ :: l, 0, c, k => rfl
  | a :: l, i + 1, c, k => by simp only [putK, put, putK_eq l i c]
theorem put_same : ∀ (h : Heap) (i : Nat) (c : Chunk), (put h i c)[i]? = some c
  | [], 0, c => rfl
  | [], i + 1, c => by simp [put, put_same [] i c]
  | _ :: l, 0, c => rfl
  | a :: l, i + 1, c => by simp [put, put_same l i c]
theorem put_ne : ∀ (h : Heap) (i : Nat) (c : Chunk) (j : Nat) (d : Chunk), j ≠ i → (put h i c)[j]? = some d → h[j]? = some d ∨ (h[j]? = none ∧ d = .unborn)
  | [], 0, c, j, d, hne, hd => by
    cases j with
    | zero => exact absurd rfl hne
    | succ j => simp [put] at hd
  | [], i + 1, c, j, d, hne, hd => by
    cases j with
    | zero => simp [put] at hd; exact .inr ⟨rfl, hd.symm⟩
    | succ j =>
      simp [put] at hd
      rcases put_ne [] i c j d (by omega) hd with h | h
      · simp at h
      · exact .inr ⟨by simp, h.2⟩
  | a :: l, 0, c, j, d, hne, hd => by
    cases j with
    | zero => exact absurd rfl hne
    | succ j => simp [put] at hd; exact .inl (by simpa using hd)
  | a :: l, i + 1, c, j, d, hne, hd => by
    cases j with
    | zero => simp [put] at hd; exact .inl (by simpa using hd)
    | succ j =>
      simp [put] at hd
      simpa using put_ne l i c j d (by omega) hd
theorem put_old : ∀ (h : Heap) (i : Nat) (c : Chunk) (j : Nat) (d : Chunk), j ≠ i → h[j]? = some d → (put h i c)[j]? = some d
  | [], i, c, j, d, hne, hd => by simp at hd
  | a :: l, 0, c, j, d, hne, hd => by
    cases j with
    | zero => exact absurd rfl hne
    | succ j => simpa [put] using hd
  | a :: l, i + 1, c, j, d, hne, hd => by
    cases j with
    | zero => simpa [put] using hd
    | succ j => simp at hd; simpa [put] using put_old l i c j d (by omega) hd
theorem put_none : ∀ (h : Heap) (i : Nat) (c : Chunk) (j : Nat), (put h i c)[j]? = none → j ≠ i ∧ h[j]? = none
  | h, i, c, j, hn => by
    have hne : j ≠ i := fun e => by subst e; rw [put_same] at hn; cases hn
    refine ⟨hne, ?_⟩
    cases hj : h[j]? with
    | none => rfl
    | some d => rw [put_old h i c j d hne hj] at hn; cases hn
theorem put_append (h : Heap) (c : Chunk) : put h h.length c = h ++ [c] := by
  induction h with
  | nil => rfl
  | cons a l ih => simp [put, ih]
theorem put_set : ∀ (h : Heap) (i : Nat) (c : Chunk), i < h.length → put h i c = h.set i c
  | [], i, c, hi => by simp at hi
  | a :: l, 0, c, _ => rfl
  | a :: l, i + 1, c, hi => by simp at hi; simp [put, put_set l i c hi]

/-- What is asked of a step that writes piece i. -/
structure PutOK (S : Seat) (E : Env) (h : Heap) (w : World) (i : Nat) (c : Chunk) (E' : Env) (w' : World) : Prop where
  v : VExt E E'
  blk : ∀ j, j ≠ i → E'.blk j = E.blk j
  tok : ∀ j, j ≠ i → E'.tok j = E.tok j
  cbv : ∀ j, j ≠ i → E'.cbv j = E.cbv j
  cbJ : ∀ j, j ≠ i → E'.cbJ j = E.cbJ j
  fp : ∀ j, j ≠ i → E'.fp j = E.fp j
  own : ∀ j d b, j ≠ i → h[j]? = some d → ownsC E j d b → w'.heap[b]? = w.heap[b]?
  ownI : ∀ j d b, j ≠ i → h[j]? = some d → ownsC E j d b → ∀ o, E'.imm b o = E.imm b o
  ok : immOK E'.imm w'
  cr : CR S.P E' w' i c
  new : ∀ b, ownsC E' i c b → b < w'.heap.size ∧ ¬ E.keep b ∧ (∀ j d, j ≠ i → h[j]? = some d → ¬ ownsC E j d b) ∧ E.rnd ≠ some b ∧ b ∉ E.marks
  kp : ∀ b, E.keep b → w'.heap[b]? = w.heap[b]?
  size : w.heap.size ≤ w'.heap.size
  s3 : Same3 w w'
  hrnd : ∀ l, E.rnd = some l → w'.heap[l]? = w.heap[l]?
  hmks : ∀ D ∈ E.marks, w'.heap[D]? = w.heap[D]?
  keep : E'.keep = E.keep
  base : E'.base = E.base
  rnd : E'.rnd = E.rnd
  marks : E'.marks = E.marks

theorem ownsC_congr {E E' : Env} {i : Nat} (hb : E'.blk i = E.blk i) (ht : E'.tok i = E.tok i) (hf : E'.fp i = E.fp i) (c : Chunk) (b : Nat) : ownsC E' i c b ↔ ownsC E i c b := by
  cases c <;> simp [ownsC, hb, ht, hf]

theorem R.step {S : Seat} {E : Env} {h : Heap} {w : World} {i : Nat} {c : Chunk} {E' : Env} {w' : World} (hr : R S E h w) (hp : PutOK S E h w i c E' w') : R S E' (put h i c) w' := by
  have oc : ∀ j, j ≠ i → ∀ d b, ownsC E' j d b ↔ ownsC E j d b := fun j hj d b => ownsC_congr (hp.blk j hj) (hp.tok j hj) (hp.fp j hj) d b
  have nb : ∀ (j : Nat) (b : Nat), ¬ ownsC E' j .unborn b := fun j b ho => ho
  refine ⟨⟨?_, fun g cs hg => (hr.r0.glob g cs hg).mono hp.v, ?_, ?_, ?_, hp.ok, ?_, ?_⟩, ⟨?_, ?_, ?_, ?_, ?_⟩⟩
  · intro j d hd
    by_cases hj : j = i
    · subst hj; rw [put_same] at hd; cases hd; exact hp.cr
    · rcases put_ne h i c j d hj hd with hd2 | ⟨hd2, rfl⟩
      · exact (hr.r0.ch j d hd2).move hp.v (hp.blk j hj) (hp.tok j hj) (hp.cbv j hj) (hp.cbJ j hj) (hp.fp j hj) (fun b hb => hp.own j d b hj hd2 hb) (fun b hb => hp.ownI j d b hj hd2 hb) hp.ok hp.size hp.s3
      · obtain ⟨a1, a2, a3⟩ := hr.r0.non j hd2
        exact ⟨by rw [hp.blk j hj]; exact a1, by rw [hp.tok j hj]; exact a2, by rw [hp.cbv j hj]; exact a3⟩
  · intro j hn
    obtain ⟨hj, hn⟩ := put_none h i c j hn
    obtain ⟨a1, a2, a3⟩ := hr.r0.non j hn
    exact ⟨by rw [hp.blk j hj]; exact a1, by rw [hp.tok j hj]; exact a2, by rw [hp.cbv j hj]; exact a3⟩
  · intro j d b hd ho
    by_cases hj : j = i
    · subst hj; rw [put_same] at hd; cases hd; exact (hp.new b ho).1
    · rcases put_ne h i c j d hj hd with hd2 | ⟨hd2, rfl⟩
      · exact Nat.lt_of_lt_of_le (hr.r0.lt j d b hd2 ((oc j hj d b).1 ho)) hp.size
      · exact (nb j b ho).elim
  · intro j k d e b hd he ho1 ho2
    by_cases hj : j = i
    · by_cases hk : k = i
      · rw [hj, hk]
      · rcases put_ne h i c k e hk he with he2 | ⟨he2, rfl⟩
        · subst hj; rw [put_same] at hd; cases hd
          exact ((hp.new b ho1).2.2.1 k e hk he2 ((oc k hk e b).1 ho2)).elim
        · exact (nb k b ho2).elim
    · rcases put_ne h i c j d hj hd with hd2 | ⟨hd2, rfl⟩
      · by_cases hk : k = i
        · subst hk; rw [put_same] at he; cases he
          exact ((hp.new b ho2).2.2.1 j d hj hd2 ((oc j hj d b).1 ho1)).elim
        · rcases put_ne h i c k e hk he with he2 | ⟨he2, rfl⟩
          · exact hr.r0.disj j k d e b hd2 he2 ((oc j hj d b).1 ho1) ((oc k hk e b).1 ho2)
          · exact (nb k b ho2).elim
      · exact (nb j b ho1).elim
  · intro l hl
    rw [hp.rnd] at hl
    refine ⟨by rw [hp.hrnd l hl]; exact (hr.r0.rnd l hl).1, fun j d hd ho => ?_⟩
    by_cases hj : j = i
    · subst hj; rw [put_same] at hd; cases hd; exact (hp.new l ho).2.2.2.1 hl
    · rcases put_ne h i c j d hj hd with hd2 | ⟨hd2, rfl⟩
      · exact (hr.r0.rnd l hl).2 j d hd2 ((oc j hj d l).1 ho)
      · exact nb j l ho
  · intro D hD
    rw [hp.marks] at hD
    refine ⟨by rw [hp.hmks D hD]; exact (hr.r0.mks D hD).1, by rw [hp.keep]; exact (hr.r0.mks D hD).2.1, fun j d hd ho => ?_⟩
    by_cases hj : j = i
    · subst hj; rw [put_same] at hd; cases hd; exact (hp.new D ho).2.2.2.2 hD
    · rcases put_ne h i c j d hj hd with hd2 | ⟨hd2, rfl⟩
      · exact (hr.r0.mks D hD).2.2 j d hd2 ((oc j hj d D).1 ho)
      · exact nb j D ho
  · intro b hb
    rw [hp.keep] at hb
    rw [hp.base, hp.kp b hb]; exact hr.kp.same b hb
  · intro j d b hd ho
    rw [hp.keep]
    by_cases hj : j = i
    · subst hj; rw [put_same] at hd; cases hd; exact (hp.new b ho).2.1
    · rcases put_ne h i c j d hj hd with hd2 | ⟨hd2, rfl⟩
      · exact hr.kp.keep j d b hd2 ((oc j hj d b).1 ho)
      · exact (nb j b ho).elim
  · rw [hp.base]; exact Nat.le_trans hr.kp.size hp.size
  · intro b hb; rw [hp.keep] at hb; rw [hp.base]; exact hr.kp.klt b hb
  · rw [hp.base]; exact hr.kp.s3.trans hp.s3

end Go.Abs
