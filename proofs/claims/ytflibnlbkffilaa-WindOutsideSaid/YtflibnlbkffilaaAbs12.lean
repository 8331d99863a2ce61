/- The abstract evaluator for regions and code: calls, loops and the like stand in the goal as heads of their own. No condition: definitions. -/
import Derived.Test.YtflibnlbkffilaaAbs11
set_option linter.unusedSimpArgs false
set_option linter.unusedVariables false
set_option linter.deprecated false
namespace Go.Abs
open Go.RowKit

inductive AExit where
  | normal
  | exit (id : Nat)
  | goto (l : Nat)
  | ret
  | pan (v : AV)

abbrev ExK := AExit → List AV → Heap → Prop

def markOf (D : Nat) : Deferred := { target := .collected D, args := #[] }

def ActR (E : Env) (t : List AV) (a : Act) : Prop := VRL E t a.tmps.toList ∧ a.defers = E.marks.map markOf ∧ E.marks.Nodup

def fen (E : Env) : Fence := match E.rnd with | none => Fence.wide | some l => Fence.wide.inRound l

def ExitR (E : Env) : AExit → Exit → Prop
  | .normal, e => e = .normal
  | .exit i, e => e = .exit i
  | .goto i, e => e = .goto i
  | .ret, e => e = .ret
  | .pan v, e => ∃ u, e = .panic [{ v := u, recovered := false }] ∧ VR E v u

def PostR (S : Seat) (E : Env) (k : ExK) (e : Exit) (a : Act) (w : World) : Prop :=
  ∃ E' t h x, Ext E E' ∧ R S E' h w ∧ ActR E' t a ∧ ExitR E' x e ∧ k x t h

/-- code, from these temporaries and this memory, ends as k says -/
structure Sat (S : Seat) (c : Code) (t : List AV) (h : Heap) (k : ExK) : Prop where
  out : ∀ (E : Env) (w : World) (a : Act), R S E h w → ActR E t a → c.wpIn (fen E) 0 S.P (PostR S E k) a w

/-- operations, listed by their places, from these temporaries and this memory -/
structure SatOps (S : Seat) (ops : Array Oper) (l : List Nat) (t : List AV) (h : Heap) (k : ExK) : Prop where
  out : ∀ (E : Env) (w : World) (a : Act), R S E h w → ActR E t a → wpOpsIn (fen E) 0 S.P ops (PostR S E k) l a w

/-- the call of a function -/
structure CallH (S : Seat) (f : Nat) (args : List AV) (h : Heap) (k : AEnd → Heap → Prop) : Prop where
  out : ACalls S f args h k

/-- the call of a function value that came in -/
structure CbH (S : Seat) (i : Nat) (args : List AV) (h : Heap) (k : AEnd → Heap → Prop) : Prop where
  out : ∀ (E : Env) (w : World) (args' : List Value) (fv : Value), R S E h w → VRL E args args' → VR E (.cb i) fv →
    Invoke S.P fv args' w fun e w' => ∃ E' h' r, Ext E E' ∧ E'.marks = E.marks ∧ R S E' h' w' ∧ EndR E' r e ∧ k r h'

def lenAV : TK → AV → Option Int
  | .str, .str s => some s.length
  | .slice _, .vec _ n _ => some n
  | .slice _, .nils => some 0
  | .slice _, .row _ _ n _ => some n
  | .arr n _, _ => some n
  | _, _ => none
def min2A (x y : AV) : Option AV := match x, y with | .int k a, .int k' b => (match kEq k k' with | true => some (.int k (if b < a then b else a)) | false => none) | _, _ => none
def max2A (x y : AV) : Option AV := match x, y with | .int k a, .int k' b => (match kEq k k' with | true => some (.int k (if b > a then b else a)) | false => none) | _, _ => none
def foldK (f : AV → AV → Option AV) : AV → List AV → (AV → Prop) → Prop
  | x, [], k => k x
  | x, y :: r, k => LdK (f x y) (fun z => foldK f z r k)
def appL {α : Type} : List α → List α → List α
  | [], l => l
  | a :: r, l => a :: appL r l
theorem appL_eq {α : Type} : ∀ (a b : List α), appL a b = a ++ b
  | [], b => rfl
  | x :: a, b => by simp [appL, appL_eq a b]

def setD (t : List AV) (d : Option Nat) (v : AV) (k : List AV → Prop) : Prop :=
  match d with
  | some i => forceK v (fun v => setK t i v k)
  | none => k t
def setDst (t : List AV) (d : Option Nat) (v : AV) : List AV := match d with | some i => t.set i v | none => t
theorem setD_eq (t : List AV) (d : Option Nat) (v : AV) (k : List AV → Prop) : setD t d v k = k (setDst t d v) := by
  cases d <;> simp [setD, setDst, forceK_eq, setK_eq]

def putsK : Heap → List (Nat × Chunk) → (Heap → Prop) → Prop
  | h, [], k => k h
  | h, (i, c) :: r, k => putK h i c (fun h' => putsK h' r k)
theorem putsK_eq : ∀ (h : Heap) (ups : List (Nat × Chunk)) (k : Heap → Prop), putsK h ups k = k (puts h ups)
  | h, [], k => rfl
  | h, (i, c) :: r, k => by simp only [putsK, putK_eq, puts]; exact putsK_eq _ r k

/-- append: what it comes to; the list's own token is asked for -/
def appK (S : Seat) (h : Heap) (nid : Nat) (t : Nat) (s x : AV) (k : OpK) : Prop :=
  match S.Γ t with
  | some ti =>
    match ti.kind with
    | .slice e =>
      match S.Γ e with
      | some te =>
        match x with
        | .vec ds m _ =>
          match s with
          | .nils => Req (ds.length = m * te.size ∧ (∀ c ∈ ds, okCell c = true) ∧ m * te.bytes ≤ 140737488355328 ∧ m ≤ 9223372036854775807 ∧ 0 < te.size)
              (k (.vec ds m (some nid)) [(nid, .tok m e te.size)] [])
          | .vec cs len (some i) =>
            match getO h i with
            | some (.tok F e' sz) => Req (F = len ∧ e' = e ∧ sz = te.size ∧ cs.length = len * te.size ∧ ds.length = m * te.size ∧ (∀ c ∈ ds, okCell c = true) ∧ (len + m) * te.bytes ≤ 140737488355328 ∧ len + m ≤ 9223372036854775807 ∧ 0 < te.size)
                (k (.vec (cs ++ ds) (len + m) (some i)) [(i, .tok (len + m) e te.size)] [i])
            | _ => False
          | _ => False
        | .nils =>
          match s with
          | .nils => k .nils [] []
          | .vec cs len g => k (.vec cs len g) [] []
          | _ => False
        | _ => False
      | none => False
    | _ => False
  | none => False

/-- One operation, calls among them; what it makes anew is piece nid. -/
def operN (S : Seat) (nid : Nat) (o : Oper) (t : List AV) (h : Heap) (k : AEnd → Heap → Prop) : Prop :=
  match o.op with
  | .call c =>
    match c.callee with
    | .value fo =>
      match ev S.G t fo with
      | .fn f a b => mapF (ev S.G t) c.args.toList (fun l => CallH S f (appL a (appL l b)) h k)
      | .cb i => mapF (ev S.G t) c.args.toList (fun l => CbH S i l h k)
      | _ => False
    | .builtin .len =>
      match c.args.toList, c.argTypes.toList with
      | x :: _, ty :: _ => match S.Γ ty with
        | some ti => LdK (lenAV ti.kind (ev S.G t x)) (fun n => k (.ret (.int .i64 n)) h)
        | none => False
      | _, _ => False
    | .builtin .min => mapF (ev S.G t) c.args.toList (fun l => match l with | x :: r => foldK min2A x r (fun v => k (.ret v) h) | [] => False)
    | .builtin .max => mapF (ev S.G t) c.args.toList (fun l => match l with | x :: r => foldK max2A x r (fun v => k (.ret v) h) | [] => False)
    | .builtin .append =>
      match c.args.toList, c.argTypes.toList with
      | [s, x], [ty, ty2] => match Nat.beq ty ty2 with
        | true => appK S h nid ty (ev S.G t s) (ev S.G t x) (fun v ups _ => putsK h ups (fun h' => k (.ret v) h'))
        | false => False
      | _, _ => False
    | _ => False
  | .panic x => match ev S.G t x with | .ifc ty v => k (.pan (.ifc ty v)) h | _ => False
  | op => opK S.flat S.Γ (ev S.G t) h nid op (fun v ups _ => putsK h ups (fun h' => k (.ret v) h'))

def operK (S : Seat) (o : Oper) (t : List AV) (h : Heap) (k : AEnd → Heap → Prop) : Prop := operN S (lenN h) o t h k

def opsK (S : Seat) (ops : List Oper) : List Oper → List AV → Heap → ExK → Prop
  | [], t, h, k => k .normal t h
  | o :: r, t, h, k =>
    match o.guard with
    | none => operK S o t h (fun e h' => match e with | .ret v => setD t o.dst v (fun t' => opsK S ops r t' h' k) | .pan v => k (.pan v) t h')
    | some (j, want) =>
      match getO ops j with
      | some oj =>
        match oj.dst with
        | some d =>
          match getT t d, want with
          | .bool b, true => Br b (operK S o t h (fun e h' => match e with | .ret v => setD t o.dst v (fun t' => opsK S ops r t' h' k) | .pan v => k (.pan v) t h')) (setD t o.dst (.tup []) (fun t' => opsK S ops r t' h k))
          | .bool b, false => Br b (setD t o.dst (.tup []) (fun t' => opsK S ops r t' h k)) (operK S o t h (fun e h' => match e with | .ret v => setD t o.dst v (fun t' => opsK S ops r t' h' k) | .pan v => k (.pan v) t h'))
          | .tup [], _ => setD t o.dst (.tup []) (fun t' => opsK S ops r t' h k)
          | _, _ => False
        | none => False
      | none => False

/-- a region whose order is open -/
structure DrawH (S : Seat) (id : Nat) (ops : List Oper) (t : List AV) (h : Heap) (k : ExK) : Prop where
  out : Sat S (.region id ops.toArray true) t h k

/-- Code. -/
def codeK (S : Seat) : Code → List AV → Heap → ExK → Prop
  | .skip, t, h, k => k .normal t h
  | .label _, t, h, k => k .normal t h
  | .region id ops draw, t, h, k =>
    match draw with
    | false => opsK S ops.toList ops.toList t h k
    | true => DrawH S id ops.toList t h k
  | .seq a b, t, h, k => codeK S a t h (fun e t' h' => match e with | .normal => codeK S b t' h' k | .exit i => k (.exit i) t' h' | .goto i => k (.goto i) t' h' | .ret => k .ret t' h' | .pan v => k (.pan v) t' h')
  | .cond c a b, t, h, k => match ev S.G t c with | .bool x => Br x (codeK S a t h k) (codeK S b t h k) | _ => False
  | .block id b, t, h, k => codeK S b t h (fun e t' h' => match e with | .exit j => (match Nat.beq j id with | true => k .normal t' h' | false => k (.exit j) t' h') | .normal => k .normal t' h' | .goto i => k (.goto i) t' h' | .ret => k .ret t' h' | .pan v => k (.pan v) t' h')
  | .loop b, t, h, k => Sat S (.loop b) t h k
  | .rangeFunc f ps a b, t, h, k => Sat S (.rangeFunc f ps a b) t h k
  | .exit id, t, h, k => k (.exit id) t h
  | .goto l, t, h, k => k (.goto l) t h
  | .ret, t, h, k => k .ret t h
  | .scope b, t, h, k => Sat S (.scope b) t h k
  | .refuse _, _, _, _ => False

end Go.Abs
