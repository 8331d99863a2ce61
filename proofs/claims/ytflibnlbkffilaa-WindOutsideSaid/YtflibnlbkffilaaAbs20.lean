/- Regions whose order is open: a plan, its evaluation and its check. No condition: definitions. -/
import Derived.Test.YtflibnlbkffilaaAbs19
import Derived.OrdersIn
set_option linter.unusedSimpArgs false
set_option linter.unusedVariables false
set_option linter.deprecated false
namespace Go.Abs
open Go.RowKit

/-- take: a reading operation gets its value at once, whenever the machine performs it · perform: the machine's next operation, but for those taken; what it makes anew is a piece that was kept free · both: either may be next -/
inductive Plan where
  | done
  | take (i : Nat) (p : Plan)
  | perform (i : Nat) (nid : Option Nat) (p : Plan)
  | both (p q : Plan)

/-- free pieces at the end are let go -/
noncomputable def trimU (h : Heap) : Heap :=
  @List.rec Chunk (fun _ => Heap) [] (fun c _ ih => match c, ih with | .unborn, [] => [] | c, l => c :: l) h
noncomputable def unborns (n : Nat) : Heap := @Nat.rec (fun _ => Heap) [] (fun _ ih => .unborn :: ih) n

/-- an operation taken, with what it read -/
structure Pend where
  i : Nat
  snap : List (Nat × Chunk)

def snapK (h : Heap) : List Nat → (List (Nat × Chunk) → Prop) → Prop
  | [], k => k []
  | i :: r, k => match getO h i with | some c => snapK h r (fun l => k ((i, c) :: l)) | none => False
def snapP (h : Heap) : List (Nat × Chunk) → Prop
  | [] => True
  | (i, c) :: r => getO h i = some c ∧ snapP h r
def pendP (h : Heap) : List Pend → Prop
  | [] => True
  | p :: r => snapP h p.snap ∧ pendP h r

def waits (o : Oper) (i : Nat) : Bool := o.after.toList.any fun e => Region.binds .any e && Nat.beq e.on i
def dropP (o : Oper) : List Pend → List Pend
  | [] => []
  | p :: r => match waits o p.i with | true => dropP o r | false => p :: dropP o r

/-- an operation that reads alone -/
def readK (S : Seat) (o : Oper) (t : List AV) (h : Heap) (k : AV → List Nat → Prop) : Prop :=
  match o.op with
  | .call c =>
    match c.callee with
    | .builtin .len =>
      match c.args.toList, c.argTypes.toList with
      | x :: _, ty :: _ => match S.Γ ty with
        | some ti => LdK (lenAV ti.kind (ev S.G t x)) (fun n => k (.int .i64 n) [])
        | none => False
      | _, _ => False
    | .builtin .min => mapF (ev S.G t) c.args.toList (fun l => match l with | x :: r => foldK min2A x r (fun v => k v []) | [] => False)
    | .builtin .max => mapF (ev S.G t) c.args.toList (fun l => match l with | x :: r => foldK max2A x r (fun v => k v []) | [] => False)
    | _ => False
  | op => opK S.flat S.Γ (ev S.G t) h (lenN h) op (fun v ups rds => match ups with | [] => k v rds | _ :: _ => False)

def guardK (ops : List Oper) (o : Oper) (t : List AV) (run skip : Prop) : Prop :=
  match o.guard with
  | none => run
  | some (j, want) =>
    match getO ops j with
    | some oj =>
      match oj.dst with
      | some d =>
        match getT t d, want with
        | .bool b, true => Br b run skip
        | .bool b, false => Br b skip run
        | .tup [], _ => skip
        | _, _ => False
      | none => False
    | none => False

def takeR (S : Seat) (ops : List Oper) (i : Nat) (ih : List Pend → List AV → Heap → Prop) (pend : List Pend) (t : List AV) (h : Heap) : Prop :=
  match getO ops i with
  | some o => guardK ops o t
      (readK S o t h (fun v rds => snapK h rds (fun sn => setD t o.dst v (fun t' => ih (⟨i, sn⟩ :: pend) t' h))))
      (setD t o.dst (.tup []) (fun t' => ih (⟨i, []⟩ :: pend) t' h))
  | none => False
def performN (S : Seat) (nid : Option Nat) (o : Oper) (t : List AV) (h : Heap) (k : AEnd → Heap → Prop) : Prop :=
  match nid with
  | none => operN S (lenN h) o t h k
  | some n => match getO h n with | some .unborn => operN S n o t h k | _ => False
def pendReq (h : Heap) (l : List Pend) (A : Prop) : Prop :=
  match l with
  | [] => A
  | p :: r => Req (pendP h (p :: r)) A
def performR (S : Seat) (ops : List Oper) (i : Nat) (nid : Option Nat) (k : ExK) (ih : List Pend → List AV → Heap → Prop) (pend : List Pend) (t : List AV) (h : Heap) : Prop :=
  match getO ops i with
  | some o => guardK ops o t
      (performN S nid o t h (fun e h' => match e with
        | .ret v => pendReq h' (dropP o pend) (setD t o.dst v (fun t' => ih (dropP o pend) t' h'))
        | .pan v => k (.pan v) (undefs (lenN t)) h'))
      (setD t o.dst (.tup []) (fun t' => ih (dropP o pend) t' h))
  | none => False
def planR (S : Seat) (ops : List Oper) (k : ExK) (p : Plan) : List Pend → List AV → Heap → Prop :=
  @Plan.rec (fun _ => List Pend → List AV → Heap → Prop)
    (fun _ t h => k .normal t (trimU h))
    (fun i _ ih => takeR S ops i ih)
    (fun i nid _ ih => performR S ops i nid k ih)
    (fun _ _ ip iq pend t h => ip pend t h ∧ iq pend t h) p

/-! ### The check -/
def headsOf : Plan → List Nat
  | .done => []
  | .take _ _ => []
  | .perform i _ _ => [i]
  | .both p q => headsOf p ++ headsOf q
def restOf (n : Nat) (L : List Nat) : List Nat := (List.range n).filter fun j => !L.contains j
def readyOf (ops : List Oper) (L : List Nat) : List Nat :=
  (restOf ops.length L).filter fun j => match ops[j]? with | some o => o.after.toList.all fun e => !Region.binds .any e || L.contains e.on | none => false
def sameSet (a b : List Nat) : Bool := a.all b.contains && b.all a.contains
/-- L: performed or taken; U: taken, not known to be performed; b: whether the set of what is ready is asked about here -/
def planOK (ops : List Oper) : Plan → Bool → List Nat → List Nat → Bool
  | .done, b, L, _ => b && (readyOf ops L).isEmpty
  | .take i p, b, L, U =>
    match ops[i]? with
    | some o => b && !L.contains i && (o.after.toList.all fun e => !Region.binds .any e || L.contains e.on) &&
        ((restOf ops.length (i :: L)).all fun j => match ops[j]? with | some oj => waits oj i || o.apart ops.toArray oj | none => true) &&
        (U.all fun p => match ops[p]? with | some op => (waits o p || op.apart ops.toArray o) && (match o.dst with | some d => !(op.looksAt ops.toArray).contains d && op.dst != some d | none => true) | none => false) &&
        (match o.dst with | some d => !(o.looksAt ops.toArray).contains d | none => true) &&
        planOK ops p true (i :: L) (i :: U)
    | none => false
  | .perform i _ p, b, L, U =>
    match ops[i]? with
    | some o => (!b || sameSet (readyOf ops L) [i]) && !L.contains i && planOK ops p true (i :: L) (U.filter fun j => !waits o j)
    | none => false
  | .both p q, b, L, U => (!b || sameSet (readyOf ops L) (headsOf p ++ headsOf q)) && planOK ops p false L U && planOK ops q false L U

end Go.Abs
