/- The abstract evaluator: what an operation, a region, a function's code comes to, on abstract values. No condition: definitions. -/
import Derived.Test.YtflibnlbkffilaaAbs0
set_option linter.unusedSimpArgs false
set_option linter.unusedVariables false
set_option linter.deprecated false
namespace Go.Abs
open Go.RowKit

/-- A piece of memory. -/
inductive Chunk where
  | var (cs : List AV) (t : Nat)
  | ro (cs : List AV)
  | tok (F t sz : Nat)
  | cb (seen : List (List AV)) (stop : Bool)
  | dead
  | unborn

abbrev Heap := List Chunk

inductive TK where
  | int (k : IntKind)
  | bool
  | str
  | struct (fs : List (Nat × Nat × Bool))
  | arr (n e : Nat)
  | slice (e : Nat)
  | ptr
  | func
  | iface
  | other

structure TI where
  kind : TK
  size : Nat
  bytes : Nat
  zero : Value

abbrev TT := Nat → Option TI
abbrev GT := Nat → Option (List AV)

/-- A program with what is known of its types and of its package-level variables. -/
structure Seat where
  P : Program
  Γ : TT
  G : GT
  flat : Nat → Option (List Nat)

def TK.agg : TK → Bool
  | .struct _ => true
  | .arr _ _ => true
  | _ => false

/-! ### What stands in the goal where the prover has his say -/
structure Req (p A : Prop) : Prop where
  pf : p
  go : A
structure Done (A : Prop) : Prop where
  out : A
/-- a number that is brought into its kind's range -/
structure WrapH (kd : IntKind) (n : Int) (k : Int → Prop) : Prop where
  out : k (kd.wrap n)
/-- a number that may be said otherwise -/
structure NumH (n : Int) (k : Int → Prop) : Prop where
  out : k n
theorem NumH.is {n : Int} {k : Int → Prop} (m : Int) (h : n = m) (hk : k m) : NumH n k := ⟨by rw [h]; exact hk⟩
theorem WrapH.is {kd : IntKind} {n : Int} {k : Int → Prop} (m : Int) (h : kd.wrap n = m) (hk : k m) : WrapH kd n k := ⟨by rw [h]; exact hk⟩
/-- a branch: what follows where c is true, and where it is false -/
def Br (c : Bool) (A B : Prop) : Prop := @Bool.rec (fun _ => Prop) B A c
/-- something that must be there -/
def LdK {α : Type} (r : Option α) (k : α → Prop) : Prop := @Option.rec α (fun _ => Prop) False k r

theorem brI {c : Bool} {A B : Prop} (h1 : c = true → A) (h2 : c = false → B) : @Bool.rec (fun _ => Prop) B A c := by
  cases c
  · exact h2 rfl
  · exact h1 rfl
theorem brT {c : Bool} {A B : Prop} (h : c = true) (h1 : A) : @Bool.rec (fun _ => Prop) B A c := by subst h; exact h1
theorem brF {c : Bool} {A B : Prop} (h : c = false) (h1 : B) : @Bool.rec (fun _ => Prop) B A c := by subst h; exact h1
theorem ldI {α : Type} {r : Option α} {k : α → Prop} (a : α) (h : r = some a) (hk : k a) : @Option.rec α (fun _ => Prop) False k r := by
  subst h; exact hk
theorem Br.elim {c : Bool} {A B : Prop} (h : Br c A B) : (c = true → A) ∧ (c = false → B) := by
  cases c
  · exact ⟨fun e => (nomatch e), fun _ => h⟩
  · exact ⟨fun _ => h, fun e => (nomatch e)⟩
theorem LdK.elim {α : Type} {r : Option α} {k : α → Prop} (h : LdK r k) : ∃ a, r = some a ∧ k a := by
  cases r with
  | none => exact False.elim h
  | some a => exact ⟨a, rfl, h⟩
/-- a value with its head laid open -/
def forceK (v : AV) (k : AV → Prop) : Prop :=
  match v with
  | .undef => k .undef
  | .bool b => k (.bool b)
  | .int a n => k (.int a n)
  | .str s => k (.str s)
  | .nilp => k .nilp
  | .ptr i o => k (.ptr i o)
  | .iptr cs => k (.iptr cs)
  | .nils => k .nils
  | .vec cs len g => k (.vec cs len g)
  | .row i o len cap => k (.row i o len cap)
  | .nilf => k .nilf
  | .fn f a b => k (.fn f a b)
  | .cb i => k (.cb i)
  | .nili => k .nili
  | .ifc t v => k (.ifc t v)
  | .agg cs => k (.agg cs)
  | .tup vs => k (.tup vs)
  | .mapp i => k (.mapp i)
  | .nilm => k .nilm
theorem forceK_eq (v : AV) (k : AV → Prop) : forceK v k = k v := by cases v <;> rfl

/-! ### Values -/
def ofCell : Value → AV
  | .bool b => .bool b
  | .int k n => .int k n
  | .string s => .str s.data.toList
  | .pointer none => .nilp
  | .slice none 0 0 => .nils
  | .nilFunc => .nilf
  | .nilIface => .nili
  | .map none => .nilm
  | _ => .undef
def ofCells : List Value → List AV
  | [] => []
  | v :: l => ofCell v :: ofCells l
def ofV : Value → AV
  | .agg cs => .agg (ofCells cs.toList)
  | .iface t v => .ifc t (ofCell v)
  | v => ofCell v

def getT : List AV → Nat → AV
  | [], _ => .undef
  | a :: _, 0 => a
  | _ :: l, i + 1 => getT l i
def getO {α : Type} : List α → Nat → Option α
  | [], _ => none
  | a :: _, 0 => some a
  | _ :: l, i + 1 => getO l i
def setK {α : Type} : List α → Nat → α → (List α → Prop) → Prop
  | [], _, _, k => k []
  | _ :: l, 0, v, k => k (v :: l)
  | a :: l, i + 1, v, k => setK l i v (fun l' => k (a :: l'))
def takeK : List AV → Nat → Option (List AV)
  | _, 0 => some []
  | [], _ + 1 => none
  | a :: l, n + 1 => match takeK l n with | some r => some (a :: r) | none => none
def dropL : List AV → Nat → List AV
  | l, 0 => l
  | [], _ + 1 => []
  | _ :: l, n + 1 => dropL l n
def sub (l : List AV) (off n : Nat) : Option (List AV) := takeK (dropL l off) n
def lenN {α : Type} : List α → Nat
  | [] => 0
  | _ :: l => lenN l + 1

def ev (G : GT) (t : List AV) : Operand → AV
  | .tmp i => getT t i
  | .const v => ofV v
  | .global g => match G g with | some cs => .iptr cs | none => .undef
  | .func f => .fn f [] []

def cellsOf : AV → List AV
  | .agg cs => cs
  | v => [v]

/-- the part of a row of cells at off, of so many cells -/
def partK (agg : Bool) (cs : List AV) (off size : Nat) : Option AV :=
  match agg with
  | true => match sub cs off size with | some r => some (.agg r) | none => none
  | false => getO cs off

def spliceK : List AV → Nat → List AV → (List AV → Prop) → Prop
  | cs, _, [], k => k cs
  | cs, o, v :: vs, k => setK cs o v (fun cs' => spliceK cs' (o + 1) vs k)

def kidx : IntKind → Nat
  | .i8 => 0 | .i16 => 1 | .i32 => 2 | .i64 => 3 | .u8 => 4 | .u16 => 5 | .u32 => 6 | .u64 => 7
def kEq (a b : IntKind) : Bool := Nat.beq (kidx a) (kidx b)

def bitOp (op : BinOp) (k : IntKind) (x y : Int) : Option Int :=
  match op with
  | .and => some (k.wrap (BitVec.ofInt k.bits x &&& BitVec.ofInt k.bits y).toNat)
  | .or => some (k.wrap (BitVec.ofInt k.bits x ||| BitVec.ofInt k.bits y).toNat)
  | .xor => some (k.wrap (BitVec.ofInt k.bits x ^^^ BitVec.ofInt k.bits y).toNat)
  | .andNot => some (k.wrap (BitVec.ofInt k.bits x &&& ~~~ BitVec.ofInt k.bits y).toNat)
  | _ => none

def intOp (op : BinOp) (k : IntKind) (a b : Int) : Option AV :=
  match op with
  | .add => some (.int k (k.wrap (a + b)))
  | .sub => some (.int k (k.wrap (a - b)))
  | .mul => some (.int k (k.wrap (a * b)))
  | .eql => some (.bool (a == b))
  | .neq => some (.bool (a != b))
  | .lss => some (.bool (a < b))
  | .leq => some (.bool (a ≤ b))
  | .gtr => some (.bool (a > b))
  | .geq => some (.bool (a ≥ b))
  | op => match bitOp op k a b with | some n => some (.int k n) | none => none

def arithK (op : BinOp) (kx : IntKind) (a b : Int) (k : AV → Prop) : Prop :=
  match op with
  | .add => WrapH kx (a + b) (fun n => k (.int kx n))
  | .sub => WrapH kx (a - b) (fun n => k (.int kx n))
  | .mul => WrapH kx (a * b) (fun n => k (.int kx n))
  | .and => WrapH kx (BitVec.ofInt kx.bits a &&& BitVec.ofInt kx.bits b).toNat (fun n => k (.int kx n))
  | .or => WrapH kx (BitVec.ofInt kx.bits a ||| BitVec.ofInt kx.bits b).toNat (fun n => k (.int kx n))
  | .xor => WrapH kx (BitVec.ofInt kx.bits a ^^^ BitVec.ofInt kx.bits b).toNat (fun n => k (.int kx n))
  | .andNot => WrapH kx (BitVec.ofInt kx.bits a &&& ~~~ BitVec.ofInt kx.bits b).toNat (fun n => k (.int kx n))
  | op => LdK (intOp op kx a b) k
theorem arithK_ld {op : BinOp} {kx : IntKind} {a b : Int} {k : AV → Prop} (h : arithK op kx a b k) : LdK (intOp op kx a b) k := by
  cases op <;> first | exact h | exact h.out
/-- equality of two cells that are numbers, bools, strings -/
def cellEq : AV → AV → Option Bool
  | .int k a, .int k' b => match kEq k k' with | true => some (a == b) | false => none
  | .bool a, .bool b => some (a == b)
  | .str a, .str b => some (a == b)
  | _, _ => none
def cellsEq : List AV → List AV → Option Bool
  | [], [] => some true
  | a :: as, b :: bs => match cellEq a b, cellsEq as bs with | some x, some y => some (x && y) | _, _ => none
  | _, _ => none
/-- the kinds of cells: 0 a number, 1 a bool, 2 a string -/
def shapeB : List Nat → List AV → Bool
  | [], [] => true
  | n :: ns, c :: cs => match c with
    | .int _ _ => (match Nat.beq n 0 with | true => shapeB ns cs | false => false)
    | .bool _ => (match Nat.beq n 1 with | true => shapeB ns cs | false => false)
    | .str _ => (match Nat.beq n 2 with | true => shapeB ns cs | false => false)
    | _ => false
  | _, _ => false
/-- equality with nil -/
def nilEq : TK → AV → AV → Option Bool
  | .ptr, .nilp, .nilp => some true
  | .ptr, .nilp, .ptr _ _ => some false
  | .ptr, .ptr _ _, .nilp => some false
  | .ptr, .nilp, .iptr _ => some false
  | .ptr, .iptr _, .nilp => some false
  | .func, .nilf, .nilf => some true
  | .func, .nilf, .fn _ _ _ => some false
  | .func, .fn _ _ _, .nilf => some false
  | .func, .nilf, .cb _ => some false
  | .func, .cb _, .nilf => some false
  | .iface, .nilf, _ => none
  | .iface, .nili, .ifc _ _ => some false
  | .iface, .ifc _ _, .nili => some false
  | _, _, _ => none

def eqK (flat : Nat → Option (List Nat)) (Γ : TT) (ty : Nat) (x y : AV) : Option Bool :=
  match Γ ty with
  | none => none
  | some ti =>
    match ti.kind, x, y with
    | .bool, .bool a, .bool b => some (a == b)
    | .struct _, .agg xs, .agg ys => match flat ty with | some ks => (match shapeB ks xs, shapeB ks ys with | true, true => cellsEq xs ys | _, _ => none) | none => none
    | k, x, y => nilEq k x y

def binK (flat : Nat → Option (List Nat)) (Γ : TT) (op : BinOp) (ty : Nat) (x y : AV) (k : AV → Prop) : Prop :=
  match x, y with
  | .int kx a, .int ky b =>
    match op with
    | .shl => Req (0 ≤ b) (WrapH kx (a * 2 ^ (min b.toNat kx.bits)) (fun n => k (.int kx n)))
    | .shr => Req (0 ≤ b) (NumH (a.fdiv (2 ^ (min b.toNat kx.bits))) (fun n => k (.int kx n)))
    | .quo => match kEq kx ky with | true => Req (b ≠ 0) (WrapH kx (a.tdiv b) (fun n => k (.int kx n))) | false => False
    | .rem => match kEq kx ky with | true => Req (b ≠ 0) (NumH (a.tmod b) (fun n => k (.int kx n))) | false => False
    | op => match kEq kx ky with | true => arithK op kx a b k | false => False
  | .str a, .str b =>
    match op with
    | .add => Req (((a.length + b.length : Nat) : Int) ≤ 9223372036854775807) (k (.str (a ++ b)))
    | .eql => k (.bool (a == b))
    | .neq => k (.bool (!(a == b)))
    | _ => False
  | x, y =>
    match op with
    | .eql => LdK (eqK flat Γ ty x y) (fun r => k (.bool r))
    | .neq => LdK (eqK flat Γ ty x y) (fun r => k (.bool (!r)))
    | _ => False

def unK (op : UnOp) (x : AV) : Option AV :=
  match op, x with
  | .neg, .int k n => some (.int k (k.wrap (0 - n)))
  | .xor, .int k n => match bitOp .xor k (if k.signed then -1 else k.max) n with | some r => some (.int k r) | none => none
  | .not, .bool b => some (.bool (!b))
  | _, _ => none

def unopK (op : UnOp) (x : AV) (k : AV → Prop) : Prop :=
  match op, x with
  | .neg, .int kd n => WrapH kd (0 - n) (fun n => k (.int kd n))
  | .xor, .int kd n => WrapH kd (BitVec.ofInt kd.bits (if kd.signed then -1 else kd.max) ^^^ BitVec.ofInt kd.bits n).toNat (fun n => k (.int kd n))
  | op, x => LdK (unK op x) k
theorem unopK_ld {op : UnOp} {x : AV} {k : AV → Prop} (h : unopK op x k) : LdK (unK op x) k := by
  unfold unopK at h
  split at h
  · exact h.out
  · exact h.out
  · exact h

def convK (Γ : TT) (src dst : Nat) (x : AV) (k : AV → Prop) : Prop :=
  match Γ src, Γ dst with
  | some s, some d =>
    match s.kind, d.kind, x with
    | .int _, .int kd, .int _ n => WrapH kd n (fun n => k (.int kd n))
    | .str, .str, .str s => k (.str s)
    | .int _, .str, .int _ n => Req (0 ≤ n ∧ n < 128) (k (.str [UInt8.ofNat n.toNat]))
    | _, _, _ => False
  | _, _ => False

def intOf? : AV → Option Int
  | .int _ n => some n
  | _ => none
def natLe (a b : Nat) : Bool := Nat.ble a b

def solid : AV → Bool
  | .undef => false
  | .tup _ => false
  | _ => true

def fillK (fs : List (Nat × Nat × Bool)) : List (Nat × AV) → List AV → (List AV → Prop) → Prop
  | [], cs, k => k cs
  | (i, v) :: r, cs, k =>
    match getO fs i with
    | none => False
    | some (off, size, _) =>
      forceK v (fun v => match Nat.beq (lenN (cellsOf v)) size, natLe (off + lenN (cellsOf v)) (lenN cs), solid v with
      | true, true, true => spliceK cs off (cellsOf v) (fun cs' => fillK fs r cs' k)
      | _, _, _ => False)
def fillA (size : Nat) : List (Nat × AV) → List AV → (List AV → Prop) → Prop
  | [], cs, k => k cs
  | (i, v) :: r, cs, k =>
    forceK v (fun v => match Nat.beq (lenN (cellsOf v)) size, natLe (i * size + lenN (cellsOf v)) (lenN cs), solid v with
    | true, true, true => spliceK cs (i * size) (cellsOf v) (fun cs' => fillA size r cs' k)
    | _, _, _ => False)
def repL : Nat → List AV → List AV
  | 0, _ => []
  | n + 1, l => l ++ repL n l

def preK : List AV → List AV → (List AV → Prop) → Prop
  | [], r, k => k r
  | a :: l, r, k => preK l r (fun s => k (a :: s))
def repK : Nat → List AV → (List AV → Prop) → Prop
  | 0, _, k => k []
  | n + 1, l, k => repK n l (fun r => preK l r k)
theorem preK_eq : ∀ (l r : List AV) (k : List AV → Prop), preK l r k = k (l ++ r)
  | [], r, k => rfl
  | a :: l, r, k => by simp only [preK, preK_eq l r, List.cons_append]
theorem repK_eq : ∀ (n : Nat) (l : List AV) (k : List AV → Prop), repK n l k = k (repL n l)
  | 0, l, k => rfl
  | n + 1, l, k => by simp only [repK, repK_eq n l, preK_eq, repL]

def aggT (Γ : TT) (t : Nat) : Bool := match Γ t with | some i => i.kind.agg | none => false
def sizeT (Γ : TT) (t : Nat) : Option Nat := match Γ t with | some i => some i.size | none => none

/-- a value that lies in one cell -/
def okCell : AV → Bool
  | .undef => false
  | .agg _ => false
  | .tup _ => false
  | _ => true
def okCells : List AV → Bool
  | [] => true
  | c :: l => match okCell c with | true => okCells l | false => false
def mapF (ρ : Operand → AV) : List Operand → (List AV → Prop) → Prop
  | [], k => k []
  | o :: r, k => forceK (ρ o) (fun v => mapF ρ r (fun l => k (v :: l)))
theorem mapF_eq (ρ : Operand → AV) : ∀ (l : List Operand) (k : List AV → Prop), mapF ρ l k = k (l.map ρ)
  | [], k => rfl
  | o :: r, k => by simp only [mapF, forceK_eq, mapF_eq ρ r, List.map_cons]

abbrev OpK := AV → List (Nat × Chunk) → List Nat → Prop

def fieldPtr (off : Nat) : AV → Option AV
  | .ptr i o => some (.ptr i (o + off))
  | .iptr cs => some (.iptr (dropL cs off))
  | _ => none

/-- An operation that is no call. -/
def opK (flat : Nat → Option (List Nat)) (Γ : TT) (ρ : Operand → AV) (h : Heap) (nid : Nat) (op : Op) (k : OpK) : Prop :=
  match op with
  | .move x => forceK (ρ x) (fun v => k v [] [])
  | .assign x => forceK (ρ x) (fun v => k v [] [])
  | .pick c a b => match ρ c with | .bool b' => Br b' (forceK (ρ a) (fun v => k v [] [])) (forceK (ρ b) (fun v => k v [] [])) | _ => False
  | .alloc t => match Γ t with | some ti => k (.ptr nid 0) [(nid, .var (cellsOf (ofV ti.zero)) t)] [] | none => False
  | .box t v => forceK (ρ v) (fun x => match solid x with | true => k (.ptr nid 0) [(nid, .var (cellsOf x) t)] [] | false => False)
  | .build t parts =>
    match Γ t with
    | some ti =>
      match ti.kind with
      | .struct fs => fillK fs (parts.toList.map fun p => (p.1, ρ p.2)) (cellsOf (ofV ti.zero)) (fun cs => k (.agg cs) [] [])
      | .arr _ e => LdK (sizeT Γ e) (fun size => fillA size (parts.toList.map fun p => (p.1, ρ p.2)) (cellsOf (ofV ti.zero)) (fun cs => k (.agg cs) [] []))
      | _ => False
    | none => False
  | .buildSlice t len parts =>
    match Γ t with
    | some ti =>
      match ti.kind with
      | .slice e =>
        match Γ e with
        | some te =>
          match natLe (len * te.size) 16777216, natLe 1 te.size, Nat.beq (lenN (cellsOf (ofV te.zero))) te.size with
          | true, true, true => repK len (cellsOf (ofV te.zero)) (fun cs0 => fillA te.size (parts.toList.map fun p => (p.1, ρ p.2)) cs0 (fun cs => k (.vec cs len (some nid)) [(nid, .tok len e te.size)] []))
          | _, _, _ => False
        | none => False
      | _ => False
    | none => False
  | .load t a =>
    match ρ a with
    | .ptr i o =>
      LdK (sizeT Γ t) (fun size =>
        match getO h i with
        | some (.var cs _) => LdK (partK (aggT Γ t) cs o size) (fun v => k v [] [i])
        | some (.ro cs) => LdK (partK (aggT Γ t) cs o size) (fun v => k v [] [i])
        | _ => False)
    | .iptr cs => LdK (sizeT Γ t) (fun size => LdK (partK (aggT Γ t) cs 0 size) (fun v => k v [] []))
    | _ => False
  | .store t a x =>
    match ρ a with
    | .ptr i o =>
      match Γ t, getO h i with
      | some ti, some (.var cs ct) =>
        forceK (ρ x) (fun v => match Nat.beq (lenN (cellsOf v)) ti.size, natLe (o + lenN (cellsOf v)) (lenN cs), okCells (cellsOf v) with
        | true, true, true => spliceK cs o (cellsOf v) (fun cs' => k .undef [(i, .var cs' ct)] [i])
        | _, _, _ => False)
      | _, _ => False
    | _ => False
  | .nilCheck x =>
    match ρ x with
    | .ptr i o => k (.ptr i o) [] []
    | .iptr cs => k (.iptr cs) [] []
    | .fn f a b => k (.fn f a b) [] []
    | .cb i => k (.cb i) [] []
    | _ => False
  | .binOp op ty x y _ => binK flat Γ op ty (ρ x) (ρ y) (fun v => k v [] [])
  | .unOp op _ x => unopK op (ρ x) (fun v => k v [] [])
  | .convert src dst x => convK Γ src dst (ρ x) (fun v => k v [] [])
  | .makeInterface t x => match Γ t with | some ti => (match ti.kind with | .iface => False | _ => forceK (ρ x) (fun v => k (.ifc t v) [] [])) | none => False
  | .makeFunc (.func f) first caps => mapF ρ first.toList (fun l => mapF ρ caps.toList (fun r => k (.fn f l r) [] []))
  | .fieldAddr s x f =>
    match Γ s with
    | some ti =>
      match ti.kind with
      | .struct fs => LdK (getO fs f) (fun p => match natLe 1 p.2.1 with | true => LdK (fieldPtr p.1 (ρ x)) (fun v => k v [] []) | false => False)
      | _ => False
    | none => False
  | .field s x f =>
    match Γ s, ρ x with
    | some ti, .agg cs =>
      match ti.kind with
      | .struct fs => LdK (getO fs f) (fun p => LdK (partK p.2.2 cs p.1 p.2.1) (fun v => k v [] []))
      | _ => False
    | _, _ => False
  | .indexAddr t x ix =>
    match Γ t, ρ ix with
    | some ti, .int _ n =>
      match ti.kind, ρ x with
      | .arr len e, .ptr i o => LdK (sizeT Γ e) (fun size => Req (0 ≤ n ∧ n < len) (k (.ptr i (o + n.toNat * size)) [] []))
      | .arr len e, .iptr cs => LdK (sizeT Γ e) (fun size => Req (0 ≤ n ∧ n < len) (k (.iptr (dropL cs (n.toNat * size))) [] []))
      | .slice e, .vec cs len _ => LdK (sizeT Γ e) (fun size => Req (0 ≤ n ∧ n < len) (LdK (sub cs (n.toNat * size) size) (fun el => match el with | [] => False | c :: r => k (.iptr (c :: r)) [] [])))
      | .slice e, .row i o len _ => LdK (sizeT Γ e) (fun size => Req (0 ≤ n ∧ n < len) (k (.ptr i (o + n.toNat * size)) [] []))
      | _, _ => False
    | _, _ => False
  | .index t x ix =>
    match Γ t, ρ ix with
    | some ti, .int _ n =>
      match ti.kind, ρ x with
      | .str, .str s => Req (0 ≤ n ∧ n < s.length) (LdK (s[n.toNat]?) (fun b => k (.int .u8 b.toNat) [] []))
      | .arr len e, .agg cs => LdK (sizeT Γ e) (fun size => Req (0 ≤ n ∧ n < len) (LdK (partK (aggT Γ e) cs (n.toNat * size) size) (fun v => k v [] [])))
      | _, _ => False
    | _, _ => False
  | .slice t x lo hi mx =>
    match Γ t with
    | none => False
    | some ti =>
      match ti.kind, ρ x with
      | .str, .str s =>
        match mx with
        | some _ => False
        | none =>
        LdK (match lo with | none => some 0 | some l => intOf? (ρ l)) (fun l =>
        LdK (match hi with | none => some (s.length : Int) | some l => intOf? (ρ l)) (fun hh =>
          Req (0 ≤ l ∧ l ≤ hh ∧ hh ≤ s.length) (k (.str ((s.drop l.toNat).take (hh.toNat - l.toNat))) [] [])))
      | .slice e, .vec cs len _ =>
        LdK (sizeT Γ e) (fun size =>
        LdK (match lo with | none => some 0 | some l => intOf? (ρ l)) (fun l =>
        LdK (match hi, mx with | none, none => some (len : Int) | none, some _ => none | some l, _ => intOf? (ρ l)) (fun hh =>
        LdK (match mx with | none => some (len : Int) | some l => intOf? (ρ l)) (fun mm =>
          Req (0 ≤ l ∧ l ≤ hh ∧ hh ≤ mm ∧ mm ≤ len) (k (.vec ((cs.drop (l.toNat * size)).take ((hh.toNat - l.toNat) * size)) (hh.toNat - l.toNat) none) [] [])))))
      | .slice e, .nils =>
        match mx with
        | some _ => False
        | none =>
        LdK (sizeT Γ e) (fun _ =>
        LdK (match lo with | none => some 0 | some l => intOf? (ρ l)) (fun l =>
        LdK (match hi with | none => some (0 : Int) | some l => intOf? (ρ l)) (fun hh =>
          Req (l = 0 ∧ hh = 0) (k .nils [] []))))
      | .arr n e, .iptr cs =>
        match mx with
        | some _ => False
        | none =>
        LdK (sizeT Γ e) (fun size =>
        LdK (match lo with | none => some 0 | some l => intOf? (ρ l)) (fun l =>
        LdK (match hi with | none => some (n : Int) | some l => intOf? (ρ l)) (fun hh =>
          Req (0 ≤ l ∧ l ≤ hh ∧ hh ≤ n ∧ n * size ≤ cs.length) (k (.vec ((cs.drop (l.toNat * size)).take ((hh.toNat - l.toNat) * size)) (hh.toNat - l.toNat) none) [] []))))
      | .arr n e, .ptr i o =>
        match mx with
        | some _ => False
        | none =>
        LdK (sizeT Γ e) (fun size =>
        LdK (match lo with | none => some 0 | some l => intOf? (ρ l)) (fun l =>
        LdK (match hi with | none => some (n : Int) | some l => intOf? (ρ l)) (fun hh =>
          Req (0 ≤ l ∧ l ≤ hh ∧ hh ≤ n) (match decide (l < n) with
            | true => k (.row i (o + l.toNat * size) (hh.toNat - l.toNat) (n - l.toNat)) [] []
            | false => k (.row i o (hh.toNat - l.toNat) (n - l.toNat)) [] []))))
      | _, _ => False
  | .extract x i => match ρ x with | .tup vs => LdK (getO vs i) (fun v => k v [] []) | _ => False
  | .typeAssert x _ asserted ok =>
    match ρ x, Γ asserted with
    | .ifc t v, some ti =>
      match ti.kind, Nat.beq t asserted with
      | .iface, _ => False
      | _, true => match ok with | true => k (.tup [v, .bool true]) [] [] | false => k v [] []
      | _, false => match ok with | true => k (.tup [ofV ti.zero, .bool false]) [] [] | false => False
    | _, _ => False
  | .makeSlice t l c =>
    match Γ t, ρ l, ρ c with
    | some ti, .int .i64 n, .int .i64 m =>
      match ti.kind with
      | .slice e => match Γ e with
        | some te => match Nat.beq (lenN (cellsOf (ofV te.zero))) te.size with
          | true => Req (0 ≤ n ∧ n ≤ m ∧ m ≤ 140737488355328 ∧ (te.bytes : Int) * m ≤ 281474976710656) (k (.row nid 0 n.toNat m.toNat) [(nid, .var (repL m.toNat (cellsOf (ofV te.zero))) e)] [])
          | false => False
        | none => False
      | _ => False
    | _, _, _ => False
  | _ => False

end Go.Abs
