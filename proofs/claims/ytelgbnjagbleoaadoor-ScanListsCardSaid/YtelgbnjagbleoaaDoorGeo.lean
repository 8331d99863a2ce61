/- Points and edges as the abstract evaluator has them; lists of structs. No condition: definitions and lemmas. -/
import Derived.Test.YtelgbnjagbleoaaDoorDig
set_option linter.unusedSimpArgs false
set_option linter.unusedVariables false
set_option linter.deprecated false
namespace Go.Abs

/-- the cells of a list of structs -/
def cs {α : Type} (f : α → List AV) (l : List α) : List AV := l.flatMap f
section
variable {α : Type} {f : α → List AV} {sz : Nat}
theorem cs_length (hf : ∀ a, (f a).length = sz) : ∀ l : List α, (cs f l).length = l.length * sz
  | [] => by simp [cs]
  | a :: l => by
    have := cs_length hf l
    simp only [cs, List.flatMap_cons, List.length_append, hf a, List.length_cons] at this ⊢
    rw [this, Nat.succ_mul, Nat.add_comm]
theorem cs_drop (hf : ∀ a, (f a).length = sz) : ∀ (l : List α) (i : Nat), (cs f l).drop (i * sz) = cs f (l.drop i)
  | l, 0 => by simp
  | [], i + 1 => by simp [cs]
  | a :: l, i + 1 => by
    have := cs_drop hf l i
    simp only [cs, List.flatMap_cons, List.drop_succ_cons] at this ⊢
    rw [← this, Nat.succ_mul, Nat.add_comm, ← List.drop_drop, ← hf a, List.drop_left]
theorem cs_sub (hf : ∀ a, (f a).length = sz) {l : List α} {i : Nat} {a : α} (h : l[i]? = some a) : sub (cs f l) (i * sz) sz = some (f a) := by
  have hlt := (List.getElem?_eq_some_iff.1 h).1
  have hle : i * sz + sz ≤ (cs f l).length := by rw [cs_length hf, ← Nat.succ_mul]; exact Nat.mul_le_mul_right _ hlt
  rw [sub_of (.inl hle), cs_drop hf, drop_cons' h]
  simp only [cs, List.flatMap_cons]
  rw [← hf a, List.take_left]
theorem cs_append (l m : List α) : cs f l ++ cs f m = cs f (l ++ m) := by simp [cs]
theorem cs_closed (h : ∀ a, ClosedL (f a)) (l : List α) : ClosedL (cs f l) := ClosedL_iff.2 fun c hc => by
  obtain ⟨a, _, hc⟩ := List.mem_flatMap.1 hc
  exact ClosedL_iff.1 (h a) c hc
theorem cs_ok (h : ∀ a, ∀ c ∈ f a, okCell c = true) (l : List α) : ∀ c ∈ cs f l, okCell c = true := fun c hc => by
  obtain ⟨a, _, hc⟩ := List.mem_flatMap.1 hc
  exact h a c hc
/-- the element at an index, by a name -/
theorem ldCs (hf : ∀ a, (f a).length = sz) {l : List α} {n : Int} {K : List AV → Prop} (h : 0 ≤ n ∧ n < l.length) (hk : ∀ x, l[n.toNat]? = some x → K (f x)) : @Option.rec _ (fun _ => Prop) False K (sub (cs f l) (n.toNat * sz) sz) := by
  have hlt : n.toNat < l.length := by omega
  have hx : l[n.toNat]? = some l[n.toNat] := List.getElem?_eq_getElem hlt
  exact ldI _ (cs_sub hf hx) (hk _ hx)
end

structure Pt where
  x : Int
  y : Int
structure Ed where
  p : Pt
  q : Pt
def Pt.c (p : Pt) : List AV := [.int .i64 p.x, .int .i64 p.y]
def Ed.c (e : Ed) : List AV := [.int .i64 e.p.x, .int .i64 e.p.y, .int .i64 e.q.x, .int .i64 e.q.y]
def Pt.a (p : Pt) : AV := .agg p.c
def Ed.a (e : Ed) : AV := .agg e.c
def plv (l : List Pt) : AV := .vec (cs Pt.c l) l.length none
def elv (l : List Ed) : AV := .vec (cs Ed.c l) l.length none
theorem Pt.c_len (p : Pt) : p.c.length = 2 := rfl
theorem Ed.c_len (e : Ed) : e.c.length = 4 := rfl
theorem Pt.closed (p : Pt) : Closed p.a := by simp [Pt.a, Pt.c, Closed, ClosedL]
theorem Ed.closed (e : Ed) : Closed e.a := by simp [Ed.a, Ed.c, Closed, ClosedL]
theorem plv_closed (l : List Pt) : Closed (plv l) := by simp only [plv, Closed]; exact ⟨trivial, cs_closed (fun p => by simp [Pt.c, ClosedL, Closed]) l⟩
theorem elv_closed (l : List Ed) : Closed (elv l) := by simp only [elv, Closed]; exact ⟨trivial, cs_closed (fun p => by simp [Ed.c, ClosedL, Closed]) l⟩
theorem plv_ids {p : Nat → Prop} (l : List Pt) : Ids p (plv l) := Closed.ids _ (plv_closed l)
theorem elv_ids {p : Nat → Prop} (l : List Ed) : Ids p (elv l) := Closed.ids _ (elv_closed l)
theorem ptcs_ids {p : Nat → Prop} (l : List Pt) : IdsL p (cs Pt.c l) := ClosedL.ids _ (cs_closed (fun p => by simp [Pt.c, ClosedL, Closed]) l)
theorem edcs_ids {p : Nat → Prop} (l : List Ed) : IdsL p (cs Ed.c l) := ClosedL.ids _ (cs_closed (fun p => by simp [Ed.c, ClosedL, Closed]) l)

/-- all of a point's numbers from -m to m -/
def Pt.in (p : Pt) (m : Int) : Prop := (-m ≤ p.x ∧ p.x ≤ m) ∧ -m ≤ p.y ∧ p.y ≤ m
instance (p : Pt) (m : Int) : Decidable (p.in m) := by unfold Pt.in; infer_instance
def Ed.in (e : Ed) (m : Int) : Prop := e.p.in m ∧ e.q.in m
instance (e : Ed) (m : Int) : Decidable (e.in m) := by unfold Ed.in; infer_instance

/-- a point on the right of an edge that goes down -/
def rightZ (a b p : Pt) : Int := (p.x - a.x) * (b.y - a.y) - (p.y - a.y) * (b.x - a.x)
def passN (e : Ed) (p : Pt) : Int :=
  if (e.p.y ≤ p.y ∧ p.y < e.q.y) ∧ 0 < rightZ e.p e.q p then 1
  else if (e.q.y ≤ p.y ∧ p.y < e.p.y) ∧ 0 < rightZ e.q e.p p then -1 else 0
theorem passN_bound (e : Ed) (p : Pt) : -1 ≤ passN e p ∧ passN e p ≤ 1 := by unfold passN; split <;> (try split) <;> omega
theorem passN_rev (e : Ed) (p : Pt) : passN ⟨e.q, e.p⟩ p = -passN e p := by
  unfold passN
  simp only
  repeat' split
  all_goals omega
def numN (p : Pt) : List Ed → Int
  | [] => 0
  | e :: l => passN e p + numN p l
theorem numN_append (p : Pt) : ∀ (a b : List Ed), numN p (a ++ b) = numN p a + numN p b
  | [], b => by simp [numN]
  | e :: a, b => by simp [numN, numN_append p a b, Int.add_assoc]
theorem numN_bound (p : Pt) : ∀ (l : List Ed), -(l.length : Int) ≤ numN p l ∧ numN p l ≤ l.length
  | [] => by simp [numN]
  | e :: l => by
    have := numN_bound p l
    have := passN_bound e p
    simp only [numN, List.length_cons]; omega
theorem numN_take_succ (p : Pt) {l : List Ed} {i : Nat} {e : Ed} (h : l[i]? = some e) : numN p (l.take (i + 1)) = numN p (l.take i) + passN e p := by
  rw [List.take_add_one, h, Option.toList_some, numN_append]; simp [numN]

def inN (rule n : Int) : Bool := if rule = 0 then decide (n ≠ 0) else if rule = 1 then decide (n % 2 = 1) else false
instance : Inhabited Pt := ⟨⟨0, 0⟩⟩
def ringF (l : List Pt) (i : Nat) : Ed := ⟨l[i]?.getD default, l[(i + 1) % l.length]?.getD default⟩
/-- the edges of points, put together -/
def ringE (l : List Pt) : List Ed := (List.range l.length).map (ringF l)
theorem ringE_length (l : List Pt) : (ringE l).length = l.length := by simp [ringE]
theorem ringE_take_succ (l : List Pt) {i : Nat} (h : i < l.length) : (ringE l).take (i + 1) = (ringE l).take i ++ [ringF l i] := by
  rw [List.take_add_one]
  simp [ringE, h]
/-- all edges' numbers from -m to m -/
def allIn (m : Int) (l : List Ed) : Prop := ∀ e ∈ l, e.in m
instance (m : Int) (l : List Ed) : Decidable (allIn m l) := by unfold allIn; infer_instance

/-! ### Sums with signs -/
def sv (s : Bool) (m : Nat) : Int := if s then -(m : Int) else m

end Go.Abs
