/- Numbers of the machine, and lists of them, as the abstract evaluator has them. No condition: definitions and lemmas. -/
import Derived.Test.YtelgbnjagbleoaaDoorAbsC
set_option linter.unusedSimpArgs false
set_option linter.unusedVariables false
set_option linter.deprecated false
namespace Go.Abs

theorem wrap_i64 {n : Int} (h1 : -9223372036854775808 ≤ n) (h2 : n < 9223372036854775808) : IntKind.wrap .i64 n = n := by
  have hb : IntKind.bits .i64 = 64 := rfl
  have hs : IntKind.signed .i64 = true := rfl
  unfold IntKind.wrap
  simp only [hb, hs, Bool.true_and, decide_eq_true_eq]
  split <;> omega
theorem wrap_i32 {n : Int} (h1 : -2147483648 ≤ n) (h2 : n < 2147483648) : IntKind.wrap .i32 n = n := by
  have hb : IntKind.bits .i32 = 32 := rfl
  have hs : IntKind.signed .i32 = true := rfl
  unfold IntKind.wrap
  simp only [hb, hs, Bool.true_and, decide_eq_true_eq]
  split <;> omega
theorem wrap_u64m {n : Int} : IntKind.wrap .u64 n = n % 18446744073709551616 := by
  have hb : IntKind.bits .u64 = 64 := rfl
  have hs : IntKind.signed .u64 = false := rfl
  unfold IntKind.wrap
  simp [hb, hs]
theorem wrap_u64 {n : Int} (h1 : 0 ≤ n) (h2 : n < 18446744073709551616) : IntKind.wrap .u64 n = n := by rw [wrap_u64m]; omega
theorem wrap_u8m {n : Int} : IntKind.wrap .u8 n = n % 256 := by
  have hb : IntKind.bits .u8 = 8 := rfl
  have hs : IntKind.signed .u8 = false := rfl
  unfold IntKind.wrap
  simp [hb, hs]
def I64 (n : Int) : Prop := -9223372036854775808 ≤ n ∧ n < 9223372036854775808
def U64 (n : Int) : Prop := 0 ≤ n ∧ n < 18446744073709551616

/-- cells of a list of numbers -/
def ci (k : IntKind) (l : List Int) : List AV := l.map (.int k)
/-- a list of numbers -/
def lv (l : List Int) : AV := .vec (ci .i64 l) l.length none
theorem ci_closed (k : IntKind) (l : List Int) : ClosedL (ci k l) := ClosedL_iff.2 fun c hc => by
  obtain ⟨n, _, rfl⟩ := List.mem_map.1 hc; simp only [Closed]
theorem lv_closed (l : List Int) : Closed (lv l) := by simp only [lv, Closed]; exact ⟨trivial, ci_closed _ _⟩
theorem ci_ids {p : Nat → Prop} (k : IntKind) (l : List Int) : IdsL p (ci k l) := ClosedL.ids _ (ci_closed k l)
theorem lv_ids {p : Nat → Prop} (l : List Int) : Ids p (lv l) := Closed.ids _ (lv_closed l)
theorem ci_ok (k : IntKind) (l : List Int) : ∀ c ∈ ci k l, okCell c = true := fun c hc => by
  obtain ⟨n, _, rfl⟩ := List.mem_map.1 hc; rfl
theorem ci_length (k : IntKind) (l : List Int) : (ci k l).length = l.length := List.length_map _
theorem ci_append (k : IntKind) (l m : List Int) : ci k l ++ ci k m = ci k (l ++ m) := (List.map_append).symm
theorem ci_take (k : IntKind) (l : List Int) (n : Nat) : (ci k l).take n = ci k (l.take n) := (List.map_take).symm
theorem ci_drop (k : IntKind) (l : List Int) (n : Nat) : (ci k l).drop n = ci k (l.drop n) := (List.map_drop).symm
/-- the element at an index -/
theorem ci_sub (k : IntKind) {l : List Int} {i : Nat} {x : Int} (h : l[i]? = some x) : sub (ci k l) (i * 1) 1 = some [.int k x] := by
  have hlt := (List.getElem?_eq_some_iff.1 h).1
  rw [sub_of (.inl (by rw [ci_length]; omega)), ci_drop, ci_take, Nat.mul_one, List.take_one, List.head?_drop, h]
  rfl
theorem lv_tok {l : List Int} {g : Option Nat} : Weak (.vec (ci .i64 l) l.length g) (lv l) := Weak.tok
theorem lv_nils : Weak .nils (lv []) := Weak.nils

theorem weak_eq {v v' : AV} (h : v = v') : Weak v v' := h ▸ Weak.refl v
/-- a part of a list of numbers -/
theorem ci_part (k : IntKind) (l : List Int) (a b : Nat) : AV.vec (((ci k l).drop (a * 1)).take ((b - a) * 1)) (b - a) none = .vec (ci k ((l.drop a).take (b - a))) (b - a) none := by
  rw [ci_drop, ci_take, Nat.mul_one, Nat.mul_one]
theorem lv_take {l : List Int} {n : Nat} (h : n ≤ l.length) : AV.vec (ci .i64 (l.take n)) n none = lv (l.take n) := by
  unfold lv; rw [List.length_take, Nat.min_eq_left h]

theorem WrapH.quo {a b : Int} {k : Int → Prop} (h0 : 0 ≤ a) (h1 : 0 < b) (h2 : a < 9223372036854775808) (hk : k (a / b)) : WrapH .i64 (a.tdiv b) k := by
  refine WrapH.is (a / b) ?_ hk
  rw [Int.tdiv_eq_ediv_of_nonneg h0]
  have h3 : 0 ≤ a / b := Int.ediv_nonneg h0 (by omega)
  have h4 : a / b ≤ a := Int.ediv_le_self b h0
  exact wrap_i64 (by omega) (by omega)
theorem WrapH.quoU {a b : Int} {k : Int → Prop} (h0 : 0 ≤ a) (h1 : 0 < b) (h2 : a < 18446744073709551616) (hk : k (a / b)) : WrapH .u64 (a.tdiv b) k := by
  refine WrapH.is (a / b) ?_ hk
  rw [Int.tdiv_eq_ediv_of_nonneg h0]
  have h3 : 0 ≤ a / b := Int.ediv_nonneg h0 (by omega)
  have h4 : a / b ≤ a := Int.ediv_le_self b h0
  exact wrap_u64 (by omega) (by omega)
theorem NumH.rem {a b : Int} {k : Int → Prop} (h0 : 0 ≤ a) (hk : k (a % b)) : NumH (a.tmod b) k := NumH.is _ (Int.tmod_eq_emod_of_nonneg h0) hk

theorem drop_cons' {α : Type} {l : List α} {i : Nat} {x : α} (h : l[i]? = some x) : l.drop i = x :: l.drop (i + 1) := by
  have hlt := (List.getElem?_eq_some_iff.1 h).1
  rw [List.drop_eq_getElem_cons hlt]
  rw [List.getElem?_eq_getElem hlt] at h
  rw [Option.some.inj h]
theorem drop_nil' {α : Type} {l : List α} {i : Nat} (h : l.length ≤ i) : l.drop i = [] := List.drop_eq_nil_of_le h
/-- one number more behind a list of its own -/
theorem ci_snoc (k : IntKind) (l : List Int) (x : Int) (g : Option Nat) : AV.vec (ci k l ++ [.int k x]) (l.length + 1) g = .vec (ci k (l ++ [x])) (l ++ [x]).length g := by simp [ci]

theorem WeakL.setAt : ∀ {l : List AV} (d : Nat) {v v' : AV}, getT l d = v → Weak v v' → WeakL l (l.set d v')
  | [], d, v, v', _, _ => trivial
  | a :: l, 0, v, v', h, hw => ⟨by rw [show a = v from h]; exact hw, WeakL.refl l⟩
  | a :: l, d + 1, v, v', h, hw => ⟨Weak.refl a, WeakL.setAt (l := l) d h hw⟩
theorem WeakL.trans : ∀ {a b c : List AV}, WeakL a b → WeakL b c → WeakL a c
  | [], [], [], _, _ => trivial
  | x :: a, y :: b, z :: c, h, k => ⟨h.1.trans k.1, WeakL.trans h.2 k.2⟩
  | [], [], _ :: _, _, k => k.elim
  | [], _ :: _, _, h, _ => h.elim
  | _ :: _, [], _, h, _ => h.elim
  | _ :: _, _ :: _, [], _, k => k.elim
theorem repL_one (x : AV) : ∀ n, repL n [x] = List.replicate n x
  | 0 => rfl
  | n + 1 => by rw [repL, repL_one x n, List.replicate_succ]; rfl
theorem ci_zeros (k : IntKind) (n : Nat) : repL n [AV.int k 0] = ci k (List.replicate n 0) := by rw [repL_one]; simp [ci]

/-! ### Branches, by what their conditions say -/
section
variable {A B : Prop}
theorem brD {p : Prop} [Decidable p] (h1 : p → A) (h2 : ¬ p → B) : @Bool.rec (fun _ => Prop) B A (decide p) := brI (fun h => h1 (of_decide_eq_true h)) (fun h => h2 (of_decide_eq_false h))
theorem brDT {p : Prop} [Decidable p] (h : p) (h1 : A) : @Bool.rec (fun _ => Prop) B A (decide p) := brT (decide_eq_true h) h1
theorem brDF {p : Prop} [Decidable p] (h : ¬ p) (h1 : B) : @Bool.rec (fun _ => Prop) B A (decide p) := brF (decide_eq_false h) h1
theorem brE {a b : Int} (h1 : a = b → A) (h2 : a ≠ b → B) : @Bool.rec (fun _ => Prop) B A (a == b) := brI (fun h => h1 (by simpa using h)) (fun h => h2 (by simpa using h))
theorem brET {a b : Int} (h : a = b) (h1 : A) : @Bool.rec (fun _ => Prop) B A (a == b) := brT (by simpa using h) h1
theorem brEF {a b : Int} (h : a ≠ b) (h1 : B) : @Bool.rec (fun _ => Prop) B A (a == b) := brF (by simpa using h) h1
theorem brNE {a b : Int} (h1 : a ≠ b → A) (h2 : a = b → B) : @Bool.rec (fun _ => Prop) B A (a != b) := brI (fun h => h1 (by simpa using h)) (fun h => h2 (by simpa using h))
theorem brNET {a b : Int} (h : a ≠ b) (h1 : A) : @Bool.rec (fun _ => Prop) B A (a != b) := brT (by simpa using h) h1
theorem brNEF {a b : Int} (h : a = b) (h1 : B) : @Bool.rec (fun _ => Prop) B A (a != b) := brF (by simpa using h) h1
theorem brNot {c : Bool} (h : @Bool.rec (fun _ => Prop) A B c) : @Bool.rec (fun _ => Prop) B A (!c) := by cases c <;> exact h
theorem brBE {a b : Bool} (h1 : a = b → A) (h2 : a ≠ b → B) : @Bool.rec (fun _ => Prop) B A (a == b) := brI (fun h => h1 (by simpa using h)) (fun h => h2 (by simpa using h))
theorem brBNE {a b : Bool} (h1 : a ≠ b → A) (h2 : a = b → B) : @Bool.rec (fun _ => Prop) B A (a != b) := brI (fun h => h1 (by simpa using h)) (fun h => h2 (by simpa using h))
end
/-- the element at an index, by a name -/
theorem ldSub {k : IntKind} {l : List Int} {n : Int} {K : List AV → Prop} (h : 0 ≤ n ∧ n < l.length) (hk : ∀ x, l[n.toNat]? = some x → K [.int k x]) : @Option.rec _ (fun _ => Prop) False K (sub (ci k l) (n.toNat * 1) 1) := by
  have hlt : n.toNat < l.length := by omega
  have hx : l[n.toNat]? = some l[n.toNat] := List.getElem?_eq_getElem hlt
  exact ldI _ (ci_sub k hx) (hk _ hx)

/-! ### The steps of a walk -/
theorem zq1 {a b : Int} {k : Int → Prop} (h : 0 ≤ a ∧ 0 < b ∧ a < 9223372036854775808) (hk : k (a / b)) : WrapH .i64 (a.tdiv b) k := WrapH.quo h.1 h.2.1 h.2.2 hk
theorem zq2 {a b : Int} {k : Int → Prop} (h : 0 ≤ a ∧ 0 < b ∧ a < 18446744073709551616) (hk : k (a / b)) : WrapH .u64 (a.tdiv b) k := WrapH.quoU h.1 h.2.1 h.2.2 hk
theorem zq4 {n : Int} {k : Int → Prop} (h : -9223372036854775808 ≤ n ∧ n < 9223372036854775808) (hk : k n) : WrapH .i64 n k := WrapH.is _ (wrap_i64 h.1 h.2) hk
theorem zq5 {n : Int} {k : Int → Prop} (h : 0 ≤ n ∧ n < 18446744073709551616) (hk : k n) : WrapH .u64 n k := WrapH.is _ (wrap_u64 h.1 h.2) hk
theorem zq6 {n : Int} {k : Int → Prop} (hk : k (n % 18446744073709551616)) : WrapH .u64 n k := WrapH.is _ wrap_u64m hk

end Go.Abs
