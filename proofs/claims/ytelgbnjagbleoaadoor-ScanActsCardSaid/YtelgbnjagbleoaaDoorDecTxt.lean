/- The program's scan is the document's. Plain arithmetic. Conditions: none. -/
import Derived.Test.YtelgbnjagbleoaaDoorDecScan2
import Derived.Test.YtelgbnjagbleoaaDoorDecRef
set_option linter.unusedSimpArgs false
set_option linter.unusedVariables false
set_option linter.deprecated false
namespace Go.Proofs.YtelgbnjagbleoaaDoor
open Go.Abs
def ans (sg : Bool) (st : Nat) (l : List UInt8) : Nat × Bool := ((dfa sg st l).1, endsT (dfa sg st l).2)
theorem ans_nil (sg : Bool) (st : Nat) : ans sg st [] = (0, endsT st) := rfl
theorem ans_stop {sg : Bool} {st : Nat} {b : UInt8} {l : List UInt8} {k : Int} (hk : kindN b.toNat = k) (h : stopT sg st k = true) : ans sg st (b :: l) = (0, endsT st) := by
  unfold ans dfa; rw [hk, if_pos h]
theorem ans_step {sg : Bool} {st : Nat} {b : UInt8} {l : List UInt8} {k : Int} (hk : kindN b.toNat = k) (h : stopT sg st k = false) : ans sg st (b :: l) = ((ans sg (nextT st k) l).1 + 1, (ans sg (nextT st k) l).2) := by
  unfold ans; rw [dfa, hk, if_neg (by rw [h]; decide)]
theorem runN_0 {b : UInt8} {l : List UInt8} (h : kindN b.toNat = 0) : runN (b :: l) = runN l + 1 := if_pos h
theorem runN_n {b : UInt8} {l : List UInt8} {k : Int} (hk : kindN b.toNat = k) (h : k ≠ 0) : runN (b :: l) = 0 := if_neg (by rw [hk]; exact h)
theorem L8 (sg : Bool) : ∀ l, ans sg 8 l = (runN l, true)
  | [] => rfl
  | b :: l => by
    rcases kindN_cases b.toNat with ⟨h, -⟩ | ⟨h, -⟩ | ⟨h, -⟩ | ⟨h, -⟩ | ⟨h, -⟩
    · rw [ans_step h (by rfl), show nextT 8 0 = 8 from rfl, L8 sg l, runN_0 h]
    all_goals rw [ans_stop h (by rfl), runN_n h (by decide)]; rfl
theorem L7 (sg : Bool) : ∀ l, ans sg 7 l = (runN l, decide (0 < runN l))
  | [] => rfl
  | b :: l => by
    rcases kindN_cases b.toNat with ⟨h, -⟩ | ⟨h, -⟩ | ⟨h, -⟩ | ⟨h, -⟩ | ⟨h, -⟩
    · rw [ans_step h (by rfl), show nextT 7 0 = 8 from rfl, L8 sg l, runN_0 h, decide_eq_true (Nat.succ_pos _)]
    all_goals rw [ans_stop h (by rfl), runN_n h (by decide)]; rfl
def expS (l : List UInt8) : Nat × Bool := if kd l = 3 then (1 + runN (l.drop 1), decide (0 < runN (l.drop 1))) else (runN l, decide (0 < runN l))
theorem L6 (sg : Bool) : ∀ l, ans sg 6 l = expS l
  | [] => rfl
  | b :: l => by
    unfold expS
    rcases kindN_cases b.toNat with ⟨h, -⟩ | ⟨h, -⟩ | ⟨h, -⟩ | ⟨h, -⟩ | ⟨h, -⟩
    · rw [if_neg (by rw [kd, h]; decide), ans_step h (by rfl), show nextT 6 0 = 8 from rfl, L8 sg l, runN_0 h, decide_eq_true (Nat.succ_pos _)]
    · rw [if_neg (by rw [kd, h]; decide), ans_stop h (by rfl), runN_n h (by decide)]; rfl
    · rw [if_neg (by rw [kd, h]; decide), ans_stop h (by rfl), runN_n h (by decide)]; rfl
    · rw [if_pos (by rw [kd, h]), ans_step h (by rfl), show nextT 6 3 = 7 from rfl, L7 sg l, List.drop_one, List.tail_cons, Nat.add_comm]
    · rw [if_neg (by rw [kd, h]; decide), ans_stop h (by rfl), runN_n h (by decide)]; rfl
def eS (sm : Bool) (l : List UInt8) : Nat × Bool := if sm = false then (0, false) else if kd l = 2 then (1 + (expS (l.drop 1)).1, (expS (l.drop 1)).2) else (0, true)
def addA (n : Nat) (a : Nat × Bool) : Nat × Bool := (n + a.1, a.2)
theorem addA_add (m n : Nat) (a : Nat × Bool) : addA m (addA n a) = addA (m + n) a := by simp [addA, Nat.add_assoc]
theorem addA_zero (a : Nat × Bool) : addA 0 a = a := by simp [addA]
theorem ans_step' {sg : Bool} {st st' : Nat} {b : UInt8} {l : List UInt8} {k : Int} (hk : kindN b.toNat = k) (h : stopT sg st k = false) (hn : nextT st k = st') : ans sg st (b :: l) = addA 1 (ans sg st' l) := by
  rw [ans_step hk h, hn, addA, Nat.add_comm]
theorem L5 (sg : Bool) : ∀ l, ans sg 5 l = addA (runN l) (eS true (l.drop (runN l)))
  | [] => rfl
  | b :: l => by
    rcases kindN_cases b.toNat with ⟨h, -⟩ | ⟨h, -⟩ | ⟨h, -⟩ | ⟨h, -⟩ | ⟨h, -⟩
    · rw [ans_step' (st' := 5) h (by rfl) rfl, L5 sg l, runN_0 h, addA_add, Nat.add_comm 1, List.drop_succ_cons]
    · rw [ans_stop h (by rfl), runN_n h (by decide), addA_zero, List.drop_zero]; unfold eS; rw [if_neg (by decide), if_neg (by rw [kd, h]; decide)]; rfl
    · rw [ans_step' (st' := 6) h (by rfl) rfl, runN_n h (by decide), addA_zero, List.drop_zero, L6]; unfold eS; rw [if_neg (by decide), if_pos (by rw [kd, h])]; rfl
    all_goals rw [ans_stop h (by rfl), runN_n h (by decide), addA_zero, List.drop_zero]; unfold eS; rw [if_neg (by decide), if_neg (by rw [kd, h]; decide)]; rfl
theorem L4 (sg : Bool) : ∀ l, ans sg 4 l = addA (runN l) (eS true (l.drop (runN l)))
  | [] => rfl
  | b :: l => by
    rcases kindN_cases b.toNat with ⟨h, -⟩ | ⟨h, -⟩ | ⟨h, -⟩ | ⟨h, -⟩ | ⟨h, -⟩
    · rw [ans_step' (st' := 5) h (by rfl) rfl, L5 sg l, runN_0 h, addA_add, Nat.add_comm 1, List.drop_succ_cons]
    · rw [ans_stop h (by rfl), runN_n h (by decide), addA_zero, List.drop_zero]; unfold eS; rw [if_neg (by decide), if_neg (by rw [kd, h]; decide)]; rfl
    · rw [ans_step' (st' := 6) h (by rfl) rfl, runN_n h (by decide), addA_zero, List.drop_zero, L6]; unfold eS; rw [if_neg (by decide), if_pos (by rw [kd, h])]; rfl
    all_goals rw [ans_stop h (by rfl), runN_n h (by decide), addA_zero, List.drop_zero]; unfold eS; rw [if_neg (by decide), if_neg (by rw [kd, h]; decide)]; rfl
theorem L3 (sg : Bool) : ∀ l, ans sg 3 l = addA (runN l) (eS (decide (0 < runN l)) (l.drop (runN l)))
  | [] => rfl
  | b :: l => by
    rcases kindN_cases b.toNat with ⟨h, -⟩ | ⟨h, -⟩ | ⟨h, -⟩ | ⟨h, -⟩ | ⟨h, -⟩
    · rw [ans_step' (st' := 5) h (by rfl) rfl, L5 sg l, runN_0 h, addA_add, Nat.add_comm 1, List.drop_succ_cons, decide_eq_true (Nat.succ_pos _)]
    all_goals rw [ans_stop h (by rfl), runN_n h (by decide), addA_zero, List.drop_zero]; rfl
/-- behind the digits ahead of the point -/
def ptS (sm : Bool) (l : List UInt8) : Nat × Bool := if kd l = 1 then addA 1 (addA (runN (l.drop 1)) (eS (sm || decide (0 < runN (l.drop 1))) ((l.drop 1).drop (runN (l.drop 1))))) else eS sm l
theorem L2 (sg : Bool) : ∀ l, ans sg 2 l = addA (runN l) (ptS true (l.drop (runN l)))
  | [] => rfl
  | b :: l => by
    rcases kindN_cases b.toNat with ⟨h, -⟩ | ⟨h, -⟩ | ⟨h, -⟩ | ⟨h, -⟩ | ⟨h, -⟩
    · rw [ans_step' (st' := 2) h (by rfl) rfl, L2 sg l, runN_0 h, addA_add, Nat.add_comm 1, List.drop_succ_cons]
    · rw [ans_step' (st' := 4) h (by rfl) rfl, runN_n h (by decide), addA_zero, List.drop_zero, L4]; unfold ptS; rw [if_pos (by rw [kd, h]), Bool.true_or, List.drop_one, List.tail_cons]
    · rw [ans_step' (st' := 6) h (by rfl) rfl, runN_n h (by decide), addA_zero, List.drop_zero, L6]; unfold ptS eS; rw [if_neg (by rw [kd, h]; decide), if_neg (by decide), if_pos (by rw [kd, h])]; rfl
    all_goals rw [ans_stop h (by rfl), runN_n h (by decide), addA_zero, List.drop_zero]; unfold ptS eS; rw [if_neg (by rw [kd, h]; decide), if_neg (by decide), if_neg (by rw [kd, h]; decide)]; rfl
theorem L1 (sg : Bool) : ∀ l, ans sg 1 l = addA (runN l) (ptS (decide (0 < runN l)) (l.drop (runN l)))
  | [] => rfl
  | b :: l => by
    rcases kindN_cases b.toNat with ⟨h, -⟩ | ⟨h, -⟩ | ⟨h, -⟩ | ⟨h, -⟩ | ⟨h, -⟩
    · rw [ans_step' (st' := 2) h (by rfl) rfl, L2 sg l, runN_0 h, addA_add, Nat.add_comm 1, List.drop_succ_cons, decide_eq_true (Nat.succ_pos _)]
    · rw [ans_step' (st' := 3) h (by rfl) rfl, runN_n h (by decide), addA_zero, List.drop_zero, L3]; unfold ptS; rw [if_pos (by rw [kd, h]), show decide (0 < 0) = false from rfl, Bool.false_or, List.drop_one, List.tail_cons]
    all_goals rw [ans_stop h (by rfl), runN_n h (by decide), addA_zero, List.drop_zero]; unfold ptS eS; rw [if_neg (by rw [kd, h]; decide), if_pos (by decide)]; rfl
def scS (sg : Bool) (l : List UInt8) : Nat × Bool :=
  if sg = true ∧ kd l = 3 then addA 1 (addA (runN (l.drop 1)) (ptS (decide (0 < runN (l.drop 1))) ((l.drop 1).drop (runN (l.drop 1))))) else addA (runN l) (ptS (decide (0 < runN l)) (l.drop (runN l)))
theorem L0 (sg : Bool) : ∀ l, ans sg 0 l = scS sg l
  | [] => by cases sg <;> rfl
  | b :: l => by
    unfold scS
    rcases kindN_cases b.toNat with ⟨h, -⟩ | ⟨h, -⟩ | ⟨h, -⟩ | ⟨h, -⟩ | ⟨h, -⟩
    · rw [if_neg (by rw [kd, h]; simp), ans_step' (st' := 2) h (by rfl) rfl, L2 sg l, runN_0 h, addA_add, Nat.add_comm 1, List.drop_succ_cons, decide_eq_true (Nat.succ_pos _)]
    · rw [if_neg (by rw [kd, h]; simp), ans_step' (st' := 3) h (by rfl) rfl, runN_n h (by decide), addA_zero, List.drop_zero, L3]; unfold ptS; rw [if_pos (by rw [kd, h]), show decide (0 < 0) = false from rfl, Bool.false_or, List.drop_one, List.tail_cons]
    · rw [if_neg (by rw [kd, h]; simp), ans_stop h (by rfl), runN_n h (by decide), addA_zero, List.drop_zero]; unfold ptS eS; rw [if_neg (by rw [kd, h]; decide), if_pos (by decide)]; rfl
    · cases sg with
      | true => rw [if_pos ⟨rfl, by rw [kd, h]⟩, ans_step' (st' := 1) h (by rfl) rfl, L1, List.drop_one, List.tail_cons]
      | false => rw [if_neg (by simp), ans_stop h (by rfl), runN_n h (by decide), addA_zero, List.drop_zero]; unfold ptS eS; rw [if_neg (by rw [kd, h]; decide), if_pos (by decide)]; rfl
    · rw [if_neg (by rw [kd, h]; simp), ans_stop h (by rfl), runN_n h (by decide), addA_zero, List.drop_zero]; unfold ptS eS; rw [if_neg (by rw [kd, h]; decide), if_pos (by decide)]; rfl
theorem eR_S (sm : Bool) (l : List UInt8) (i : Nat) : eR sm l i = addA i (eS sm (l.drop i)) := by
  unfold eR eS
  cases sm with
  | false => rfl
  | true =>
    have n0 : ¬ (true = false) := by decide
    rw [if_neg n0, if_neg n0]
    by_cases h : kd (l.drop i) = 2
    · rw [if_pos h, if_pos h]
      unfold expS addA
      rw [List.drop_drop]
      by_cases h3 : kd (l.drop (i + 1)) = 3
      · simp only [if_pos h3, List.drop_drop]
        rw [Nat.add_assoc i 1 1]
        congr 1; omega
      · simp only [if_neg h3]
        congr 1; omega
    · rw [if_neg h, if_neg h]; rfl
theorem ptR_S (l : List UInt8) (i : Nat) : ptR l i = addA i (addA (runN (l.drop i)) (ptS (decide (0 < runN (l.drop i))) ((l.drop i).drop (runN (l.drop i))))) := by
  unfold ptR ptS
  simp only [List.drop_drop]
  by_cases h : kd (l.drop (i + runN (l.drop i))) = 1
  · rw [if_pos h, if_pos h, eR_S]
    simp only [addA_add, List.drop_drop]
    congr 1; omega
  · rw [if_neg h, if_neg h, eR_S, addA_add]
theorem scR_S (sg : Bool) (l : List UInt8) (p : Nat) : scR sg l p = addA p (scS sg (l.drop p)) := by
  unfold scR scS
  by_cases h : sg = true ∧ kd (l.drop p) = 3
  · rw [if_pos h, if_pos h, ptR_S]
    simp only [List.drop_drop, addA_add, Nat.add_assoc]
  · rw [if_neg h, if_neg h, ptR_S]
/-- the scan from any byte on -/
theorem scan_eq (sg : Bool) (l : List UInt8) (p : Nat) : scR sg l p = addA p (ans sg 0 (l.drop p)) := by rw [scR_S, L0]
end Go.Proofs.YtelgbnjagbleoaaDoor
