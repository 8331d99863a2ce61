/- A number's text with something behind it. Plain lemmas. -/
import Derived.Test.YtelgbnjagbleoaaDoorScanS
import Derived.Test.YtelgbnjagbleoaaDoorPrint
set_option linter.unusedSimpArgs false
set_option linter.unusedVariables false
set_option linter.deprecated false
namespace Go.Proofs.YtelgbnjagbleoaaDoor
open Go.Abs
theorem scan_coreR {A : List UInt8} {B : Option (List UInt8)} {r : List UInt8} (hA : digL A) (hB : digL (B.getD [])) (h0 : 0 < A.length + (B.getD []).length) (hr : kd r = -1) :
    addA (runN ((A ++ dotL B) ++ r)) (ptS (decide (0 < runN ((A ++ dotL B) ++ r))) (((A ++ dotL B) ++ r).drop (runN ((A ++ dotL B) ++ r)))) = ((A ++ dotL B).length, true) := by
  have hkm : kd (dotL B ++ r) ≠ 0 := by
    cases B with
    | none => simp only [dotL, List.nil_append]; omega
    | some B => intro h; exact absurd (show (1 : Int) = 0 from h) (by decide)
  have eR : eS true r = (0, true) := by
    unfold eS
    have n0 : ¬ (true = false) := by decide
    rw [if_neg n0, if_neg (by omega)]
  rw [List.append_assoc, run_app A _ hA hkm, List.drop_left]
  cases B with
  | none =>
    rw [show dotL none ++ r = r from rfl]
    unfold ptS
    simp only [Option.getD_none, List.length_nil, Nat.add_zero] at h0
    rw [if_neg (by omega), decide_eq_true h0, eR]
    simp [addA, dotL]
  | some B =>
    simp only [Option.getD_some] at h0 hB
    unfold ptS
    rw [if_pos (by rfl)]
    simp only [dotL, List.cons_append, List.drop_one, List.tail_cons]
    rw [run_app B _ hB (by omega), List.drop_left]
    rw [show (decide (0 < A.length) || decide (0 < B.length)) = true by simp only [Bool.or_eq_true, decide_eq_true_eq]; omega, eR]
    simp [addA]
    omega
theorem scan_rest {S A : List UInt8} {B : Option (List UInt8)} {r : List UInt8} (hS : S = [] ∨ S = [43] ∨ S = [45]) (hA : digL A) (hB : digL (B.getD [])) (h0 : 0 < A.length + (B.getD []).length) (hr : kd r = -1) :
    scS true (S ++ ((A ++ dotL B) ++ r)) = ((S ++ (A ++ dotL B)).length, true) := by
  have hc := scan_coreR hA hB h0 hr
  unfold scS
  rcases hS with rfl | rfl | rfl
  · have hk : kd ([] ++ (A ++ dotL B ++ r)) ≠ 3 := by
      cases A with
      | cons a l => have : kindN a.toNat = 0 := hA a (.head _); simp only [List.nil_append, List.cons_append, kd]; omega
      | nil =>
        cases B with
        | some B => intro h; exact absurd (show (1 : Int) = 3 from h) (by decide)
        | none => simp only [dotL, List.nil_append]; omega
    rw [if_neg (fun h => hk h.2), List.nil_append]; exact hc
  · rw [if_pos ⟨rfl, rfl⟩]
    simp only [List.cons_append, List.nil_append, List.drop_one, List.tail_cons, List.length_cons]
    rw [hc]; simp only [addA, Nat.add_comm]
  · rw [if_pos ⟨rfl, rfl⟩]
    simp only [List.cons_append, List.nil_append, List.drop_one, List.tail_cons, List.length_cons]
    rw [hc]; simp only [addA, Nat.add_comm]
/-- a printed number with something behind it that goes on with none -/
theorem scan_pr (n : Int) (r : List UInt8) (hr : kd r = -1) : scS true (prD n ++ r) = ((prD n).length, true) := by
  have h := prD_ok n
  have := scan_rest h.hS h.hA h.hB h.some hr
  unfold prD
  rw [List.append_assoc]
  exact this
/-- what an accepted text has: at least one byte -/
theorem scS_pos {sg : Bool} {l : List UInt8} (h : (scS sg l).2 = true) : 0 < (scS sg l).1 := by
  have hpt : ∀ (sm : Bool) (m : List UInt8), (ptS sm m).2 = true → sm = true ∨ 0 < (ptS sm m).1 := fun sm m h => by
    cases sm with
    | true => exact .inl rfl
    | false =>
      refine .inr ?_
      unfold ptS at h ⊢
      split
      · simp only [addA]; omega
      · rename_i hk; rw [if_neg hk] at h; exact absurd h (by unfold eS; simp)
  have hc : ∀ m : List UInt8, (addA (runN m) (ptS (decide (0 < runN m)) (m.drop (runN m)))).2 = true → 0 < (addA (runN m) (ptS (decide (0 < runN m)) (m.drop (runN m)))).1 := fun m h => by
    simp only [addA] at h ⊢
    rcases hpt _ _ h with h | h
    · have := of_decide_eq_true h; omega
    · omega
  unfold scS at h ⊢
  split
  · rename_i hs; rw [if_pos hs] at h; simp only [addA]; omega
  · rename_i hs; rw [if_neg hs] at h; exact hc _ h
end Go.Proofs.YtelgbnjagbleoaaDoor
