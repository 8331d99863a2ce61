/- The texts that are numbers, laid apart. Plain arithmetic. Conditions: none. -/
import Derived.Test.YtelgbnjagbleoaaDoorDecTxt
import Derived.Test.YtelgbnjagbleoaaDoorDecRef3
set_option linter.unusedSimpArgs false
set_option linter.unusedVariables false
set_option linter.deprecated false
namespace Go.Proofs.YtelgbnjagbleoaaDoor
open Go.Abs
def digL (l : List UInt8) : Prop := ∀ b ∈ l, kindN b.toNat = 0
def dotL : Option (List UInt8) → List UInt8
  | none => []
  | some B => 46 :: B
def txt (S A : List UInt8) (B : Option (List UInt8)) (ex : Option (UInt8 × List UInt8 × List UInt8)) : List UInt8 := S ++ ((A ++ dotL B) ++ expB ex)
structure TxtOK (S A : List UInt8) (B : Option (List UInt8)) (ex : Option (UInt8 × List UInt8 × List UInt8)) : Prop where
  hS : S = [] ∨ S = [43] ∨ S = [45]
  hA : digL A
  hB : digL (B.getD [])
  some : 0 < A.length + (B.getD []).length
  hex : exOK ex
theorem run_take : ∀ l : List UInt8, digL (l.take (runN l)) ∧ kd (l.drop (runN l)) ≠ 0
  | [] => ⟨by simp [digL], by decide⟩
  | b :: l => by
    by_cases h : kindN b.toNat = 0
    · rw [runN_0 h, List.take_succ_cons, List.drop_succ_cons]
      have ih := run_take l
      refine ⟨fun x hx => ?_, ih.2⟩
      rcases List.mem_cons.1 hx with rfl | hx
      · exact h
      · exact ih.1 x hx
    · have : runN (b :: l) = 0 := if_neg h
      rw [this]
      exact ⟨by simp [digL], h⟩
theorem run_app : ∀ (A r : List UInt8), digL A → kd r ≠ 0 → runN (A ++ r) = A.length
  | [], r, _, h => by
    cases r with
    | nil => rfl
    | cons b l => exact if_neg h
  | b :: A, r, hA, h => by rw [List.cons_append, runN_0 (hA b (.head _)), run_app A r (fun x hx => hA x (.tail _ hx)) h]; rfl
theorem run_all (A : List UInt8) (hA : digL A) : runN A = A.length := by
  have := run_app A [] hA (by decide)
  rwa [List.append_nil] at this
theorem run_full {l : List UInt8} (h : runN l = l.length) : digL l := by
  have := (run_take l).1
  rwa [h, List.take_length] at this
theorem kd1 {l : List UInt8} (h : kd l = 1) : ∃ r, l = 46 :: r := by
  cases l with
  | nil => exact absurd h (by decide)
  | cons b r =>
    have hc := kindN_cases b.toNat
    have h : kindN b.toNat = 1 := h
    exact ⟨r, by rw [show b = 46 from UInt8.toNat_inj.1 (by show b.toNat = 46; omega)]⟩
theorem kd3 {l : List UInt8} (h : kd l = 3) : ∃ r, l = 43 :: r ∨ l = 45 :: r := by
  cases l with
  | nil => exact absurd h (by decide)
  | cons b r =>
    have hc := kindN_cases b.toNat
    have h : kindN b.toNat = 3 := h
    refine ⟨r, ?_⟩
    rcases (by omega : b.toNat = 43 ∨ b.toNat = 45) with h | h
    · exact .inl (by rw [show b = 43 from UInt8.toNat_inj.1 h])
    · exact .inr (by rw [show b = 45 from UInt8.toNat_inj.1 h])
theorem addA_full {n : Nat} {a : Nat × Bool} {m : Nat} (h : addA n a = (m, true)) : n + a.1 = m ∧ a.2 = true := by
  unfold addA at h; exact ⟨congrArg Prod.fst h, congrArg Prod.snd h⟩
theorem expS_full {l : List UInt8} {e : UInt8} (he : kindN e.toNat = 2) (h : (expS l).1 = l.length ∧ (expS l).2 = true) : ∃ ex, e :: l = expB ex ∧ exOK ex := by
  unfold expS at h
  by_cases h3 : kd l = 3
  · rw [if_pos h3] at h
    obtain ⟨r, hr⟩ := kd3 h3
    rcases hr with rfl | rfl
    · simp only [List.drop_one, List.tail_cons, List.length_cons, decide_eq_true_eq] at h
      exact ⟨some (e, [43], r), rfl, he, .inr (.inl rfl), by intro h2; rw [h2] at h; simp [runN] at h, run_full (by omega)⟩
    · simp only [List.drop_one, List.tail_cons, List.length_cons, decide_eq_true_eq] at h
      exact ⟨some (e, [45], r), rfl, he, .inr (.inr rfl), by intro h2; rw [h2] at h; simp [runN] at h, run_full (by omega)⟩
  · rw [if_neg h3] at h
    simp only [decide_eq_true_eq] at h
    exact ⟨some (e, [], l), rfl, he, .inl rfl, by intro h2; rw [h2] at h; simp [runN] at h, run_full (by omega)⟩
theorem eS_full {sm : Bool} {l : List UInt8} (h : (eS sm l).1 = l.length ∧ (eS sm l).2 = true) : sm = true ∧ ∃ ex, l = expB ex ∧ exOK ex := by
  unfold eS at h
  cases sm with
  | false => exact absurd h.2 (by rw [if_pos rfl]; decide)
  | true =>
    refine ⟨rfl, ?_⟩
    have n0 : ¬ (true = false) := by decide
    rw [if_neg n0] at h
    by_cases h2 : kd l = 2
    · rw [if_pos h2] at h
      cases l with
      | nil => exact absurd h2 (by decide)
      | cons e r =>
        refine expS_full h2 ?_
        simp only [List.drop_one, List.tail_cons, List.length_cons] at h
        exact ⟨by omega, h.2⟩
    · rw [if_neg h2] at h
      exact ⟨none, List.length_eq_zero_iff.1 h.1.symm, trivial⟩
theorem scan_core {l : List UInt8} (h : addA (runN l) (ptS (decide (0 < runN l)) (l.drop (runN l))) = (l.length, true)) :
    ∃ A B ex, l = (A ++ dotL B) ++ expB ex ∧ digL A ∧ digL (B.getD []) ∧ 0 < A.length + (B.getD []).length ∧ exOK ex := by
  obtain ⟨h1, h2⟩ := addA_full h
  have hle := runN_le l
  have hm : (ptS (decide (0 < runN l)) (l.drop (runN l))).1 = (l.drop (runN l)).length := by rw [List.length_drop]; omega
  have hA := (run_take l).1
  have hAl : (l.take (runN l)).length = runN l := by rw [List.length_take]; omega
  have hl := (List.take_append_drop (runN l) l).symm
  generalize l.drop (runN l) = m at *
  generalize l.take (runN l) = A at *
  unfold ptS at hm h2
  by_cases hk : kd m = 1
  · rw [if_pos hk] at hm h2
    obtain ⟨m', rfl⟩ := kd1 hk
    simp only [List.drop_one, List.tail_cons] at hm h2
    have hle2 := runN_le m'
    have hB := (run_take m').1
    have hBl : (m'.take (runN m')).length = runN m' := by rw [List.length_take]; omega
    have hl2 := (List.take_append_drop (runN m') m').symm
    have hd : (m'.drop (runN m')).length = m'.length - runN m' := List.length_drop
    simp only [addA, List.length_cons] at hm h2
    have := eS_full (sm := decide (0 < runN l) || decide (0 < runN m')) (l := m'.drop (runN m')) ⟨by omega, h2⟩
    obtain ⟨hsm, ex, he, hex⟩ := this
    refine ⟨A, some (m'.take (runN m')), ex, ?_, hA, hB, ?_, hex⟩
    · rw [← he]; simp only [dotL, List.append_assoc, List.cons_append]; rw [← hl2]; exact hl
    · simp only [Option.getD_some, hBl, hAl]
      simp only [Bool.or_eq_true, decide_eq_true_eq] at hsm
      omega
  · rw [if_neg hk] at hm h2
    obtain ⟨hsm, ex, he, hex⟩ := eS_full ⟨hm, h2⟩
    refine ⟨A, none, ex, ?_, hA, by simp [digL], ?_, hex⟩
    · rw [← he]; simp only [dotL, List.append_nil]; exact hl
    · simp only [decide_eq_true_eq] at hsm
      simp only [Option.getD_none, List.length_nil, hAl]; omega
/-- an accepted text, laid apart -/
theorem scan_dec {s : List UInt8} (h : scR true s 0 = (s.length, true)) : ∃ S A B ex, s = txt S A B ex ∧ TxtOK S A B ex := by
  rw [scR_S, addA_zero, List.drop_zero] at h
  unfold scS at h
  by_cases h3 : kd s = 3
  · rw [if_pos ⟨rfl, h3⟩] at h
    obtain ⟨r, hr⟩ := kd3 h3
    have hg : ∀ x : UInt8, s = x :: r → ∃ A B ex, r = (A ++ dotL B) ++ expB ex ∧ digL A ∧ digL (B.getD []) ∧ 0 < A.length + (B.getD []).length ∧ exOK ex := fun x hx => by
      subst hx
      simp only [List.drop_one, List.tail_cons, List.length_cons] at h
      obtain ⟨g1, g2⟩ := addA_full h
      refine scan_core (Prod.ext ?_ g2)
      show _ = r.length
      omega
    rcases hr with h | h
    · obtain ⟨A, B, ex, hr, h1, h2, h3, h4⟩ := hg _ h
      exact ⟨[43], A, B, ex, by rw [h, hr]; rfl, .inr (.inl rfl), h1, h2, h3, h4⟩
    · obtain ⟨A, B, ex, hr, h1, h2, h3, h4⟩ := hg _ h
      exact ⟨[45], A, B, ex, by rw [h, hr]; rfl, .inr (.inr rfl), h1, h2, h3, h4⟩
  · rw [if_neg (fun h => h3 h.2)] at h
    obtain ⟨A, B, ex, hr, h1, h2, h3, h4⟩ := scan_core h
    exact ⟨[], A, B, ex, hr, .inl rfl, h1, h2, h3, h4⟩
theorem expB_kd (ex : Option (UInt8 × List UInt8 × List UInt8)) (h : exOK ex) : (ex = none ∧ kd (expB ex) = -1) ∨ (ex ≠ none ∧ kd (expB ex) = 2) := by
  cases ex with
  | none => exact .inl ⟨rfl, rfl⟩
  | some x => exact .inr ⟨by simp, h.1⟩
theorem eS_txt (ex : Option (UInt8 × List UInt8 × List UInt8)) (h : exOK ex) : eS true (expB ex) = ((expB ex).length, true) := by
  unfold eS
  have n0 : ¬ (true = false) := by decide
  rw [if_neg n0]
  cases ex with
  | none => rfl
  | some x =>
    obtain ⟨e, sg, C⟩ := x
    obtain ⟨he, hsg, hC, hCk⟩ := h
    have hr := run_all C hCk
    have h0 : 0 < C.length := List.length_pos_iff.2 hC
    have hk : kd (expB (some (e, sg, C))) = 2 := he
    rw [if_pos hk]
    unfold expB
    simp only [List.drop_one, List.tail_cons, List.length_cons]
    unfold expS
    rcases hsg with rfl | rfl | rfl
    · have hk3 : kd ([] ++ C) ≠ 3 := by
        cases C with
        | nil => decide
        | cons c l => have : kindN c.toNat = 0 := hCk c (.head _); simp only [List.nil_append, kd]; omega
      rw [if_neg hk3, List.nil_append, hr, decide_eq_true h0, Nat.add_comm]
    · rw [if_pos (by rfl)]
      simp only [List.cons_append, List.nil_append, List.drop_one, List.tail_cons, List.length_cons]
      rw [hr, decide_eq_true h0]; congr 1; omega
    · rw [if_pos (by rfl)]
      simp only [List.cons_append, List.nil_append, List.drop_one, List.tail_cons, List.length_cons]
      rw [hr, decide_eq_true h0]; congr 1; omega
theorem scan_coreT {A : List UInt8} {B : Option (List UInt8)} {ex} (hA : digL A) (hB : digL (B.getD [])) (h0 : 0 < A.length + (B.getD []).length) (hex : exOK ex) :
    addA (runN ((A ++ dotL B) ++ expB ex)) (ptS (decide (0 < runN ((A ++ dotL B) ++ expB ex))) (((A ++ dotL B) ++ expB ex).drop (runN ((A ++ dotL B) ++ expB ex)))) = (((A ++ dotL B) ++ expB ex).length, true) := by
  have hke := expB_kd ex hex
  have hkm : kd (dotL B ++ expB ex) ≠ 0 := by
    cases B with
    | none => simp only [dotL, List.nil_append]; omega
    | some B => intro h; exact absurd (show (1 : Int) = 0 from h) (by decide)
  rw [List.append_assoc, run_app A _ hA hkm, List.drop_left]
  cases B with
  | none =>
    rw [show dotL none ++ expB ex = expB ex from rfl]
    unfold ptS
    simp only [Option.getD_none, List.length_nil, Nat.add_zero] at h0
    rw [if_neg (by omega), decide_eq_true h0, eS_txt ex hex]
    simp [addA]
  | some B =>
    simp only [Option.getD_some] at h0 hB
    unfold ptS
    rw [if_pos (by rfl)]
    simp only [dotL, List.cons_append, List.drop_one, List.tail_cons]
    rw [run_app B _ hB (by omega), List.drop_left]
    rw [show (decide (0 < A.length) || decide (0 < B.length)) = true by simp only [Bool.or_eq_true, decide_eq_true_eq]; omega, eS_txt ex hex]
    simp [addA]
    omega
theorem scan_txt {S A : List UInt8} {B : Option (List UInt8)} {ex} (h : TxtOK S A B ex) : scR true (txt S A B ex) 0 = ((txt S A B ex).length, true) := by
  obtain ⟨hS, hA, hB, h0, hex⟩ := h
  have hc := scan_coreT hA hB h0 hex
  rw [scR_S, addA_zero, List.drop_zero]
  unfold scS txt
  rcases hS with rfl | rfl | rfl
  · have hk : kd ([] ++ (A ++ dotL B ++ expB ex)) ≠ 3 := by
      have hke := expB_kd ex hex
      cases A with
      | cons a l => have : kindN a.toNat = 0 := hA a (.head _); simp only [List.nil_append, List.cons_append, kd]; omega
      | nil =>
        cases B with
        | some B => intro h; exact absurd (show (1 : Int) = 3 from h) (by decide)
        | none => simp only [dotL, List.nil_append]; omega
    rw [if_neg (fun h => hk h.2), List.nil_append]; exact hc
  · rw [if_pos ⟨rfl, rfl⟩]
    simp only [List.cons_append, List.nil_append, List.drop_one, List.tail_cons, List.length_cons]
    rw [hc]; simp only [addA, Nat.add_comm]
  · rw [if_pos ⟨rfl, rfl⟩]
    simp only [List.cons_append, List.nil_append, List.drop_one, List.tail_cons, List.length_cons]
    rw [hc]; simp only [addA, Nat.add_comm]
end Go.Proofs.YtelgbnjagbleoaaDoor
