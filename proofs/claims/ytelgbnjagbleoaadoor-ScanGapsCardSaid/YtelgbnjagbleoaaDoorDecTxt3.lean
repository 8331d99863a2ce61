/- Both numbers of a text that is one. Conditions: at most 400 bytes. -/
import Derived.Test.YtelgbnjagbleoaaDoorDecTxt2
import Derived.Test.YtelgbnjagbleoaaDoorDecVal3
import Derived.Test.YtelgbnjagbleoaaDoorDecParse2
import Derived.Test.YtelgbnjagbleoaaDoorDecRef5
set_option linter.unusedSimpArgs false
set_option linter.unusedVariables false
set_option linter.deprecated false
namespace Go.Proofs.YtelgbnjagbleoaaDoor
open Go.Abs
theorem rd_sign {S : List UInt8} (hS : S = [] ∨ S = [43] ∨ S = [45]) : rdM S = ⟨S == [45], [], 0, false⟩ := by
  rcases hS with rfl | rfl | rfl <;> rfl
def RdOK (bl : Bool) (r : RS) (f : Nat × Nat × Bool) : Prop :=
  r.below = bl ∧ (∀ x ∈ r.ds, 0 ≤ x ∧ x ≤ 9) ∧ (r.ds = [] ∨ ∃ x l, r.ds = x :: l ∧ 0 < x) ∧ (f.1 : Int) = valD r.ds ∧ r.pt = (r.ds.length : Int) - f.2.1 ∧ r.seen = f.2.2 ∧ (f.2.2 = false → f.2.1 = 0)
theorem rd_step {bl : Bool} {r : RS} {f : Nat × Nat × Bool} {b : UInt8} (hk : kindN b.toNat = 0 ∨ kindN b.toNat = 1) (h : RdOK bl r f) : RdOK bl (rdStep r b) (rStep f b) := by
  obtain ⟨below, ds, pt, seen⟩ := r
  obtain ⟨N, bh, dot⟩ := f
  obtain ⟨h1, h2, h3, h4, h5, h6, h7⟩ := h
  simp only at h1 h2 h3 h4 h5 h6 h7
  subst h1 h6
  have hc := kindN_cases b.toNat
  unfold rdStep rStep
  rcases hk with hk | hk
  · rw [if_pos hk, if_neg (by omega)]
    simp only
    have hb : 48 ≤ (b.toNat : Int) ∧ (b.toNat : Int) ≤ 57 := by omega
    obtain ⟨c, hcc⟩ : ∃ c : Nat, (b.toNat : Int) - 48 = c := ⟨((b.toNat : Int) - 48).toNat, by omega⟩
    rw [hcc, Int.toNat_natCast]
    have hv : ((N * 10 + c : Nat) : Int) = 10 * valD ds + c := by rw [← h4]; omega
    have hds : dsF ds b.toNat = ds ++ [(c : Int)] ∨ (dsF ds b.toNat = [] ∧ ds = [] ∧ c = 0) := by
      unfold dsF
      by_cases h : (b.toNat : Int) ≠ 48 ∨ 0 < ds.length
      · rw [if_pos h, hcc]; exact .inl rfl
      · rw [if_neg h]
        obtain rfl : ds = [] := List.length_eq_zero_iff.1 (by omega)
        exact .inr ⟨rfl, rfl, by omega⟩
    have hne : dsF ds b.toNat = ds ++ [(c : Int)] → ds = [] → 0 < (c : Int) := fun h he => by
      subst he
      unfold dsF at h
      by_cases h8 : (b.toNat : Int) ≠ 48 ∨ 0 < ([] : List Int).length
      · simp at h8; omega
      · rw [if_neg h8] at h; exact absurd h (by simp)
    rcases hds with hds | ⟨hds, rfl, rfl⟩
    · have hn := hne hds
      rw [hds]
      refine ⟨rfl, ?_, ?_, by rw [valD_snoc]; exact hv, ?_, rfl, ?_⟩
      · intro x hx
        rcases List.mem_append.1 hx with hx | hx
        · exact h2 x hx
        · rw [List.mem_singleton.1 hx]; omega
      · refine .inr ?_
        rcases h3 with rfl | ⟨x, l, rfl, hx⟩
        · exact ⟨c, [], rfl, hn rfl⟩
        · exact ⟨x, l ++ [(c : Int)], rfl, hx⟩
      · simp only [List.length_append, List.length_singleton]
        unfold ptF
        cases seen with
        | false =>
          have := h7 rfl
          simp only [if_true, List.length_append, List.length_singleton, Bool.false_eq_true, if_false]
          rw [if_pos (by omega)]; omega
        | true =>
          simp only [Bool.true_eq_false, if_false, List.length_append, List.length_singleton, if_true]
          rw [if_neg (by omega)]; omega
      · intro h; simp only at h; simp only [h, Bool.false_eq_true, if_false]; exact h7 h
    · rw [hds]
      refine ⟨rfl, by simp, .inl rfl, by simpa [valD, preN] using hv, ?_, rfl, ?_⟩
      · simp only [List.length_nil] at h5 ⊢
        unfold ptF
        cases seen with
        | false =>
          have := h7 rfl
          simp only [if_true, List.length_nil, Bool.false_eq_true, if_false]
          rw [if_neg (by omega)]; omega
        | true =>
          simp only [Bool.true_eq_false, if_false, List.length_nil, if_true]
          omega
      · intro h; simp only at h; simp only [h, Bool.false_eq_true, if_false]; exact h7 h
  · rw [if_neg (by omega), if_pos hk, if_pos hk]
    exact ⟨rfl, h2, h3, h4, h5, rfl, fun h => by cases h⟩
theorem rd_fold {S : List UInt8} (hS : S = [] ∨ S = [43] ∨ S = [45]) : ∀ (n : Nat) (M : List UInt8), M.length = n → (∀ b ∈ M, kindN b.toNat = 0 ∨ kindN b.toNat = 1) → RdOK (S == [45]) (rdM (S ++ M)) (rFold M)
  | 0, M, h, _ => by
    obtain rfl := List.length_eq_zero_iff.1 h
    rw [List.append_nil, rd_sign hS]
    exact ⟨rfl, by simp, .inl rfl, rfl, rfl, rfl, fun _ => rfl⟩
  | n + 1, M, h, hk => by
    have hne : M ≠ [] := by intro h2; rw [h2] at h; simp at h
    have e := (List.dropLast_concat_getLast hne).symm
    have hl : M.dropLast.length = n := by rw [List.length_dropLast]; omega
    have ih := rd_fold hS n _ hl (fun c h => hk c (List.dropLast_subset _ h))
    have h1 := hk _ (List.getLast_mem hne)
    rw [e, rFold_snoc, ← List.append_assoc, rdM_snoc]
    exact rd_step h1 ih
theorem pow_caps : ∀ (n : Nat) (C : List UInt8), C.length = n → (∀ c ∈ C, kindN c.toNat = 0) → powF 1000 0 C = if powF 1099511627776 0 C ≤ 1000 then powF 1099511627776 0 C else 1000
  | 0, C, h, _ => by
    obtain rfl := List.length_eq_zero_iff.1 h
    simp [powF]
  | n + 1, C, h, hk => by
    have hne : C ≠ [] := by intro h2; rw [h2] at h; simp at h
    have e := (List.dropLast_concat_getLast hne).symm
    have hl : C.dropLast.length = n := by rw [List.length_dropLast]; omega
    have ih := pow_caps n _ hl (fun c h => hk c (List.dropLast_subset _ h))
    have hb := powF_bd (cap := 1099511627776) (by decide) n _ hl (fun c h => hk c (List.dropLast_subset _ h))
    have h0 := kindN_cases (C.getLast hne).toNat
    have h1 := hk _ (List.getLast_mem hne)
    rw [e, powF_snoc, powF_snoc, ih]
    generalize powF 1099511627776 0 C.dropLast = x at *
    generalize C.getLast hne = c at *
    by_cases hx : x ≤ 1000
    · rw [if_pos hx, if_neg (show ¬ 1099511627776 < 10 * x + ((c.toNat : Int) - 48) by omega)]
      split
      · rw [if_neg (by omega)]
      · rw [if_pos (by omega)]
    · rw [if_neg hx, if_pos (by omega)]
      split
      · rw [if_neg (by omega)]
      · rw [if_neg (by omega)]
/-- a text's digits as a number, and its power -/
def txtN (A : List UInt8) (B : Option (List UInt8)) : Nat := (rFold (A ++ dotL B)).1
def txtP (A : List UInt8) (B : Option (List UInt8)) (ex : Option (UInt8 × List UInt8 × List UInt8)) : Int := (if exDown ex = true then 0 - exPow 1000 ex else exPow 1000 ex) - (rFold (A ++ dotL B)).2.1
def txtV (S A : List UInt8) (B : Option (List UInt8)) (ex : Option (UInt8 × List UInt8 × List UInt8)) : AV := outV (refV (S == [45]) (txtN A B) (txtP A B ex))
theorem M_kinds {A : List UInt8} {B : Option (List UInt8)} (hA : digL A) (hB : digL (B.getD [])) : ∀ b ∈ A ++ dotL B, kindN b.toNat = 0 ∨ kindN b.toNat = 1 := fun b hb => by
  rcases List.mem_append.1 hb with h | h
  · exact .inl (hA b h)
  · cases B with
    | none => exact absurd h (by simp [dotL])
    | some B =>
      rcases List.mem_cons.1 h with rfl | h
      · exact .inr (by decide)
      · exact .inl (hB b h)
theorem c_rparse_txt {S A : List UInt8} {B : Option (List UInt8)} {ex} (h : TxtOK S A B ex) (hl : (txt S A B ex).length ≤ 400) :
    ACalls seat 28 [.str (txt S A B ex)] [] (fun x _ => x = .ret (txtV S A B ex)) := by
  have hk := M_kinds h.hA h.hB
  have cr := c_rread S (A ++ dotL B) ex h.hS hk h.hex hl
  have hlen : (A ++ dotL B).length ≤ 400 := by
    unfold txt at hl; rw [List.length_append, List.length_append] at hl; omega
  have hbd := rFold_bd _ _ rfl hk
  have hp : 0 ≤ exPow 1000 ex ∧ exPow 1000 ex ≤ 1000 := by
    cases ex with
    | none => simp [exPow]
    | some x => exact powF_bd (by decide) _ _ rfl h.hex.2.2.2
  have hN : (rFold (A ++ dotL B)).1 < 10 ^ (4 * 100) := by
    have h3 : (A ++ dotL B).length ≤ 4 * 100 := hlen
    generalize 4 * 100 = E at *
    exact Nat.lt_of_lt_of_le hbd.1 (Nat.pow_le_pow_right (by decide) h3)
  refine c_rparseV _ _ _ _ hl (scan_txt h) cr hN ?_
  unfold txtP
  split <;> omega
theorem c_dparse_txt {S A : List UInt8} {B : Option (List UInt8)} {ex} (h : TxtOK S A B ex) (hl : (txt S A B ex).length ≤ 400) :
    ACalls seat 25 [.str (txt S A B ex)] [] (fun x _ => x = .ret (txtV S A B ex)) := by
  have hk := M_kinds h.hA h.hB
  have hsc := scan_txt h
  rw [scan_eq, addA_zero, List.drop_zero] at hsc
  have h1 : (dfa true 0 (txt S A B ex)).1 = (txt S A B ex).length := congrArg Prod.fst hsc
  have h2 : endsT (dfa true 0 (txt S A B ex)).2 = true := congrArg Prod.snd hsc
  have et : txt S A B ex = (S ++ (A ++ dotL B)) ++ expB ex := by unfold txt; simp only [List.append_assoc]
  have hM2 : ∀ b ∈ S ++ (A ++ dotL B), kindN b.toNat ≠ 2 := fun b hb => by
    rcases List.mem_append.1 hb with hb | hb
    · rcases h.hS with rfl | rfl | rfl
      · cases hb
      · rw [List.mem_singleton.1 hb]; decide
      · rw [List.mem_singleton.1 hb]; decide
    · have := hk b hb; omega
  have cd := c_dparseV (S ++ (A ++ dotL B)) ex hM2 h.hex (by rw [← et]; omega) (by rw [← et]; exact h1) (by rw [← et]; exact h2)
  rw [← et] at cd
  have hr := rd_fold h.hS _ _ rfl hk
  have hlen : (A ++ dotL B).length ≤ 400 ∧ S.length + (A ++ dotL B).length ≤ 400 := by
    unfold txt at hl; rw [List.length_append, List.length_append] at hl; omega
  have hbd := rFold_bd _ _ rfl hk
  have hbd2 := rdM_bd _ (S ++ (A ++ dotL B)) rfl
  rw [List.length_append] at hbd2
  obtain ⟨e1, e2, e3, e4, e5, -, -⟩ := hr
  have hp : 0 ≤ exPow 1099511627776 ex := by
    cases ex with
    | none => simp [exPow]
    | some x => exact (powF_bd (by decide) _ _ rfl h.hex.2.2.2).1
  have hpc : exPow 1000 ex = if exPow 1099511627776 ex ≤ 1000 then exPow 1099511627776 ex else 1000 := by
    cases ex with
    | none => simp [exPow]
    | some x => exact pow_caps _ _ rfl h.hex.2.2.2
  have hv := dec_val (S == [45]) _ e2 e3 _ e4 (rFold (A ++ dotL B)).2.1 (by omega) (by omega) _ _ hp hpc (exDown ex)
  rw [← e5, ← e1] at hv
  rw [hv, e1] at cd
  exact cd
/-- any text's number, by both -/
theorem parse_both (s : List UInt8) (hl : s.length ≤ 400) : ∃ v : AV, (v = .tup [.int .i64 0, .int .i64 3] ∨ ∃ S A B ex, s = txt S A B ex ∧ TxtOK S A B ex ∧ v = txtV S A B ex) ∧
    ACalls seat 25 [.str s] [] (fun x _ => x = .ret v) ∧ ACalls seat 28 [.str s] [] (fun x _ => x = .ret v) := by
  by_cases h : scR true s 0 = (s.length, true)
  · obtain ⟨S, A, B, ex, rfl, ht⟩ := scan_dec h
    exact ⟨_, .inr ⟨_, _, _, _, rfl, ht, rfl⟩, c_dparse_txt ht hl, c_rparse_txt ht hl⟩
  · have h' : ¬ ((scR true s 0).2 = true ∧ (scR true s 0).1 = s.length) := fun g => h (Prod.ext g.2 g.1)
    refine ⟨_, .inl rfl, c_dparseE s (by omega) (fun g => h' ?_), c_rparseE s hl h'⟩
    rw [scan_eq, addA_zero, List.drop_zero]
    exact g
end Go.Proofs.YtelgbnjagbleoaaDoor
