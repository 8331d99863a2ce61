/- Numbers as rows of digits, base 2^16: plain arithmetic. No condition: definitions and lemmas. -/
import Derived.Test.YtelgbnjagbleoaaDoorBase
set_option linter.unusedSimpArgs false
set_option linter.unusedVariables false
set_option linter.deprecated false
namespace Go.Abs

def Dg (l : List Int) : Prop := ∀ x ∈ l, 0 ≤ x ∧ x < 65536
def dv : List Int → Int
  | [] => 0
  | x :: r => x + 65536 * dv r
def digF : Nat → Nat → List Int
  | 0, _ => []
  | f + 1, n => if n = 0 then [] else ((n % 65536 : Nat) : Int) :: digF f (n / 65536)
/-- a number's digits, the lowest one first -/
def dig (n : Nat) : List Int := digF n n
theorem digF_fuel : ∀ (f g n : Nat), n ≤ f → n ≤ g → digF f n = digF g n
  | 0, 0, n, _, _ => rfl
  | 0, g + 1, n, h, _ => by
    have : n = 0 := by omega
    subst this; simp [digF]
  | f + 1, 0, n, _, h => by
    have : n = 0 := by omega
    subst this; simp [digF]
  | f + 1, g + 1, n, h1, h2 => by
    simp only [digF]
    split
    · rfl
    · rw [digF_fuel f g (n / 65536) (by omega) (by omega)]
theorem dig_zero : dig 0 = [] := rfl
theorem dig_pos {n : Nat} (h : n ≠ 0) : dig n = ((n % 65536 : Nat) : Int) :: dig (n / 65536) := by
  unfold dig
  obtain ⟨f, rfl⟩ : ∃ f, n = f + 1 := ⟨n - 1, by omega⟩
  rw [digF, if_neg (by omega), digF_fuel f ((f + 1) / 65536) _ (by omega) (Nat.le_refl _)]
theorem Dg.nil : Dg [] := fun _ h => nomatch h
theorem Dg.cons {x : Int} {l : List Int} (h : 0 ≤ x ∧ x < 65536) (hl : Dg l) : Dg (x :: l) := fun y hy => by
  rcases List.mem_cons.1 hy with rfl | hy
  · exact h
  · exact hl y hy
theorem Dg.head {x : Int} {l : List Int} (h : Dg (x :: l)) : 0 ≤ x ∧ x < 65536 := h x (by simp)
theorem Dg.tail {x : Int} {l : List Int} (h : Dg (x :: l)) : Dg l := fun y hy => h y (by simp [hy])
theorem Dg.append {a b : List Int} (h : Dg a) (k : Dg b) : Dg (a ++ b) := fun x hx => (List.mem_append.1 hx).elim (h x) (k x)
theorem dig_Dg (n : Nat) : Dg (dig n) := by
  induction n using Nat.strongRecOn with
  | _ n ih =>
    by_cases h : n = 0
    · subst h; exact Dg.nil
    · rw [dig_pos h]; exact Dg.cons (by omega) (ih _ (by omega))
theorem dv_dig (n : Nat) : dv (dig n) = n := by
  induction n using Nat.strongRecOn with
  | _ n ih =>
    by_cases h : n = 0
    · subst h; rfl
    · rw [dig_pos h, dv, ih _ (by omega)]; omega
theorem dv_nonneg : ∀ {l : List Int}, Dg l → 0 ≤ dv l
  | [], _ => by simp [dv]
  | x :: l, h => by have := dv_nonneg h.tail; have := h.head; simp only [dv]; omega
theorem dv_append : ∀ (a b : List Int), dv (a ++ b) = dv a + 65536 ^ a.length * dv b
  | [], b => by simp [dv]
  | x :: a, b => by
    simp only [List.cons_append, dv, dv_append a b, List.length_cons, Int.pow_succ, Int.mul_add, Int.add_assoc]
    rw [Int.mul_comm (65536 ^ a.length) 65536, Int.mul_assoc]

/-- no nought ahead -/
def Cn (l : List Int) : Prop := ∀ x, l.getLast? = some x → x ≠ 0
theorem dv_pos : ∀ {l : List Int}, Dg l → Cn l → l ≠ [] → 0 < dv l
  | [x], h, hc, _ => by
    have := hc x rfl; have := h.head; simp only [dv]; omega
  | x :: y :: l, h, hc, _ => by
    have := dv_pos h.tail (fun z hz => hc z (by rw [List.getLast?_cons_cons]; exact hz)) (by simp)
    have h2 := h.head
    have e : dv (x :: y :: l) = x + 65536 * dv (y :: l) := rfl
    rw [e]; omega
theorem dig_dv : ∀ {l : List Int}, Dg l → Cn l → dig (dv l).toNat = l
  | [], _, _ => rfl
  | x :: l, h, hc => by
    have hp := dv_pos h hc (by simp)
    have h0 := dv_nonneg h.tail
    have hx := h.head
    simp only [dv] at hp ⊢
    rw [dig_pos (by omega)]
    have e1 : (x + 65536 * dv l).toNat / 65536 = (dv l).toNat := by omega
    have e2 : (((x + 65536 * dv l).toNat % 65536 : Nat) : Int) = x := by omega
    rw [e1, e2]
    have hc' : Cn l := by
      cases l with
      | nil => intro z hz; cases hz
      | cons y l => exact fun z hz => hc z (by rw [List.getLast?_cons_cons]; exact hz)
    rw [dig_dv h.tail hc']

def trimL (l : List Int) : List Int := (l.reverse.dropWhile (· == 0)).reverse
theorem trimL_last (l : List Int) (x : Int) : trimL (l ++ [x]) = if x = 0 then trimL l else l ++ [x] := by
  unfold trimL
  simp only [List.reverse_append, List.reverse_singleton, List.singleton_append, List.dropWhile_cons]
  by_cases h : x = 0 <;> simp [h]
theorem trim_dig : ∀ {l : List Int}, Dg l → trimL l = dig (dv l).toNat := by
  have key : ∀ (n : Nat) (l : List Int), l.length = n → Dg l → trimL l = dig (dv l).toNat := by
    intro n
    induction n with
    | zero => intro l hl _; have : l = [] := List.eq_nil_of_length_eq_zero hl; subst this; rfl
    | succ n ih =>
      intro l hl h
      obtain ⟨m, x, rfl⟩ : ∃ m x, l = m ++ [x] := ⟨l.dropLast, l.getLast (by intro e; simp [e] at hl), (List.dropLast_concat_getLast _).symm⟩
      rw [trimL_last]
      have hm : Dg m := fun y hy => h y (by simp [hy])
      split
      · rename_i hx
        subst hx
        rw [ih m (by simpa using hl) hm, dv_append]
        simp [dv]
      · rename_i hx
        rw [dig_dv h]
        intro y hy
        simp at hy; subst hy; exact hx
  exact fun {l} h => key l.length l rfl h
theorem dig_Cn (n : Nat) : Cn (dig n) := by
  induction n using Nat.strongRecOn with
  | _ n ih =>
    by_cases h : n = 0
    · subst h; intro x hx; cases hx
    · rw [dig_pos h]
      intro x hx
      by_cases h2 : n / 65536 = 0
      · rw [h2, dig_zero] at hx; simp at hx; omega
      · have := ih (n / 65536) (by omega)
        rw [dig_pos h2] at this hx
        rw [List.getLast?_cons_cons] at hx
        exact this x hx
theorem dig_nil {n : Nat} : dig n = [] ↔ n = 0 := by
  constructor
  · intro h
    have := dv_dig n
    rw [h] at this; simp [dv] at this; omega
  · rintro rfl; rfl
theorem dig_length_lt : ∀ {n k : Nat}, n < 65536 ^ k → (dig n).length ≤ k
  | n, 0, h => by
    have : n = 0 := by simpa using h
    subst this; simp [dig_zero]
  | n, k + 1, h => by
    by_cases h0 : n = 0
    · subst h0; simp [dig_zero]
    · rw [dig_pos h0]
      have := dig_length_lt (n := n / 65536) (k := k) (by rw [Nat.div_lt_iff_lt_mul (by decide)]; rwa [Nat.pow_succ] at h)
      simp; omega
theorem dig_lt (n : Nat) : n < 65536 ^ (dig n).length := by
  induction n using Nat.strongRecOn with
  | _ n ih =>
    by_cases h : n = 0
    · subst h; simp [dig_zero]
    · have := ih (n / 65536) (by omega)
      rw [dig_pos h, List.length_cons, Nat.pow_succ]
      rw [Nat.div_lt_iff_lt_mul (by decide)] at this
      exact this
theorem dig_length_mono {m n : Nat} (h : m ≤ n) : (dig m).length ≤ (dig n).length := dig_length_lt (Nat.lt_of_le_of_lt h (dig_lt n))

/-! ### Sums -/
def plusC : Int → List Int → List Int → List Int
  | c, [], [] => if c = 0 then [] else [c]
  | c, x :: a, [] => (c + x) % 65536 :: plusC ((c + x) / 65536) a []
  | c, [], y :: b => (c + y) % 65536 :: plusC ((c + y) / 65536) [] b
  | c, x :: a, y :: b => (c + x + y) % 65536 :: plusC ((c + x + y) / 65536) a b
theorem plusC_spec : ∀ (c : Int) (a b : List Int), (c = 0 ∨ c = 1) → Dg a → Dg b → dv (plusC c a b) = c + dv a + dv b ∧ Dg (plusC c a b) ∧ (plusC c a b).length ≤ max a.length b.length + 1
  | c, [], [], hc, _, _ => by
    unfold plusC
    split
    · rename_i h; subst h; exact ⟨by simp [dv], Dg.nil, by simp⟩
    · exact ⟨by simp [dv], Dg.cons (by omega) Dg.nil, by simp⟩
  | c, x :: a, [], hc, ha, hb => by
    have hx := ha.head
    obtain ⟨h1, h2, h3⟩ := plusC_spec ((c + x) / 65536) a [] (by omega) ha.tail hb
    simp only [plusC, dv] at h1 ⊢
    refine ⟨by omega, Dg.cons (by omega) h2, by simp at h3 ⊢; omega⟩
  | c, [], y :: b, hc, ha, hb => by
    have hy := hb.head
    obtain ⟨h1, h2, h3⟩ := plusC_spec ((c + y) / 65536) [] b (by omega) ha hb.tail
    simp only [plusC, dv] at h1 ⊢
    refine ⟨by omega, Dg.cons (by omega) h2, by simp at h3 ⊢; omega⟩
  | c, x :: a, y :: b, hc, ha, hb => by
    have hx := ha.head
    have hy := hb.head
    obtain ⟨h1, h2, h3⟩ := plusC_spec ((c + x + y) / 65536) a b (by omega) ha.tail hb.tail
    simp only [plusC, dv] at h1 ⊢
    refine ⟨by omega, Dg.cons (by omega) h2, by simp at h3 ⊢; omega⟩
theorem plus_dig (m n : Nat) : trimL (plusC 0 (dig m) (dig n)) = dig (m + n) := by
  obtain ⟨h1, h2, _⟩ := plusC_spec 0 (dig m) (dig n) (.inl rfl) (dig_Dg m) (dig_Dg n)
  rw [trim_dig h2, h1, dv_dig, dv_dig]
  congr 1; omega

/-! ### Differences: the first one not less -/
def minusC : Int → List Int → List Int → List Int
  | _, [], _ => []
  | r, x :: a, [] => if x - r < 0 then (x - r + 65536) :: minusC 1 a [] else (x - r) :: minusC 0 a []
  | r, x :: a, y :: b => if x - r - y < 0 then (x - r - y + 65536) :: minusC 1 a b else (x - r - y) :: minusC 0 a b
theorem minusC_spec : ∀ (r : Int) (a b : List Int), (r = 0 ∨ r = 1) → Dg a → Dg b → (minusC r a b).length = a.length ∧ Dg (minusC r a b) ∧ (b.length ≤ a.length → ∃ r', (r' = 0 ∨ r' = 1) ∧ dv (minusC r a b) = dv a - dv b - r + 65536 ^ a.length * r')
  | r, [], b, hr, _, _ => by
    refine ⟨by simp [minusC], by unfold minusC; exact Dg.nil, fun hl => ⟨r, hr, ?_⟩⟩
    have : b = [] := List.eq_nil_of_length_eq_zero (by simpa using hl)
    subst this; simp [minusC, dv]; omega
  | r, x :: a, [], hr, ha, hb => by
    have hx := ha.head
    unfold minusC
    split
    · obtain ⟨h1, h2, h3⟩ := minusC_spec 1 a [] (.inr rfl) ha.tail hb
      refine ⟨by simp [h1], Dg.cons (by omega) h2, fun _ => ?_⟩
      obtain ⟨r', hr', h4⟩ := h3 (by simp)
      refine ⟨r', hr', ?_⟩
      simp only [dv, h4, List.length_cons, Int.pow_succ]
      rw [Int.mul_comm (65536 ^ a.length) 65536, Int.mul_assoc]; omega
    · obtain ⟨h1, h2, h3⟩ := minusC_spec 0 a [] (.inl rfl) ha.tail hb
      refine ⟨by simp [h1], Dg.cons (by omega) h2, fun _ => ?_⟩
      obtain ⟨r', hr', h4⟩ := h3 (by simp)
      refine ⟨r', hr', ?_⟩
      simp only [dv, h4, List.length_cons, Int.pow_succ]
      rw [Int.mul_comm (65536 ^ a.length) 65536, Int.mul_assoc]; omega
  | r, x :: a, y :: b, hr, ha, hb => by
    have hx := ha.head
    have hy := hb.head
    unfold minusC
    split
    · obtain ⟨h1, h2, h3⟩ := minusC_spec 1 a b (.inr rfl) ha.tail hb.tail
      refine ⟨by simp [h1], Dg.cons (by omega) h2, fun hl => ?_⟩
      obtain ⟨r', hr', h4⟩ := h3 (by simpa using hl)
      refine ⟨r', hr', ?_⟩
      simp only [dv, h4, List.length_cons, Int.pow_succ]
      rw [Int.mul_comm (65536 ^ a.length) 65536, Int.mul_assoc]; omega
    · obtain ⟨h1, h2, h3⟩ := minusC_spec 0 a b (.inl rfl) ha.tail hb.tail
      refine ⟨by simp [h1], Dg.cons (by omega) h2, fun hl => ?_⟩
      obtain ⟨r', hr', h4⟩ := h3 (by simpa using hl)
      refine ⟨r', hr', ?_⟩
      simp only [dv, h4, List.length_cons, Int.pow_succ]
      rw [Int.mul_comm (65536 ^ a.length) 65536, Int.mul_assoc]; omega
theorem dv_lt : ∀ {l : List Int}, Dg l → dv l < 65536 ^ l.length
  | [], _ => by simp [dv]
  | x :: l, h => by
    have := dv_lt h.tail
    have hx := h.head
    simp only [dv, List.length_cons, Int.pow_succ]; omega
theorem minus_dig {m n : Nat} (h : n ≤ m) : trimL (minusC 0 (dig m) (dig n)) = dig (m - n) := by
  obtain ⟨h1, h2, h3⟩ := minusC_spec 0 (dig m) (dig n) (.inl rfl) (dig_Dg m) (dig_Dg n)
  obtain ⟨r', hr', h4⟩ := h3 (dig_length_mono h)
  have h5 := dv_lt h2
  rw [h1] at h5
  rw [dv_dig, dv_dig] at h4
  have : r' = 0 := by
    rcases hr' with h | h
    · exact h
    · subst h; rw [Int.mul_one] at h4; omega
  subst this
  rw [trim_dig h2, h4]
  congr 1; omega

/-! ### Which one is less -/
/-- from the highest digit down -/
def lessR : List Int → List Int → Bool
  | x :: a, y :: b => if x = y then lessR a b else decide (x < y)
  | _, _ => false
theorem dv_rev_lt : ∀ (a b : List Int), Dg a → Dg b → a.length = b.length → (lessR a b = true ↔ dv a.reverse < dv b.reverse)
  | [], [], _, _, _ => by simp [lessR, dv]
  | [], _ :: _, _, _, h => by simp at h
  | _ :: _, [], _, _, h => by simp at h
  | x :: a, y :: b, ha, hb, hl => by
    have ih := dv_rev_lt a b ha.tail hb.tail (by simpa using hl)
    have h1 := dv_lt (l := a.reverse) (fun z hz => ha.tail z (by simpa using hz))
    have h2 := dv_lt (l := b.reverse) (fun z hz => hb.tail z (by simpa using hz))
    have h3 := dv_nonneg (l := a.reverse) (fun z hz => ha.tail z (by simpa using hz))
    have h4 := dv_nonneg (l := b.reverse) (fun z hz => hb.tail z (by simpa using hz))
    simp only [List.length_reverse] at h1 h2
    have hlen : b.length = a.length := by simpa using hl.symm
    rw [hlen] at h2
    simp only [lessR, List.reverse_cons, dv_append, List.length_reverse, dv, Int.mul_zero, Int.add_zero, hlen]
    generalize (65536 : Int) ^ a.length = q at *
    split
    · rename_i h; subst h; rw [ih]; omega
    · rename_i h
      rw [decide_eq_true_eq]
      constructor
      · intro hlt
        have : q * (x + 1) ≤ q * y := Int.mul_le_mul_of_nonneg_left (by omega) (by omega)
        rw [Int.mul_add] at this; omega
      · intro hlt
        refine Classical.byContradiction fun hn => ?_
        have : q * (y + 1) ≤ q * x := Int.mul_le_mul_of_nonneg_left (by omega) (by omega)
        rw [Int.mul_add] at this; omega
def lessL (a b : List Int) : Bool := if a.length ≠ b.length then decide (a.length < b.length) else lessR a.reverse b.reverse
theorem less_dig (m n : Nat) : lessL (dig m) (dig n) = decide (m < n) := by
  rw [Bool.eq_iff_iff, decide_eq_true_eq]
  unfold lessL
  split
  · rename_i h
    rw [decide_eq_true_eq]
    constructor
    · intro hl
      refine Nat.lt_of_not_le fun hge => ?_
      have := dig_length_mono hge; omega
    · intro hl
      have := dig_length_mono (Nat.le_of_lt hl); omega
  · rename_i h
    rw [dv_rev_lt _ _ (fun z hz => dig_Dg m z (by simpa using hz)) (fun z hz => dig_Dg n z (by simpa using hz)) (by simpa using h), List.reverse_reverse, List.reverse_reverse, dv_dig, dv_dig]
    omega

/-! ### Of a number of the machine -/
def lowD : Nat → Nat → List Int
  | 0, _ => []
  | k + 1, n => ((n % 65536 : Nat) : Int) :: lowD k (n / 65536)
theorem lowD_spec : ∀ (k n : Nat), Dg (lowD k n) ∧ (lowD k n).length = k ∧ (n < 65536 ^ k → dv (lowD k n) = n)
  | 0, n => ⟨Dg.nil, rfl, fun h => by have : n = 0 := by simpa using h
                                      subst this; rfl⟩
  | k + 1, n => by
    obtain ⟨h1, h2, h3⟩ := lowD_spec k (n / 65536)
    refine ⟨Dg.cons (by omega) h1, by simp [lowD, h2], fun h => ?_⟩
    have := h3 (by rw [Nat.div_lt_iff_lt_mul (by decide)]; rwa [Nat.pow_succ] at h)
    simp only [lowD, dv, this]; omega
theorem low_dig {n : Nat} (h : n < 18446744073709551616) : trimL (lowD 4 n) = dig n := by
  obtain ⟨h1, _, h3⟩ := lowD_spec 4 n
  rw [trim_dig h1, h3 h]; rfl
def sg (s : Bool) (m : Nat) : Int := if s then -(m : Int) else m
theorem sg_tmod (s : Bool) (m : Nat) : (sg s m).tmod 65536 = sg s (m % 65536) := by
  cases s
  · show Int.tmod (m : Int) 65536 = ((m % 65536 : Nat) : Int)
    rw [Int.tmod_eq_emod_of_nonneg (by omega)]; rfl
  · show Int.tmod (-(m : Int)) 65536 = -((m % 65536 : Nat) : Int)
    rw [Int.neg_tmod, Int.tmod_eq_emod_of_nonneg (by omega)]; rfl
theorem sg_tdiv (s : Bool) (m : Nat) : (sg s m).tdiv 65536 = sg s (m / 65536) := by
  cases s
  · show Int.tdiv (m : Int) 65536 = ((m / 65536 : Nat) : Int)
    rw [Int.tdiv_eq_ediv_of_nonneg (by omega)]; rfl
  · show Int.tdiv (-(m : Int)) 65536 = -((m / 65536 : Nat) : Int)
    rw [Int.neg_tdiv, Int.tdiv_eq_ediv_of_nonneg (by omega)]; rfl
theorem sg_natAbs (a : Int) : a = sg (decide (a < 0)) a.natAbs := by
  unfold sg
  by_cases h : a < 0 <;> simp [h] <;> omega
theorem sg_bounds (s : Bool) (m : Nat) : -(m : Int) ≤ sg s m ∧ sg s m ≤ m := by cases s <;> simp [sg] <;> omega
theorem sg_neg {s : Bool} {m : Nat} (h : sg s m < 0) : 0 - sg s m = m := by cases s <;> simp [sg] at h ⊢ <;> omega
theorem sg_pos {s : Bool} {m : Nat} (h : ¬ sg s m < 0) : sg s m = m := by cases s <;> simp [sg] at h ⊢ <;> omega

/-! ### Products -/
def mulC (x : Int) : Int → List Int → List Int
  | c, [] => if c = 0 then [] else [c]
  | c, y :: b => (c + x * y) % 65536 :: mulC x ((c + x * y) / 65536) b
theorem mul_bound {c x y : Int} (hc : 0 ≤ c ∧ c < 65536) (hx : 0 ≤ x ∧ x < 65536) (hy : 0 ≤ y ∧ y < 65536) : 0 ≤ x * y ∧ x * y ≤ 65535 * 65535 ∧ 0 ≤ c + x * y ∧ c + x * y < 4294967296 := by
  have h1 : 0 ≤ x * y := Int.mul_nonneg hx.1 hy.1
  have h2 : x * y ≤ 65535 * 65535 := Int.mul_le_mul (by omega) (by omega) hy.1 (by omega)
  omega
theorem mulC_spec {x : Int} (hx : 0 ≤ x ∧ x < 65536) : ∀ (b : List Int) (c : Int), (0 ≤ c ∧ c < 65536) → Dg b → dv (mulC x c b) = c + x * dv b ∧ Dg (mulC x c b) ∧ (mulC x c b).length ≤ b.length + 1
  | [], c, hc, _ => by
    unfold mulC
    split
    · rename_i h; subst h; exact ⟨by simp [dv], Dg.nil, by simp⟩
    · exact ⟨by simp [dv], Dg.cons hc Dg.nil, by simp⟩
  | y :: b, c, hc, hb => by
    have hy := hb.head
    have hm := mul_bound hc hx hy
    obtain ⟨h1, h2, h3⟩ := mulC_spec hx b ((c + x * y) / 65536) (by omega) hb.tail
    simp only [mulC, dv, h1, Int.mul_add]
    refine ⟨?_, Dg.cons (by omega) h2, by simp; omega⟩
    rw [← Int.mul_assoc x 65536, Int.mul_comm x 65536, Int.mul_assoc]; omega
theorem dv_zeros : ∀ n : Nat, dv (List.replicate n 0) = 0
  | 0 => rfl
  | n + 1 => by rw [List.replicate_succ, dv, dv_zeros n]; rfl
theorem Dg_zeros (n : Nat) : Dg (List.replicate n 0) := fun x hx => by
  have := List.eq_of_mem_replicate hx; omega
theorem dig_mul_length (m n : Nat) : (dig (m * n)).length ≤ (dig m).length + (dig n).length := by
  apply dig_length_lt
  rw [Nat.pow_add]
  exact Nat.mul_lt_mul'' (dig_lt m) (dig_lt n)
/-- a row of a product -/
theorem row_dig {x : Int} (hx : 0 ≤ x ∧ x < 65536) (i n : Nat) : trimL (List.replicate i 0 ++ mulC x 0 (dig n)) = dig (65536 ^ i * x.toNat * n) := by
  obtain ⟨h1, h2, _⟩ := mulC_spec hx (dig n) 0 (by omega) (dig_Dg n)
  rw [trim_dig ((Dg_zeros i).append h2), dv_append, dv_zeros, List.length_replicate, h1, dv_dig]
  congr 1
  obtain ⟨y, rfl⟩ : ∃ y : Nat, x = y := ⟨x.toNat, by omega⟩
  have : (0 + 65536 ^ i * (0 + (y : Int) * (n : Int)) : Int) = ((65536 ^ i * y * n : Nat) : Int) := by
    rw [Int.zero_add, Int.zero_add, ← Int.mul_assoc, Int.natCast_mul, Int.natCast_mul, Int.natCast_pow]; rfl
  rw [this]; rfl
theorem dv_take_succ {l : List Int} {i : Nat} {x : Int} (h : l[i]? = some x) : dv (l.take (i + 1)) = dv (l.take i) + 65536 ^ i * x := by
  have hlt := (List.getElem?_eq_some_iff.1 h).1
  rw [List.take_add_one, h, Option.toList_some, dv_append, List.length_take, Nat.min_eq_left (by omega)]
  simp [dv]
theorem dv_take_le {l : List Int} (hl : Dg l) (i : Nat) : 0 ≤ dv (l.take i) ∧ dv (l.take i) ≤ dv l := by
  have h1 := dv_nonneg (l := l.take i) (fun x hx => hl x (List.mem_of_mem_take hx))
  have h2 := dv_nonneg (l := l.drop i) (fun x hx => hl x (List.mem_of_mem_drop hx))
  refine ⟨h1, ?_⟩
  have e := dv_append (l.take i) (l.drop i)
  rw [List.take_append_drop] at e
  have h3 : (0 : Int) ≤ 65536 ^ (l.take i).length * dv (l.drop i) := Int.mul_nonneg (Int.pow_nonneg (by decide)) h2
  omega

end Go.Abs
