/- A plan for a region whose order is open: its evaluation covers every order: the theorem. No condition: lemmas. -/
import Derived.Test.YtflibnlbkffilaaAbs23
set_option linter.unusedSimpArgs false
set_option linter.unusedVariables false
set_option linter.deprecated false
namespace Go.Abs
open Go.RowKit
variable {S : Seat}

def perfs : Plan → List (Nat × Option Nat × Plan)
  | .done => []
  | .take _ _ => []
  | .perform i n p => [(i, n, p)]
  | .both p q => perfs p ++ perfs q

theorem perfs_ok {ops : List Oper} : ∀ {p : Plan} {b : Bool} {L U : List Nat}, planOK ops p b L U = true → ∀ x ∈ perfs p, x.1 ∉ L ∧ (∃ o, ops[x.1]? = some o ∧ planOK ops x.2.2 true (x.1 :: L) (U.filter fun j => !waits o j) = true)
  | .done, b, L, U, h, x, hx => by cases hx
  | .take i p, b, L, U, h, x, hx => by cases hx
  | .perform i n p, b, L, U, h, x, hx => by
    simp only [perfs, List.mem_singleton] at hx; subst hx
    simp only [planOK] at h
    split at h
    · rename_i o ho
      simp only [Bool.and_eq_true, Bool.not_eq_true', List.contains_eq_mem, decide_eq_false_iff_not] at h
      exact ⟨h.1.2, o, ho, h.2⟩
    · cases h
  | .both p q, b, L, U, h, x, hx => by
    simp only [planOK, Bool.and_eq_true] at h
    rcases List.mem_append.1 hx with hx | hx
    · exact perfs_ok h.1.2 x hx
    · exact perfs_ok h.2 x hx

theorem perfs_run {ops : List Oper} {k : ExK} {pend : List Pend} {t : List AV} {h : Heap} : ∀ {p : Plan}, planR S ops k p pend t h → ∀ x ∈ perfs p, performR S ops x.1 x.2.1 k (planR S ops k x.2.2) pend t h
  | .done, hr, x, hx => by cases hx
  | .take i p, hr, x, hx => by cases hx
  | .perform i n p, hr, x, hx => by
    simp only [perfs, List.mem_singleton] at hx; subst hx
    exact hr
  | .both p q, hr, x, hx => by
    have hr : planR S ops k p pend t h ∧ planR S ops k q pend t h := hr
    rcases List.mem_append.1 hx with hx | hx
    · exact perfs_run hr.1 x hx
    · exact perfs_run hr.2 x hx

theorem heads_perfs : ∀ {p : Plan} {i : Nat}, i ∈ headsOf p → ∃ x ∈ perfs p, x.1 = i
  | .done, i, h => by cases h
  | .take i p, j, h => by cases h
  | .perform i n p, j, h => ⟨(i, n, p), by simp [perfs], by simp only [headsOf, List.mem_singleton] at h; exact h.symm⟩
  | .both p q, j, h => by
    rcases List.mem_append.1 h with h | h
    · obtain ⟨x, hx, e⟩ := heads_perfs h; exact ⟨x, by simp [perfs, hx], e⟩
    · obtain ⟨x, hx, e⟩ := heads_perfs h; exact ⟨x, by simp [perfs, hx], e⟩

theorem heads_ne {ops : List Oper} {L U : List Nat} : ∀ {p : Plan}, planOK ops p false L U = true → headsOf p ≠ []
  | .done, h => by simp [planOK] at h
  | .take i p, h => by
    simp only [planOK] at h
    split at h
    · simp at h
    · cases h
  | .perform i n p, h => by simp [headsOf]
  | .both p q, h => by
    simp only [planOK, Bool.and_eq_true] at h
    have := heads_ne (p := p) h.1.2
    simp [headsOf, this]

theorem heads_ready {ops : List Oper} {L U : List Nat} : ∀ {p : Plan}, (∀ i q, p ≠ .take i q) → planOK ops p true L U = true → (∀ j, j ∈ readyOf ops L ↔ j ∈ headsOf p) ∧ (headsOf p = [] → p = .done)
  | .done, _, h => by
    simp only [planOK, Bool.true_and, List.isEmpty_iff] at h
    exact ⟨fun j => by rw [h]; rfl, fun _ => rfl⟩
  | .take i p, hn, _ => absurd rfl (hn i p)
  | .perform i n p, _, h => by
    simp only [planOK] at h
    split at h
    · simp only [Bool.not_true, Bool.false_or, Bool.and_eq_true, sameSet, List.all_eq_true, List.contains_eq_mem, decide_eq_true_eq] at h
      exact ⟨fun j => ⟨fun hj => h.1.1.1 j hj, fun hj => h.1.1.2 j hj⟩, fun e => by simp [headsOf] at e⟩
    · cases h
  | .both p q, _, h => by
    simp only [planOK, Bool.not_true, Bool.false_or, Bool.and_eq_true, sameSet, List.all_eq_true, List.contains_eq_mem, decide_eq_true_eq] at h
    refine ⟨fun j => ⟨fun hj => h.1.1.1 j hj, fun hj => h.1.1.2 j hj⟩, fun e => ?_⟩
    have := heads_ne (p := p) h.1.2
    simp [headsOf, this] at e

theorem mem_readyOf {ops : List Oper} {L : List Nat} {j : Nat} : j ∈ readyOf ops L ↔ j ∉ L ∧ ∃ o, ops[j]? = some o ∧ ∀ e ∈ o.after, binds e = true → e.on ∈ L := by
  unfold readyOf restOf binds
  simp only [List.mem_filter, List.mem_range, List.contains_eq_mem, Bool.not_eq_true', decide_eq_false_iff_not]
  constructor
  · rintro ⟨⟨h1, h2⟩, h3⟩
    refine ⟨h2, ops[j], List.getElem?_eq_getElem h1, fun e he hb => ?_⟩
    rw [List.getElem?_eq_getElem h1] at h3
    simp only [List.all_eq_true, Array.mem_toList_iff, Bool.or_eq_true, Bool.not_eq_true', decide_eq_true_eq] at h3
    rcases h3 e he with h | h
    · rw [hb] at h; cases h
    · exact h
  · rintro ⟨h1, o, ho, h⟩
    refine ⟨⟨(List.getElem?_eq_some_iff.1 ho).1, h1⟩, ?_⟩
    rw [ho]
    simp only [List.all_eq_true, Array.mem_toList_iff, Bool.or_eq_true, Bool.not_eq_true', decide_eq_true_eq]
    intro e he
    cases hb : Region.binds .any e with
    | false => exact .inl rfl
    | true => exact .inr (h e he hb)

/-- the machine is somewhere in a plan: what is promised -/
def Snd (S : Seat) (ops : List Oper) (k : ExK) (p : Plan) : Prop :=
  ∀ (L U : List Nat) (pend : List Pend) (t : List AV) (h : Heap), planOK ops p true L U = true → planR S ops k p pend t h → InvS S ops L U → pendOK S ops t pend U → pendP h pend →
    ∀ (V todo : List Nat) (listed : Array Bool) (E0 E : Env) (w : World) (a : Act), Dyn ops L U V todo listed → R S E h w → ActR E (maskT (vis ops V) 0 t) a → Ext E0 E →
      wpAnyIn (fen E0) 0 S.P .any ops.toArray (PostR S E0 k) todo.length listed a w

theorem ActR.putM {E E' : Env} {ops : List Oper} {V : List Nat} {t : List AV} {a : Act} (ha : ActR E (maskT (vis ops V) 0 t) a) (hx : Ext E E') (hm : E'.marks = E.marks) {v : AV} {u : Value} (hv : VR E' v u) {d : Option Tmp} (hd : ∀ e, d = some e → vis ops V e = true) : ActR E' (maskT (vis ops V) 0 (setDst t d v)) (a.put d u) := by
  have := ha.put hx hm hv d
  cases d with
  | none => exact this
  | some e =>
    have e2 : maskT (vis ops V) 0 (setDst t (some e) v) = setDst (maskT (vis ops V) 0 t) (some e) v := maskT_set_in (hd e rfl) t v
    rw [e2]; exact this

theorem Dyn.step {ops : List Oper} {L U V todo : List Nat} {listed : Array Bool} (hd : Dyn ops L U V todo listed) {i : Nat} (hi : i ∈ todo) {L' U' V' : List Nat} (hsub : V'.Sublist U')
    (hch : ∀ j, j < ops.length → j ≠ i → ((j ∉ L' ∨ j ∈ V') ↔ (j ∉ L ∨ j ∈ V))) (hi1 : i ∈ L') (hi2 : i ∉ V') : Dyn ops L' U' V' (todo.erase i) (listed.setIfInBounds i true) ∧ todo.length = (todo.erase i).length + 1 := by
  refine ⟨⟨hsub, hd.nd.erase i, by simp [hd.sz], fun j => ?_, fun j => ?_⟩, ?_⟩
  · rw [hd.nd.mem_erase_iff]
    by_cases hj : j = i
    · subst hj
      have hlt : j < listed.size := by rw [hd.sz]; exact ((hd.ch j).1 hi).1
      simp [hlt]
    · rw [getD_set_ne true (fun e => hj e.symm), hd.mem]
      exact ⟨fun h => ⟨hj, h⟩, fun h => h.2⟩
  · rw [hd.nd.mem_erase_iff, hd.ch]
    by_cases hj : j = i
    · subst hj
      exact ⟨fun h => absurd rfl h.1, fun h => h.2.elim (fun h => absurd hi1 h) (fun h => absurd h hi2)⟩
    · constructor
      · rintro ⟨_, h1, h2⟩; exact ⟨h1, (hch j h1 hj).2 h2⟩
      · rintro ⟨h1, h2⟩; exact ⟨hj, h1, (hch j h1 hj).1 h2⟩
  · rw [List.length_erase_of_mem hi]
    have : 0 < todo.length := List.length_pos_of_mem hi
    omega

theorem trimU_ok {E : Env} {w : World} : ∀ {h : Heap}, R S E h w → R S E (trimU h) w := by
  have hsub : ∀ (h : Heap), (∀ (i : Nat) c, (trimU h)[i]? = some c → h[i]? = some c) ∧ (∀ (i : Nat), (trimU h)[i]? = none → h[i]? = none ∨ h[i]? = some .unborn) := by
    intro h
    induction h with
    | nil => exact ⟨fun i c hc => hc, fun i hi => .inl rfl⟩
    | cons c h ih =>
      have e : trimU (c :: h) = match c, trimU h with | .unborn, [] => [] | c, l => c :: l := rfl
      have hgo : trimU (c :: h) = c :: trimU h ∨ (trimU (c :: h) = [] ∧ c = .unborn ∧ trimU h = []) := by
        rw [e]
        split
        · rename_i h1; exact .inr ⟨rfl, rfl, h1⟩
        · exact .inl rfl
      rcases hgo with hgo | ⟨hgo, rfl, h0⟩
      · rw [hgo]
        refine ⟨fun i d hd => ?_, fun i hi => ?_⟩
        · cases i with
          | zero => simpa using hd
          | succ i => simp at hd ⊢; exact ih.1 i d hd
        · cases i with
          | zero => simp at hi
          | succ i => simp at hi ⊢; simpa using ih.2 i (by simpa using hi)
      · rw [hgo]
        refine ⟨fun i d hd => by simp at hd, fun i _ => ?_⟩
        cases i with
        | zero => exact .inr rfl
        | succ i => simpa using ih.2 i (by rw [h0]; simp)
  intro h hr
  obtain ⟨h1, h2⟩ := hsub h
  exact ⟨⟨fun i c hc => hr.r0.ch i c (h1 i c hc), hr.r0.glob, fun i hi => by
      rcases h2 i hi with h | h
      · exact hr.r0.non i h
      · exact hr.r0.ch i _ h,
    fun i c b hc ho => hr.r0.lt i c b (h1 i c hc) ho, fun i j c d b hc hd => hr.r0.disj i j c d b (h1 i c hc) (h1 j d hd), hr.r0.imm, fun l hl => ⟨(hr.r0.rnd l hl).1, fun i c hc => (hr.r0.rnd l hl).2 i c (h1 i c hc)⟩,
      fun D hD => ⟨(hr.r0.mks D hD).1, (hr.r0.mks D hD).2.1, fun i c hc => (hr.r0.mks D hD).2.2 i c (h1 i c hc)⟩⟩,
    ⟨hr.kp.same, fun i c b hc => hr.kp.keep i c b (h1 i c hc), hr.kp.size, hr.kp.klt, hr.kp.s3⟩⟩

end Go.Abs
