/- Equality of structs without pointers, functions or interfaces in them: a check by the kernel, and what it gives. No condition: definitions and lemmas. -/
import Derived.Test.YtflibnlbkffilaaAbs28
set_option linter.unusedSimpArgs false
set_option linter.unusedVariables false
set_option linter.deprecated false
namespace Go.Abs
open Go.RowKit

def flatFs (P : Program) (g : TypeId → Bool) : List Field → Nat → Nat → Bool
  | [], off, total => Nat.beq off total
  | f :: r, off, total => (f.name != "_") && Nat.beq f.offset off && (P.info? f.type).isSome && g f.type && flatFs P g r (off + P.cellsOf f.type) total
def flatB (P : Program) : Nat → TypeId → Bool
  | 0, _ => false
  | d + 1, t =>
    match P.underlying t with
    | some (.int _) => Nat.beq (P.cellsOf t) 1
    | some .bool => Nat.beq (P.cellsOf t) 1
    | some .string => Nat.beq (P.cellsOf t) 1
    | some (.struct fs) => !P.stoodInHeld t && flatFs P (flatB P d) fs.toList 0 (P.cellsOf t)
    | _ => false

theorem cellsEq_append : ∀ {a b c d : List AV} {r : Bool}, a.length = c.length → cellsEq (a ++ b) (c ++ d) = some r → ∃ r1 r2, cellsEq a c = some r1 ∧ cellsEq b d = some r2 ∧ r = (r1 && r2)
  | [], b, [], d, r, _, h => ⟨true, r, rfl, h, by simp⟩
  | [], b, y :: c, d, r, hl, h => by simp at hl
  | x :: a, b, [], d, r, hl, h => by simp at hl
  | x :: a, b, y :: c, d, r, hl, h => by
    simp only [List.cons_append, cellsEq] at h ⊢
    cases hx : cellEq x y with
    | none => simp [hx] at h
    | some q =>
      cases hr : cellsEq (a ++ b) (c ++ d) with
      | none => simp [hx, hr] at h
      | some s =>
        simp only [hx, hr, Option.some.injEq] at h
        obtain ⟨r1, r2, h1, h2, rfl⟩ := cellsEq_append (by simpa using hl) hr
        exact ⟨q && r1, r2, by simp [h1], h2, by rw [← h, Bool.and_assoc]⟩

theorem cellEq_run {P : Program} {E : Env} {t : TypeId} {x y : AV} {r : Bool} {u v : Value} {w : World} (h : cellEq x y = some r) (hx : VR E x u) (hy : VR E y v) (D : Nat)
    (hu : (∃ k, P.underlying t = some (.int k) ∧ ∃ k n, u = .int k n) ∨ (P.underlying t = some .bool ∧ ∃ b, u = .bool b) ∨ (P.underlying t = some .string ∧ ∃ b, u = .string b)) : (Op.equalIn (D + 1) t u v).run P w = .ok r w := by
  unfold cellEq at h
  split at h
  · rename_i k a k' b
    split at h
    · rename_i hk
      cases h
      have := kEq_eq hk; subst this
      simp only [VR] at hx hy
      subst hx; subst hy
      rcases hu with ⟨k0, hu, _⟩ | ⟨_, b, h⟩ | ⟨_, b, h⟩
      · exact run_equalIn_int w D t k k0 a b hu
      · cases h
      · cases h
    · cases h
  · rename_i a b
    cases h
    simp only [VR] at hx hy
    subst hx; subst hy
    rcases hu with ⟨_, _, k, n, h⟩ | ⟨hu, _⟩ | ⟨_, b, h⟩
    · cases h
    · exact run_equalIn_bool w D t a b hu
    · cases h
  · rename_i a b
    cases h
    simp only [VR] at hx hy
    subst hx; subst hy
    rcases hu with ⟨_, _, k, n, h⟩ | ⟨_, b, h⟩ | ⟨hu, _⟩
    · cases h
    · cases h
    · rw [run_equalIn_string w D t _ _ hu]
      have e : ∀ s : List UInt8, (⟨s.toArray⟩ : ByteArray).toList = s := fun s => by rw [ByteArray.toList_eq]
      rw [e, e]
  · cases h

/-- the kinds of cells, too -/
theorem cellEq_kind {E : Env} {x y : AV} {r : Bool} {u : Value} (h : cellEq x y = some r) (hx : VR E x u) : (∃ k n, u = .int k n) ∨ (∃ b, u = .bool b) ∨ ∃ b, u = .string b := by
  unfold cellEq at h
  split at h
  · simp only [VR] at hx; exact .inl ⟨_, _, hx⟩
  · simp only [VR] at hx; exact .inr (.inl ⟨_, hx⟩)
  · simp only [VR] at hx; exact .inr (.inr ⟨_, hx⟩)
  · cases h

/-- a value of a type, out of its cells -/
def wrapV (P : Program) (t : TypeId) (us : List Value) : Value := if aggP P t then .agg us.toArray else us.headD undef
/-- the kinds of a type's cells -/
def shapeFs (g : TypeId → List Nat) : List Field → List Nat
  | [] => []
  | f :: r => g f.type ++ shapeFs g r
def shapeL (P : Program) : Nat → TypeId → List Nat
  | 0, _ => []
  | d + 1, t =>
    match P.underlying t with
    | some (.int _) => [0]
    | some .bool => [1]
    | some .string => [2]
    | some (.struct fs) => shapeFs (shapeL P d) fs.toList
    | _ => []
def kV : Value → Nat
  | .int _ _ => 0
  | .bool _ => 1
  | .string _ => 2
  | _ => 3
theorem kV0 {v : Value} (h : kV v = 0) : ∃ k n, v = .int k n := by cases v <;> simp [kV] at h; exact ⟨_, _, rfl⟩
theorem kV1 {v : Value} (h : kV v = 1) : ∃ b, v = .bool b := by cases v <;> simp [kV] at h; exact ⟨_, rfl⟩
theorem kV2 {v : Value} (h : kV v = 2) : ∃ b, v = .string b := by cases v <;> simp [kV] at h; exact ⟨_, rfl⟩
theorem shape_length {P : Program} : ∀ (d : Nat) (t : TypeId), flatB P d t = true → (shapeL P d t).length = P.cellsOf t
  | 0, t, h => by simp [flatB] at h
  | d + 1, t, h => by
    unfold flatB at h
    unfold shapeL
    split at h
    · rename_i k hu; exact (Nat.eq_of_beq_eq_true h).symm
    · rename_i hu; exact (Nat.eq_of_beq_eq_true h).symm
    · rename_i hu; exact (Nat.eq_of_beq_eq_true h).symm
    · rename_i fs hu
      simp only [Bool.and_eq_true] at h
      have key : ∀ (l : List Field) (off : Nat), flatFs P (flatB P d) l off (P.cellsOf t) = true → off + (shapeFs (shapeL P d) l).length = P.cellsOf t := by
        intro l
        induction l with
        | nil => intro off h; simpa [shapeFs] using Nat.eq_of_beq_eq_true h
        | cons f l ih =>
          intro off h
          simp only [flatFs, Bool.and_eq_true] at h
          have := ih _ h.2
          have hf := shape_length d f.type h.1.2
          simp only [shapeFs, List.length_append, hf]; omega
      simpa using key fs.toList 0 h.2
    · cases h
theorem shapeB_kV {E : Env} : ∀ {ks : List Nat} {cs : List AV} {us : List Value}, shapeB ks cs = true → VRL E cs us → us.map kV = ks
  | [], [], us, _, hv => by simp only [VRL] at hv; subst hv; rfl
  | [], c :: cs, us, h, _ => by simp [shapeB] at h
  | n :: ns, [], us, h, _ => by simp [shapeB] at h
  | n :: ns, c :: cs, us, h, hv => by
    obtain ⟨u, us', rfl, h1, h2⟩ := hv.uncons
    simp only [shapeB] at h
    split at h
    · split at h
      · rename_i hn
        simp only [VR] at h1; subst h1
        simp [kV, shapeB_kV h h2, Nat.eq_of_beq_eq_true hn]
      · cases h
    · split at h
      · rename_i hn
        simp only [VR] at h1; subst h1
        simp [kV, shapeB_kV h h2, Nat.eq_of_beq_eq_true hn]
      · cases h
    · split at h
      · rename_i hn
        simp only [VR] at h1; subst h1
        simp [kV, shapeB_kV h h2, Nat.eq_of_beq_eq_true hn]
      · cases h
    · cases h

theorem run_part_wrap {P : Program} {t : TypeId} {d : TypeDesc} (hd : P.underlying t = some d) (hi : (P.info? t).isSome = true) (us : List Value) (off : Nat) (h : aggP P t = false → off < us.length ∧ P.cellsOf t = 1) (w : World) :
    (part t us.toArray off).run P w = .ok (wrapV P t ((us.drop off).take (P.cellsOf t))) w := by
  obtain ⟨i, hi⟩ := Option.isSome_iff_exists.1 hi
  unfold part
  rw [Sem.run_bind, run_isAgg' hd]
  simp only [Result.andThen_ok]
  cases ha : aggP P t with
  | true =>
    simp only [if_true, Sem.run_bind, run_sizeOf' hi, Result.andThen_ok, Sem.run_pure, wrapV, ha]
    congr 2
    simp [Program.cellsOf, hi]
  | false =>
    obtain ⟨h1, h2⟩ := h ha
    simp only [Bool.false_eq_true, if_false, wrapV, ha, h2]
    have : us[off]? = some us[off] := List.getElem?_eq_getElem h1
    have e : (us.drop off).take 1 = [us[off]] := by
      rw [List.take_one, List.head?_drop, this]; rfl
    simp [e, this]

theorem flat_eq {P : Program} : ∀ (d : Nat) (t : TypeId), flatB P d t = true → ∀ (D : Nat), d ≤ D → ∀ (E : Env) (xs ys : List AV) (r : Bool) (us ws : List Value) (w : World),
    cellsEq xs ys = some r → VRL E xs us → VRL E ys ws → us.map kV = shapeL P d t → ws.map kV = shapeL P d t → (Op.equalIn D t (wrapV P t us) (wrapV P t ws)).run P w = .ok r w
  | 0, t, h, _, _, _, _, _, _, _, _, _, _, _, _, _, _ => by simp [flatB] at h
  | d + 1, t, h, D, hD, E, xs, ys, r, us, ws, w, hc, hx, hy, tu, tw => by
    have hl : us.length = P.cellsOf t := by rw [← shape_length _ _ h, ← tu, List.length_map]
    have hlw : ws.length = P.cellsOf t := by rw [← shape_length _ _ h, ← tw, List.length_map]
    obtain ⟨D, rfl⟩ : ∃ D', D = D' + 1 := ⟨D - 1, by omega⟩
    have one : aggP P t = false → us.length = 1 → ws.length = 1 → ((∃ k, P.underlying t = some (.int k) ∧ ∃ k n, wrapV P t us = .int k n) ∨ (P.underlying t = some .bool ∧ ∃ b, wrapV P t us = .bool b) ∨ (P.underlying t = some .string ∧ ∃ b, wrapV P t us = .string b)) →
        (Op.equalIn (D + 1) t (wrapV P t us) (wrapV P t ws)).run P w = .ok r w := by
      intro ha h1 h2 hu
      match us, ws, h1, h2, hx, hy with
      | [u], [v], _, _, hx, hy =>
        have lx := hx.length
        have ly := hy.length
        match xs, ys, lx, ly, hx, hy, hc with
        | [x], [y], _, _, hx, hy, hc =>
          obtain ⟨_, _, e, hx, _⟩ := hx.uncons; cases e
          obtain ⟨_, _, e, hy, _⟩ := hy.uncons; cases e
          simp only [cellsEq] at hc
          cases hq : cellEq x y with
          | none => simp [hq] at hc
          | some q =>
            simp only [hq, Bool.and_true, Option.some.injEq] at hc
            subst hc
            simp only [wrapV, ha, Bool.false_eq_true, if_false, List.headD_cons] at hu ⊢
            exact cellEq_run hq hx hy D hu
    unfold flatB at h
    unfold shapeL at tu tw
    have g1 : ∀ (vs : List Value) (n : Nat), vs.map kV = [n] → ∃ v, vs = [v] ∧ kV v = n := fun vs n hv => by
      match vs, hv with
      | [v], hv => exact ⟨v, rfl, by simpa using hv⟩
    split at h
    · rename_i k hu
      rw [hu] at tu tw
      have ha : aggP P t = false := by simp [aggP, hu]
      obtain ⟨u1, rfl, hk1⟩ := g1 _ _ tu
      obtain ⟨u2, rfl, hk2⟩ := g1 _ _ tw
      obtain ⟨k1, n1, rfl⟩ := kV0 hk1
      obtain ⟨k2, n2, rfl⟩ := kV0 hk2
      exact one ha rfl rfl (.inl ⟨k, hu, k1, n1, by simp [wrapV, ha]⟩)
    · rename_i hu
      rw [hu] at tu tw
      have ha : aggP P t = false := by simp [aggP, hu]
      obtain ⟨u1, rfl, hk1⟩ := g1 _ _ tu
      obtain ⟨u2, rfl, hk2⟩ := g1 _ _ tw
      obtain ⟨b1, rfl⟩ := kV1 hk1
      obtain ⟨b2, rfl⟩ := kV1 hk2
      exact one ha rfl rfl (.inr (.inl ⟨hu, b1, by simp [wrapV, ha]⟩))
    · rename_i hu
      rw [hu] at tu tw
      have ha : aggP P t = false := by simp [aggP, hu]
      obtain ⟨u1, rfl, hk1⟩ := g1 _ _ tu
      obtain ⟨u2, rfl, hk2⟩ := g1 _ _ tw
      obtain ⟨b1, rfl⟩ := kV2 hk1
      obtain ⟨b2, rfl⟩ := kV2 hk2
      exact one ha rfl rfl (.inr (.inr ⟨hu, b1, by simp [wrapV, ha]⟩))
    · rename_i fs hu
      simp only [Bool.and_eq_true, Bool.not_eq_true'] at h
      have ha : aggP P t = true := by simp [aggP, hu]
      have hf : P.fieldsOf t = fs := by simp [Program.fieldsOf, hu]
      simp only [wrapV, ha, if_true]
      rw [run_equalIn_struct w D t _ _ (by rw [hf]; exact hu) h.1, hf]
      have key : ∀ (l : List Field) (off : Nat), flatFs P (flatB P d) l off (P.cellsOf t) = true → (us.drop off).map kV = shapeFs (shapeL P d) l → (ws.drop off).map kV = shapeFs (shapeL P d) l → off ≤ P.cellsOf t ∧
          ∀ r, cellsEq (xs.drop off) (ys.drop off) = some r → (Op.eqFields D us.toArray ws.toArray l).run P w = .ok r w := by
        intro l
        induction l with
        | nil =>
          intro off hfl _ _
          have hfl := Nat.eq_of_beq_eq_true hfl
          refine ⟨by omega, fun r hr => ?_⟩
          have e1 : xs.drop off = [] := List.drop_eq_nil_of_le (by rw [hx.length, hl]; omega)
          have e2 : ys.drop off = [] := List.drop_eq_nil_of_le (by rw [hy.length, hlw]; omega)
          rw [e1, e2] at hr
          simp only [cellsEq, Option.some.injEq] at hr
          subst hr; rfl
        | cons f l ih =>
          intro off hfl hu1 hw1
          simp only [flatFs, Bool.and_eq_true] at hfl
          obtain ⟨⟨⟨⟨hnm, hoff⟩, hinf⟩, hfb⟩, hrest⟩ := hfl
          have hoff := Nat.eq_of_beq_eq_true hoff
          have hsl := shape_length d f.type hfb
          have split2 : ∀ vs : List Value, (vs.drop off).map kV = shapeFs (shapeL P d) (f :: l) → ((vs.drop off).take (P.cellsOf f.type)).map kV = shapeL P d f.type ∧ (vs.drop (off + P.cellsOf f.type)).map kV = shapeFs (shapeL P d) l := fun vs hv => by
            simp only [shapeFs] at hv
            constructor
            · rw [List.map_take, hv, ← hsl, List.take_left]
            · rw [← List.drop_drop, List.map_drop, hv, ← hsl, List.drop_left]
          obtain ⟨t1, hu2⟩ := split2 us hu1
          obtain ⟨t2, hw2⟩ := split2 ws hw1
          obtain ⟨hle, ihr⟩ := ih _ hrest hu2 hw2
          refine ⟨by omega, fun r hr => ?_⟩
          have hfu : ∃ dd, P.underlying f.type = some dd := by
            cases d with
            | zero => simp [flatB] at hfb
            | succ d =>
              unfold flatB at hfb
              cases hq : P.underlying f.type with
              | none => rw [hq] at hfb; cases hfb
              | some dd => exact ⟨dd, rfl⟩
          obtain ⟨dd, hdd⟩ := hfu
          have hone : aggP P f.type = false → P.cellsOf f.type = 1 := by
            intro ha
            cases d with
            | zero => simp [flatB] at hfb
            | succ d =>
              unfold flatB at hfb
              split at hfb
              · exact Nat.eq_of_beq_eq_true hfb
              · exact Nat.eq_of_beq_eq_true hfb
              · exact Nat.eq_of_beq_eq_true hfb
              · rename_i hq; simp [aggP, hq] at ha
              · cases hfb
          have ex : xs.drop off = (xs.drop off).take (P.cellsOf f.type) ++ xs.drop (off + P.cellsOf f.type) := by
            rw [← List.drop_drop, List.take_append_drop]
          have ey : ys.drop off = (ys.drop off).take (P.cellsOf f.type) ++ ys.drop (off + P.cellsOf f.type) := by
            rw [← List.drop_drop, List.take_append_drop]
          rw [ex, ey] at hr
          have hlx := hx.length
          have hly := hy.length
          obtain ⟨r1, r2, h1, h2, rfl⟩ := cellsEq_append (by simp only [List.length_take, List.length_drop]; omega) hr
          have hrun := flat_eq d f.type hfb D (by omega) E _ _ r1 ((us.drop off).take (P.cellsOf f.type)) ((ws.drop off).take (P.cellsOf f.type)) w h1 ((hx.drop off).take _) ((hy.drop off).take _) t1 t2
          have hp1 := run_part_wrap hdd hinf us off (fun ha => ⟨by have := hone ha; omega, hone ha⟩) w
          have hp2 := run_part_wrap hdd hinf ws off (fun ha => ⟨by have := hone ha; omega, hone ha⟩) w
          have hnm' : f.name ≠ "_" := by simpa using hnm
          simp only [Op.eqFields, hoff, ne_eq, hnm', not_false_eq_true, if_true, Sem.run_bind, hp1, hp2, Result.andThen_ok, hrun]
          cases r1 with
          | false => simp
          | true => simpa using ihr r2 h2
      rw [hu] at tu tw
      exact (key fs.toList 0 h.2 (by simpa using tu) (by simpa using tw)).2 r (by simpa using hc)
    · cases h

theorem flat_ok {P : Program} {t : TypeId} {ks : List Nat} (h : (flatB P 9 t && !P.eqGuardType P.depth t && aggP P t) = true) (hk : shapeL P 9 t = ks) : FlatOK P t ks where
  guard := by simp only [Bool.and_eq_true, Bool.not_eq_true'] at h; exact h.1.2
  eq E xs ys r us ws w hc hx hy h1 h2 := by
    simp only [Bool.and_eq_true] at h
    have := flat_eq 9 t h.1.1 10000 (by decide) E xs ys r us ws w hc hx hy (by rw [hk]; exact shapeB_kV h1 hx) (by rw [hk]; exact shapeB_kV h2 hy)
    rw [equal_step]
    simpa [wrapV, h.2] using this

end Go.Abs
