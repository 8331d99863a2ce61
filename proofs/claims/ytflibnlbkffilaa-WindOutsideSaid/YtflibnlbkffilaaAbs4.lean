/- That the abstract evaluator's operations are the machine's: arithmetic, comparisons, conversions. No condition: lemmas. -/
import Derived.Test.YtflibnlbkffilaaAbs3
import Derived.Laws.Strings
import Derived.Laws.StructEq
set_option linter.unusedSimpArgs false
set_option linter.unusedVariables false
set_option linter.deprecated false
namespace Go.Abs
open Go.RowKit
variable {S : Seat}

theorem intOp_run {P : Program} {op : BinOp} {k : IntKind} {a b : Int} {v : AV} (h : intOp op k a b = some v) (hs : op ≠ .shl) (hr : op ≠ .shr) (hq : op ≠ .quo) (hm : op ≠ .rem) (ty : TypeId) (w : World) (E : Env) :
    ∃ u, (binOp op ty (.int k a) (.int k b)).run P w = .ok u w ∧ VR E v u := by
  cases op <;> simp_all [intOp, bitOp] <;> (subst h; simp [binOp, Op.intArith, Op.intCmp, Op.intBits, VR])

theorem guard_none {P : Program} {op : BinOp} (h : op ≠ .eql) (h2 : op ≠ .neq) (ty : TypeId) (xo yo : Operand) (a b : Value) (w : World) : (eqGuard op ty xo yo a b).run P w = .ok () w := by
  unfold eqGuard
  cases op <;> simp_all


theorem equal_step (t : TypeId) (x y : Value) : Op.equal t x y = Op.equalIn (9999 + 1) t x y := rfl

theorem guard_int {P : Program} {op : BinOp} (ty : TypeId) (xo yo : Operand) (k k' : IntKind) (a b : Int) (w : World) : (eqGuard op ty xo yo (.int k a) (.int k' b)).run P w = .ok () w := by
  unfold eqGuard
  cases op <;> simp
theorem guard_str {P : Program} {op : BinOp} (ty : TypeId) (xo yo : Operand) (a b : ByteArray) (w : World) : (eqGuard op ty xo yo (.string a) (.string b)).run P w = .ok () w := by
  unfold eqGuard
  cases op <;> simp

theorem eqK_run (hS : SeatOK S) {ty : TypeId} {x y : AV} {r : Bool} (h : eqK S.flat S.Γ ty x y = some r) (op : BinOp) {E : Env} {u1 u2 : Value} (h1 : VR E x u1) (h2 : VR E y u2) (xo yo : Operand) (w : World) :
    ((eqGuard op ty xo yo u1 u2).run S.P w = .ok () w ∧ (Op.equal ty u1 u2).run S.P w = .ok r w) ∧ binOp .eql ty u1 u2 = (Value.bool <$> Op.equal ty u1 u2) ∧ binOp .neq ty u1 u2 = ((fun b => Value.bool !b) <$> Op.equal ty u1 u2) := by
  unfold eqK at h
  split at h
  · cases h
  · rename_i ti hti
    have hT := hS.ty ty ti hti
    split at h
    · -- bools
      rename_i a b hk
      cases h
      simp only [VR] at h1 h2
      subst h1; subst h2
      refine ⟨⟨by unfold eqGuard; cases op <;> simp, ?_⟩, rfl, rfl⟩
      rw [equal_step, Op.equalIn]
      simp [run_underlying (hT.bool hk)]
    · rename_i xs ys hk
      split at h
      · rename_i ks hf
        have hF := hS.flat ty ks hf
        split at h
        · rename_i hs1 hs2
          simp only [VR] at h1 h2
          obtain ⟨us, rfl, hu⟩ := h1
          obtain ⟨ws, rfl, hw⟩ := h2
          refine ⟨⟨?_, hF.eq E _ _ _ _ _ w h hu hw hs1 hs2⟩, rfl, rfl⟩
          unfold eqGuard
          cases op <;> simp [hF.guard]
        · cases h
      · cases h
    · unfold nilEq at h
      split at h <;> (try cases h)
      all_goals simp only [VR] at h1 h2
      · obtain ⟨e, he⟩ := hT.ptr (by assumption)
        subst h1; subst h2
        refine ⟨⟨by unfold eqGuard; cases op <;> simp, ?_⟩, rfl, rfl⟩
        rw [equal_step, Op.equalIn]; simp [run_underlying he]
      · obtain ⟨e, he⟩ := hT.ptr (by assumption)
        subst h1; obtain ⟨b, _, rfl⟩ := h2
        refine ⟨⟨by unfold eqGuard; cases op <;> simp, ?_⟩, rfl, rfl⟩
        rw [equal_step, Op.equalIn]; simp [run_underlying he]
      · obtain ⟨e, he⟩ := hT.ptr (by assumption)
        subst h2; obtain ⟨b, _, rfl⟩ := h1
        refine ⟨⟨by unfold eqGuard; cases op <;> simp, ?_⟩, rfl, rfl⟩
        rw [equal_step, Op.equalIn]; simp [run_underlying he]
      · obtain ⟨e, he⟩ := hT.ptr (by assumption)
        subst h1; obtain ⟨b, _, rfl, _⟩ := h2
        refine ⟨⟨by unfold eqGuard; cases op <;> simp, ?_⟩, rfl, rfl⟩
        rw [equal_step, Op.equalIn]; simp [run_underlying he]
      · obtain ⟨e, he⟩ := hT.ptr (by assumption)
        subst h2; obtain ⟨b, _, rfl, _⟩ := h1
        refine ⟨⟨by unfold eqGuard; cases op <;> simp, ?_⟩, rfl, rfl⟩
        rw [equal_step, Op.equalIn]; simp [run_underlying he]
      · obtain ⟨a, b, c, he⟩ := hT.func (by assumption)
        subst h1; subst h2
        refine ⟨⟨by unfold eqGuard; cases op <;> simp, ?_⟩, rfl, rfl⟩
        rw [equal_step, Op.equalIn]; simp [run_underlying he]
      · obtain ⟨a, b, c, he⟩ := hT.func (by assumption)
        subst h1; obtain ⟨_, _, rfl, _⟩ := h2
        refine ⟨⟨by unfold eqGuard; cases op <;> simp, ?_⟩, rfl, rfl⟩
        rw [equal_step, Op.equalIn]; simp [run_underlying he]
      · obtain ⟨a, b, c, he⟩ := hT.func (by assumption)
        subst h2; obtain ⟨_, _, rfl, _⟩ := h1
        refine ⟨⟨by unfold eqGuard; cases op <;> simp, ?_⟩, rfl, rfl⟩
        rw [equal_step, Op.equalIn]; simp [run_underlying he]
      · obtain ⟨a, b, c, he⟩ := hT.func (by assumption)
        subst h1; obtain ⟨_, _, _, _, rfl, _⟩ := h2
        refine ⟨⟨by unfold eqGuard; cases op <;> simp, ?_⟩, rfl, rfl⟩
        rw [equal_step, Op.equalIn]; simp [run_underlying he]
      · obtain ⟨a, b, c, he⟩ := hT.func (by assumption)
        subst h2; obtain ⟨_, _, _, _, rfl, _⟩ := h1
        refine ⟨⟨by unfold eqGuard; cases op <;> simp, ?_⟩, rfl, rfl⟩
        rw [equal_step, Op.equalIn]; simp [run_underlying he]
      · obtain ⟨a, he⟩ := hT.iface (by assumption)
        subst h1; obtain ⟨_, rfl, _⟩ := h2
        refine ⟨⟨by unfold eqGuard; cases op <;> simp, ?_⟩, rfl, rfl⟩
        rw [equal_step, Op.equalIn]; simp [run_underlying he]
      · obtain ⟨a, he⟩ := hT.iface (by assumption)
        subst h2; obtain ⟨_, rfl, _⟩ := h1
        refine ⟨⟨by unfold eqGuard; cases op <;> simp, ?_⟩, rfl, rfl⟩
        rw [equal_step, Op.equalIn]; simp [run_underlying he]

theorem binK_sound (hS : SeatOK S) {op : BinOp} {ty : TypeId} {x y : AV} {k : AV → Prop} (h : binK S.flat S.Γ op ty x y k) :
    ∃ v, k v ∧ ∀ (E : Env) (w : World) (u1 u2 : Value) (xo yo : Operand), VR E x u1 → VR E y u2 → ∃ u, (eqGuard op ty xo yo u1 u2).run S.P w = .ok () w ∧ (binOp op ty u1 u2).run S.P w = .ok u w ∧ VR E v u := by
  unfold binK at h
  split at h
  · rename_i kx a ky b
    split at h
    · refine ⟨_, h.go.out, fun E w u1 u2 xo yo h1 h2 => ?_⟩
      simp only [VR] at h1 h2; subst h1; subst h2
      have hb := h.pf
      exact ⟨_, guard_int _ _ _ _ _ _ _ _, by simp [binOp, Op.shift, show ¬ b < 0 by omega]; rfl, by simp only [VR]⟩
    · refine ⟨_, h.go.out, fun E w u1 u2 xo yo h1 h2 => ?_⟩
      simp only [VR] at h1 h2; subst h1; subst h2
      have hb := h.pf
      exact ⟨_, guard_int _ _ _ _ _ _ _ _, by simp [binOp, Op.shift, show ¬ b < 0 by omega]; rfl, by simp only [VR]⟩
    · split at h
      · rename_i he
        have e := kEq_eq he
        refine ⟨_, h.go.out, fun E w u1 u2 xo yo h1 h2 => ?_⟩
        simp only [VR] at h1 h2; subst h1; subst h2; subst e
        have hb := h.pf
        exact ⟨_, guard_int _ _ _ _ _ _ _ _, by simp [binOp, Op.intDiv, hb]; rfl, by simp only [VR]⟩
      · exact h.elim
    · split at h
      · rename_i he
        have e := kEq_eq he
        refine ⟨_, h.go.out, fun E w u1 u2 xo yo h1 h2 => ?_⟩
        simp only [VR] at h1 h2; subst h1; subst h2; subst e
        have hb := h.pf
        exact ⟨_, guard_int _ _ _ _ _ _ _ _, by simp [binOp, Op.intDiv, hb]; rfl, by simp only [VR]⟩
      · exact h.elim
    · split at h
      · rename_i he
        have e := kEq_eq he
        obtain ⟨v, hv, hk⟩ := (arithK_ld h).elim
        refine ⟨v, hk, fun E w u1 u2 xo yo h1 h2 => ?_⟩
        simp only [VR] at h1 h2; subst h1; subst h2; subst e
        obtain ⟨u, hu, hr⟩ := intOp_run hv (by assumption) (by assumption) (by assumption) (by assumption) ty w E
        exact ⟨u, guard_int _ _ _ _ _ _ _ _, hu, hr⟩
      · exact h.elim
  · rename_i a b
    split at h
    · refine ⟨_, h.go, fun E w u1 u2 xo yo h1 h2 => ?_⟩
      simp only [VR] at h1 h2; subst h1; subst h2
      have hb := h.pf
      refine ⟨.string (⟨a.toArray⟩ ++ ⟨b.toArray⟩), guard_str _ _ _ _ _ _, ?_, ?_⟩
      · have hlt : ¬ ((((⟨a.toArray⟩ : ByteArray).size + (⟨b.toArray⟩ : ByteArray).size : Nat) : Int) > IntKind.i64.max) := by
          have e1 : (⟨a.toArray⟩ : ByteArray).size = a.length := by simp [ByteArray.size]
          have e2 : (⟨b.toArray⟩ : ByteArray).size = b.length := by simp [ByteArray.size]
          rw [e1, e2, show IntKind.i64.max = 9223372036854775807 from by decide]
          omega
        simp only [binOp, Op.stringOp]
        rw [if_neg hlt]; rfl
      · simp only [VR]
        congr 1
    · refine ⟨_, h, fun E w u1 u2 xo yo h1 h2 => ?_⟩
      simp only [VR] at h1 h2; subst h1; subst h2
      exact ⟨_, guard_str _ _ _ _ _ _, by simp [binOp, Op.stringOp]; rfl, by simp only [VR]⟩
    · refine ⟨_, h, fun E w u1 u2 xo yo h1 h2 => ?_⟩
      simp only [VR] at h1 h2; subst h1; subst h2
      exact ⟨_, guard_str _ _ _ _ _ _, by simp [binOp, Op.stringOp]; rfl, by simp only [VR]⟩
    · exact h.elim
  · rename_i hni hns
    split at h
    · obtain ⟨r, hr, hk⟩ := h.elim
      refine ⟨_, hk, fun E w u1 u2 xo yo h1 h2 => ?_⟩
      obtain ⟨⟨hg, he⟩, hb, _⟩ := eqK_run hS hr .eql h1 h2 xo yo w
      exact ⟨.bool r, hg, by rw [hb]; simp [he], by simp only [VR]⟩
    · obtain ⟨r, hr, hk⟩ := h.elim
      refine ⟨_, hk, fun E w u1 u2 xo yo h1 h2 => ?_⟩
      obtain ⟨⟨hg, he⟩, _, hb⟩ := eqK_run hS hr .neq h1 h2 xo yo w
      exact ⟨.bool (!r), hg, by rw [hb]; simp [he], by simp only [VR]⟩
    · exact h.elim

end Go.Abs
