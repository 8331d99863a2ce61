/- Operations that read alone. No condition: lemmas. -/
import Derived.Test.YtflibnlbkffilaaAbs20
set_option linter.unusedSimpArgs false
set_option linter.unusedVariables false
set_option linter.deprecated false
namespace Go.Abs
open Go.RowKit
variable {S : Seat}

abbrev readC (k : AV → List Nat → Prop) : OpK := fun v ups rds => match ups with | [] => k v rds | _ :: _ => False

theorem fillA_drop {size : Nat} : ∀ (ps : List (Nat × AV)) (cs : List AV) (k : List AV → Prop), fillA size ps cs k → ∃ cs, k cs := by
  intro ps
  induction ps with
  | nil => intro cs k h; exact ⟨cs, by simpa [fillA] using h⟩
  | cons p r ih =>
    intro cs k h
    obtain ⟨i, v⟩ := p
    simp only [fillA] at h
    rw [forceK_eq] at h
    split at h
    · rw [spliceK_eq] at h; exact ih _ _ h
    · exact h.elim

theorem read_nid {ρ : Operand → AV} {h : Heap} {nid : Nat} {op : Op} {k : AV → List Nat → Prop} (hk : opK S.flat S.Γ ρ h nid op (readC k)) (nid' : Nat) : opK S.flat S.Γ ρ h nid' op (readC k) := by
  cases op with
  | alloc t => simp only [opK] at hk; split at hk <;> exact hk.elim
  | box t x => simp only [opK, forceK_eq] at hk; split at hk <;> exact hk.elim
  | buildSlice t len parts =>
    simp only [opK] at hk
    repeat' (split at hk)
    all_goals first
      | exact hk.elim
      | (rw [repK_eq] at hk; obtain ⟨_, h⟩ := fillA_drop _ _ _ hk; exact h.elim)
  | makeSlice t l c =>
    simp only [opK] at hk
    repeat' (split at hk)
    all_goals first
      | exact hk.elim
      | exact hk.go.elim
  | _ => simp only [opK] at hk ⊢ <;> exact hk

/-- what readK promises: a value, at whatever later heap reads as this one did -/
def ReadOK (S : Seat) (o : Oper) (t : List AV) (v : AV) (P : Heap → Prop) : Prop :=
  ∀ (h' : Heap) (E : Env) (w : World) (a : Act), P h' → R S E h' w → VRL E t a.tmps.toList →
    ∃ u, ((execOp a.eval o).run S.P w = .ok (.value u) w ∨ ((execOp a.eval o).run S.P w = .ok .skip w ∧ u = undef)) ∧ VR E v u

theorem ev_VRL {E : Env} {h : Heap} {w : World} (hr : R S E h w) {t : List AV} {a : Act} (ha : VRL E t a.tmps.toList) (x : Operand) : VR E (ev S.G t x) (a.eval x) := by
  cases x with
  | tmp i =>
    simp only [ev, Act.eval, getT_eq]
    cases hi : t[i]? with
    | none => simp only [Option.getD_none, VR]
    | some c =>
      obtain ⟨u, hu, hv⟩ := ha.get i c hi
      have : a.tmps.getD i undef = u := by
        have : a.tmps[i]? = some u := by simpa using hu
        simp [Array.getD_eq_getD_getElem?, this]
      rw [this]; exact hv
  | const v => exact ofV_VR E v
  | global g =>
    simp only [ev, Act.eval]
    cases hg : S.G g with
    | none => simp only [VR]
    | some cs => simp only [VR]; exact ⟨g, 0, rfl, hr.r0.glob g cs hg⟩
  | func f => simp only [ev, Act.eval, VR]; exact ⟨[], [], rfl, VRL.nil, VRL.nil⟩

theorem foldK_all {f : AV → AV → Option AV} {g : Value → Value → Sem Value} (hf : ∀ {E : Env} {P : Program} x y z u v, f x y = some z → VR E x u → VR E y v → ∃ r, (∀ w, (g u v).run P w = .ok r w) ∧ VR E z r) {k : AV → Prop} :
    ∀ {r : List AV} {x : AV}, foldK f x r k → ∃ v, k v ∧ ∀ (E : Env) (P : Program) (u : Value) (us : List Value), VR E x u → VRL E r us → ∃ v', (∀ w, (us.foldlM g u).run P w = .ok v' w) ∧ VR E v v'
  | [], x, hk => ⟨x, hk, fun E P u us hu hus => by simp only [VRL] at hus; subst hus; exact ⟨u, fun w => rfl, hu⟩⟩
  | y :: r, x, hk => by
    obtain ⟨z, hz, hk⟩ := hk.elim
    obtain ⟨v, hkv, hv⟩ := foldK_all hf hk
    refine ⟨v, hkv, fun E P u us hu hus => ?_⟩
    obtain ⟨u1, us', rfl, h1, h2⟩ := hus.uncons
    obtain ⟨r1, hr1, hz'⟩ := hf _ _ _ _ _ hz hu h1
    obtain ⟨v', hrun, hv'⟩ := hv E P r1 us' hz' h2
    refine ⟨v', fun w => ?_, hv'⟩
    rw [List.foldlM_cons, Sem.run_bind, hr1 w]
    exact hrun w

theorem readK_sound (hS : SeatOK S) {o : Oper} {t : List AV} {h : Heap} {k : AV → List Nat → Prop} (hk : readK S o t h k) :
    ∃ v rds, k v rds ∧ ReadOK S o t v (fun h' => ∀ i ∈ rds, h'[i]? = h[i]?) ∧ (∀ c, o.op ≠ .defer c) := by
  unfold readK at hk
  split at hk
  · rename_i c hop
    have hnd : ∀ c, o.op ≠ .defer c := by rw [hop]; intro c h; cases h
    split at hk
    · -- len
      rename_i hcal
      split at hk
      · rename_i x rx ty rty hax haty
        split at hk
        · rename_i ti hti
          obtain ⟨n, hn, hk⟩ := hk.elim
          obtain ⟨l, hargs⟩ : ∃ l, c.args = (x :: l).toArray := ⟨rx, by rw [← hax]⟩
          obtain ⟨l2, htys⟩ : ∃ l, c.argTypes = (ty :: l).toArray := ⟨rty, by rw [← haty]⟩
          refine ⟨_, _, hk, fun h' E w a _ hr ha => ?_, hnd⟩
          have hvx := ev_VRL hr ha x
          refine ⟨.int .i64 n, .inl ?_, by simp only [VR]⟩
          simp only [execOp, hop, resolve, hcal, Sem.run_bind, Sem.run_pure, Result.andThen, invoke, builtin]
          rw [len_run hS hti hn hvx c.args c.argTypes (by rw [hargs]; simp) (by rw [htys]; simp)]
        · exact hk.elim
      · exact hk.elim
    · -- min
      rename_i hcal
      rw [mapF_eq] at hk
      split at hk
      · rename_i x r hl
        obtain ⟨v, hkv, hv⟩ := foldK_all min2_run hk
        refine ⟨v, [], hkv, fun h' E w a _ hr ha => ?_, hnd⟩
        have hmap := mapF_run (ev_VRL hr ha) c.args.toList
        rw [hl] at hmap
        obtain ⟨u, us, e, hu, hus⟩ := hmap.uncons
        obtain ⟨v', hrun, hv'⟩ := hv E S.P u us hu hus
        refine ⟨v', .inl ?_, hv'⟩
        simp only [execOp, hop, resolve, hcal, Sem.run_bind, Sem.run_pure, Result.andThen, invoke, builtin, Builtin.min_, Array.toList_map, e]
        rw [hrun w]
      · exact hk.elim
    · -- max
      rename_i hcal
      rw [mapF_eq] at hk
      split at hk
      · rename_i x r hl
        obtain ⟨v, hkv, hv⟩ := foldK_all max2_run hk
        refine ⟨v, [], hkv, fun h' E w a _ hr ha => ?_, hnd⟩
        have hmap := mapF_run (ev_VRL hr ha) c.args.toList
        rw [hl] at hmap
        obtain ⟨u, us, e, hu, hus⟩ := hmap.uncons
        obtain ⟨v', hrun, hv'⟩ := hv E S.P u us hu hus
        refine ⟨v', .inl ?_, hv'⟩
        simp only [execOp, hop, resolve, hcal, Sem.run_bind, Sem.run_pure, Result.andThen, invoke, builtin, Builtin.max_, Array.toList_map, e]
        rw [hrun w]
      · exact hk.elim
    · exact hk.elim
  · rename_i op h1
    have hnd : ∀ c, o.op ≠ .defer c := by intro c h; rw [h] at hk; simp only [opK] at hk
    obtain ⟨v, ups, rds, hkv, _, h3⟩ := opK_sound hS hk
    match ups, hkv with
    | [], hkv =>
      refine ⟨v, rds, hkv, fun h' E w a hp hr ha => ?_, hnd⟩
      obtain ⟨E', w', u, h4, h5, _, _, _, h6⟩ := h3 h' hp E w a.eval hr (fun h => (h rfl).elim) (fun h => (h rfl).elim) (fun h => (h rfl).elim) (fun h => (h rfl).elim) (ev_VRL hr ha) o rfl
      obtain ⟨rfl, rfl⟩ := h6 rfl
      exact ⟨u, h4, h5⟩

end Go.Abs
