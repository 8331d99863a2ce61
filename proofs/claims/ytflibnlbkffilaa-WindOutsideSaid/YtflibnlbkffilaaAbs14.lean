/- The abstract evaluator is the machine's: single operations with calls, regions, code. No condition: lemmas. -/
import Derived.Test.YtflibnlbkffilaaAbs13
set_option linter.unusedSimpArgs false
set_option linter.unusedVariables false
set_option linter.deprecated false
namespace Go.Abs
open Go.RowKit
variable {S : Seat}

theorem fen_fn (E : Env) (f : FuncId) : (fen E).fn f := by
  unfold fen; split <;> trivial
theorem fen_depth (E : Env) : (fen E).depth = none := by
  unfold fen; split <;> rfl
theorem fen_round (E : Env) : (fen E).round = E.rnd := by
  unfold fen; split <;> simp_all [Fence.wide]
theorem callsIn_fen {E : Env} {n : Nat} {P : Program} {f : FuncId} {args : Array Value} {w : World} {R : Ending → World → Prop} (h : Calls P f args w R) : CallsIn (fen E) n P f args w R := by
  unfold fen
  split
  · exact callsIn_wide.2 h
  · exact CallsIn.inRound _ (callsIn_wide.2 h)
theorem roundIn_fen {E : Env} {n : Nat} {P : Program} {l : Nat} {f : FuncId} {tmps : Array Value} {assign body : Code} {w : World} {R : Ending → World → Prop} (h : RoundIn Fence.wide n P l f tmps assign body w R) : RoundIn (fen E) n P l f tmps assign body w R := by
  unfold fen
  split
  · exact h
  · exact h
theorem fen_ext {E E' : Env} (h : Ext E E') : fen E' = fen E := by unfold fen; rw [h.rnd]

/-- the environment in which a callee starts -/
def Env.enter (E : Env) (w : World) : Env := { E with keep := fun b => E.keep b ∨ E.rnd = some b ∨ b ∈ E.marks, base := w, rnd := none, marks := [] }
/-- back in the caller -/
def Env.back (E E' : Env) : Env := { E' with keep := E.keep, base := E.base, rnd := E.rnd, marks := E.marks }

theorem VExt.of_eq {E E' : Env} (h1 : E'.blk = E.blk) (h2 : E'.tok = E.tok) (h3 : E'.cbv = E.cbv) (h4 : E'.imm = E.imm) : VExt E E' :=
  ⟨fun i b h => by rw [h1]; exact h, fun i F v h => ⟨F, v, by rw [h2]; exact h, .inr ⟨rfl, rfl⟩⟩, fun i v h => by rw [h3]; exact h, fun b o u h => by rw [h4]; exact h⟩

theorem CR.same {P : Program} {E E' : Env} {w : World} {i : Nat} {c : Chunk} (h1 : E'.blk = E.blk) (h2 : E'.tok = E.tok) (h3 : E'.cbv = E.cbv) (h4 : E'.imm = E.imm) (h5 : E'.cbJ = E.cbJ) (h6 : E'.fp = E.fp) (hok : immOK E.imm w) (h : CR P E w i c) : CR P E' w i c :=
  h.move (VExt.of_eq h1 h2 h3 h4) (by rw [h1]) (by rw [h2]) (by rw [h3]) (by rw [h5]) (by rw [h6]) (fun _ _ => rfl) (fun _ _ _ => by rw [h4]) (by rw [h4]; exact hok) (Nat.le_refl _) (Same3.refl w)

theorem ownsC_same {E E' : Env} (h1 : E'.blk = E.blk) (h2 : E'.tok = E.tok) (h6 : E'.fp = E.fp) (i : Nat) (c : Chunk) (b : Nat) : ownsC E' i c b ↔ ownsC E i c b :=
  ownsC_congr (by rw [h1]) (by rw [h2]) (by rw [h6]) c b

theorem R.enter {E : Env} {h : Heap} {w : World} (hr : R S E h w) : R S (E.enter w) h w := by
  have oc : ∀ i c b, ownsC (E.enter w) i c b ↔ ownsC E i c b := fun i c b => ownsC_same rfl rfl rfl i c b
  refine ⟨⟨fun i c hi => CR.same (E := E) (E' := E.enter w) rfl rfl rfl rfl rfl rfl hr.r0.imm (hr.r0.ch i c hi), fun g cs hg => VRI.mono (VExt.of_eq (E := E) (E' := E.enter w) rfl rfl rfl rfl) _ _ _ (hr.r0.glob g cs hg), hr.r0.non, fun i c b hi ho => hr.r0.lt i c b hi ((oc i c b).1 ho), fun i j c d b hi hj h1 h2 => hr.r0.disj i j c d b hi hj ((oc i c b).1 h1) ((oc j d b).1 h2), hr.r0.imm, fun l hl => (by cases hl), fun D hD => (by cases hD)⟩, ⟨fun _ _ => rfl, fun i c b hi ho hk => ?_, Nat.le_refl _, fun b hk => ?_, Same3.refl w⟩⟩
  · have ho := (oc i c b).1 ho
    rcases hk with hk | hk | hk
    · exact hr.kp.keep i c b hi ho hk
    · exact (hr.r0.rnd b hk).2 i c hi ho
    · exact (hr.r0.mks b hk).2.2 i c hi ho
  · rcases hk with hk | hk | hk
    · exact Nat.lt_of_lt_of_le (hr.kp.klt b hk) hr.kp.size
    · obtain ⟨⟨r, hl⟩, _⟩ := hr.r0.rnd b hk
      exact (Array.getElem?_eq_some_iff.1 hl).1
    · exact (Array.getElem?_eq_some_iff.1 (hr.r0.mks b hk).1).1

theorem R.back {E : Env} {h : Heap} {w : World} (hr : R S E h w) {E' : Env} {h' : Heap} {w' : World} (hx : Ext (E.enter w) E') (hr' : R S E' h' w') : R S (E.back E') h' w' ∧ Ext E (E.back E') := by
  have oc : ∀ i c b, ownsC (E.back E') i c b ↔ ownsC E' i c b := fun i c b => ownsC_same rfl rfl rfl i c b
  have hk : ∀ b, (E.keep b ∨ E.rnd = some b ∨ b ∈ E.marks) → E'.keep b := fun b hb => by rw [hx.keep]; exact hb
  have hs : ∀ b, (E.keep b ∨ E.rnd = some b ∨ b ∈ E.marks) → w'.heap[b]? = w.heap[b]? := fun b hb => by
    have := hr'.kp.same b (hk b hb); rw [hx.base] at this; exact this
  have hsz : w.heap.size ≤ w'.heap.size := by have := hr'.kp.size; rw [hx.base] at this; exact this
  have hs3 : Same3 w w' := by have := hr'.kp.s3; rw [hx.base] at this; exact this
  refine ⟨⟨⟨fun i c hi => CR.same (E := E') (E' := E.back E') rfl rfl rfl rfl rfl rfl hr'.r0.imm (hr'.r0.ch i c hi), fun g cs hg => VRI.mono (VExt.of_eq (E := E') (E' := E.back E') rfl rfl rfl rfl) _ _ _ (hr'.r0.glob g cs hg), hr'.r0.non, fun i c b hi ho => hr'.r0.lt i c b hi ((oc i c b).1 ho), fun i j c d b hi hj h1 h2 => hr'.r0.disj i j c d b hi hj ((oc i c b).1 h1) ((oc j d b).1 h2), hr'.r0.imm, fun l hl => ?_, fun D hD => ?_⟩, ⟨fun b hb => ?_, fun i c b hi ho hb => hr'.kp.keep i c b hi ((oc i c b).1 ho) (hk b (.inl hb)), Nat.le_trans hr.kp.size hsz, hr.kp.klt, hr.kp.s3.trans hs3⟩⟩, ⟨hx.blk, hx.tok, hx.cbv, hx.imm, fun b o hb => hx.new b o (.inl hb), rfl, rfl, rfl⟩⟩
  · refine ⟨by rw [hs l (.inr (.inl hl))]; exact (hr.r0.rnd l hl).1, fun i c hi ho => hr'.kp.keep i c l hi ((oc i c l).1 ho) (hk l (.inr (.inl hl)))⟩
  · refine ⟨by rw [hs D (.inr (.inr hD))]; exact (hr.r0.mks D hD).1, (hr.r0.mks D hD).2.1, fun i c hi ho => hr'.kp.keep i c D hi ((oc i c D).1 ho) (hk D (.inr (.inr hD)))⟩
  · rw [hs b (.inl hb)]; exact hr.kp.same b hb

/-- A call, from whatever frame. -/
theorem CallH.run {E : Env} {h : Heap} {w : World} {f : Nat} {args : List AV} {k : AEnd → Heap → Prop} {args' : List Value} (hc : CallH S f args h k) (hr : R S E h w) (ha : VRL E args args') :
    CallOut S.P f args'.toArray w fun e w' => ∃ E' h' r, Ext E E' ∧ E'.marks = E.marks ∧ R S E' h' w' ∧ EndR E' r e ∧ k r h' := by
  refine (hc.out (E.enter w) w args' rfl rfl hr.enter (VRL.mono (VExt.of_eq (E := E) (E' := E.enter w) rfl rfl rfl rfl) _ _ ha)).mono ?_
  rintro e w' ⟨E', h', r, h1, h2, h3, h4, h5⟩
  obtain ⟨a, b⟩ := hr.back h1 h3
  refine ⟨E.back E', h', r, b, rfl, a, ?_, h5⟩
  cases r with
  | ret v => obtain ⟨u, e1, e2⟩ := h4; exact ⟨u, e1, VR.mono (VExt.of_eq (E := E') (E' := E.back E') rfl rfl rfl rfl) _ _ e2⟩
  | pan v => obtain ⟨u, e1, e2⟩ := h4; exact ⟨u, e1, VR.mono (VExt.of_eq (E := E') (E' := E.back E') rfl rfl rfl rfl) _ _ e2⟩

theorem ev_VR {E : Env} {h : Heap} {w : World} (hr : R S E h w) {t : List AV} {a : Act} (ha : ActR E t a) (x : Operand) : VR E (ev S.G t x) (a.eval x) := by
  cases x with
  | tmp i =>
    simp only [ev, Act.eval, getT_eq]
    cases hi : t[i]? with
    | none => simp only [Option.getD_none, VR]
    | some c =>
      obtain ⟨u, hu, hv⟩ := ha.1.get i c hi
      have : a.tmps.getD i undef = u := by
        have : a.tmps[i]? = some u := by simpa using hu
        simp [Array.getD_eq_getD_getElem?, this]
      rw [this]; exact hv
  | const v => exact ofV_VR E v
  | global g =>
    simp only [ev, Act.eval]
    cases hg : S.G g with
    | none => simp only [VR]
    | some cs => simp only [VR]; exact ⟨g, 0, rfl, hr.r0.glob g cs hg⟩
  | func f => simp only [ev, Act.eval, VR]; exact ⟨[], [], rfl, VRL.nil, VRL.nil⟩

theorem ActR.put {E E' : Env} {t : List AV} {a : Act} (ha : ActR E t a) (hx : Ext E E') (hm : E'.marks = E.marks) {v : AV} {u : Value} (hv : VR E' v u) (d : Option Tmp) : ActR E' (setDst t d v) (a.put d u) := by
  refine ⟨?_, ?_⟩
  · cases d with
    | none => exact VRL.mono hx.v _ _ ha.1
    | some i => simp only [setDst, Act.put, Array.toList_setIfInBounds]; exact (ha.1.mono hx.v).set i hv
  · rw [hm, ← ha.2.1]; exact ⟨by cases d <;> rfl, ha.2.2⟩

theorem VRL.uncons {E : Env} {c : AV} {cs : List AV} {us : List Value} (h : VRL E (c :: cs) us) : ∃ u us', us = u :: us' ∧ VR E c u ∧ VRL E cs us' := by simpa only [VRL] using h

theorem len_run (hS : SeatOK S) {E : Env} {ty : Nat} {ti : TI} (hti : S.Γ ty = some ti) {x : AV} {n : Int} (hn : lenAV ti.kind x = some n) {u : Value} (hu : VR E x u) (args : Array Operand) (tys : Array TypeId) {ρ : Operand → Value} (ha : (args.map ρ)[0]? = some u) (ht : tys[0]? = some ty) {t : TypeId} {w : World} :
    (Builtin.len_ tys t (args.map ρ)).run S.P w = .ok (.int .i64 n) w := by
  have hT := hS.ty ty ti hti
  unfold Builtin.len_
  simp only [ha, ht]
  unfold lenAV at hn
  split at hn
  · rename_i s hk
    cases hn
    rw [Sem.run_bind, run_underlying (hT.str hk)]
    simp only [VR] at hu
    subst hu
    simp [Result.andThen, goInt, ByteArray.size]
  · rename_i hk
    cases hn
    rw [Sem.run_bind, run_underlying (hT.slice hk)]
    simp only [VR] at hu
    obtain ⟨p, cap, rfl, _⟩ := hu
    simp [Result.andThen, goInt]
  · rename_i hk
    cases hn
    rw [Sem.run_bind, run_underlying (hT.slice hk)]
    simp only [VR] at hu
    subst hu
    simp [Result.andThen, goInt]
  · rename_i hk
    cases hn
    rw [Sem.run_bind, run_underlying (hT.slice hk)]
    simp only [VR] at hu
    obtain ⟨b, _, rfl⟩ := hu
    simp [Result.andThen, goInt]
  · rename_i hk
    cases hn
    rw [Sem.run_bind, run_underlying (hT.arr hk)]
    simp [Result.andThen, goInt]
  · cases hn

theorem foldK_run {E : Env} {P : Program} {f : AV → AV → Option AV} {g : Value → Value → Sem Value} (hf : ∀ x y z u v, f x y = some z → VR E x u → VR E y v → ∃ r, (∀ w, (g u v).run P w = .ok r w) ∧ VR E z r) {k : AV → Prop} :
    ∀ {r : List AV} {x : AV} {us : List Value} {u : Value}, foldK f x r k → VR E x u → VRL E r us → ∃ v, k v ∧ ∃ v', (∀ w, (us.foldlM g u).run P w = .ok v' w) ∧ VR E v v'
  | [], x, us, u, hk, hu, hus => by
    simp only [VRL] at hus; subst hus
    exact ⟨x, hk, u, fun w => rfl, hu⟩
  | y :: r, x, us, u, hk, hu, hus => by
    obtain ⟨u1, us', rfl, h1, h2⟩ := hus.uncons
    obtain ⟨z, hz, hk⟩ := hk.elim
    obtain ⟨r1, hr1, hz'⟩ := hf _ _ _ _ _ hz hu h1
    obtain ⟨v, hk, v', hrun, hv⟩ := foldK_run hf hk hz' h2
    refine ⟨v, hk, v', fun w => ?_, hv⟩
    rw [List.foldlM_cons, Sem.run_bind, hr1 w]
    exact hrun w

theorem min2_run {E : Env} {P : Program} (x y z : AV) (u v : Value) (h : min2A x y = some z) (hu : VR E x u) (hv : VR E y v) : ∃ r, (∀ w, (Builtin.min2 u v).run P w = .ok r w) ∧ VR E z r := by
  unfold min2A at h
  split at h
  · rename_i k a k' b
    split at h
    · cases h
      simp only [VR] at hu hv
      subst hu hv
      exact ⟨_, fun w => rfl, by simp only [VR]⟩
    · cases h
  · cases h
theorem max2_run {E : Env} {P : Program} (x y z : AV) (u v : Value) (h : max2A x y = some z) (hu : VR E x u) (hv : VR E y v) : ∃ r, (∀ w, (Builtin.max2 u v).run P w = .ok r w) ∧ VR E z r := by
  unfold max2A at h
  split at h
  · rename_i k a k' b
    split at h
    · cases h
      simp only [VR] at hu hv
      subst hu hv
      exact ⟨_, fun w => rfl, by simp only [VR]⟩
    · cases h
  · cases h

/-- One operation. -/
theorem operN_sound (hS : SeatOK S) {nid : Nat} {o : Oper} {t : List AV} {h : Heap} {k : AEnd → Heap → Prop} (hk : operN S nid o t h k) {E : Env} {w : World} {a : Act} (hr : R S E h w) (ha : ActR E t a)
    (hun : h[nid]? = none ∨ h[nid]? = some .unborn)
    (next : Act → World → Prop) (Q : Exit → Act → World → Prop)
    (hnext : ∀ E' h' v u w', Ext E E' → E'.marks = E.marks → R S E' h' w' → VR E' v u → k (.ret v) h' → next (a.put o.dst u) w')
    (hpan : ∀ E' h' v u w', Ext E E' → E'.marks = E.marks → R S E' h' w' → VR E' v u → k (.pan v) h' → Q (.panic [{ v := u, recovered := false }]) a w') :
    o.wpIn (fen E) 0 S.P a w next Q := by
  refine ⟨fun f _ => fen_fn E f, ?_⟩
  have hv := ev_VR hr ha
  obtain ⟨n1, n2, n3⟩ : E.blk nid = none ∧ E.tok nid = none ∧ E.cbv nid = none := by
    rcases hun with hun | hun
    · exact hr.r0.non nid hun
    · exact hr.r0.ch nid _ hun
  have hpostOf : ∀ (e : Ending) (w' : World), (∃ E' h' r, Ext E E' ∧ E'.marks = E.marks ∧ R S E' h' w' ∧ EndR E' r e ∧ k r h') → (match e, w' with
      | .returned v, w' => next (a.put o.dst v) w'
      | .panicked chain, w' => Q (.panic chain) a w'
      | .outgrown, _ => LetsOut Q) := by
    rintro e w' ⟨E', h', r, h1, h2, h3, h4, h5⟩
    cases r with
    | ret v => obtain ⟨u, rfl, hu⟩ := h4; exact hnext E' h' v u w' h1 h2 h3 hu h5
    | pan v => obtain ⟨u, rfl, hu⟩ := h4; exact hpan E' h' v u w' h1 h2 h3 hu h5
  have hcall : ∀ (f : Nat) (args : List AV) (args' : List Value), CallH S f args h k → VRL E args args' → (execOp a.eval o).run S.P w = (callFunc f args'.toArray).run S.P w → o.uponIn (fen E) 0 S.P a next Q ((execOp a.eval o).run S.P w) := by
    intro f args args' hc hargs hrun
    rw [hrun]
    have hpost := hpostOf
    rcases hc.run hr hargs with ⟨h1, h2⟩ | ⟨v, w', h1, h2⟩
    · rw [h1, Oper.uponIn_enter]
      exact ⟨fun hd => (by rw [fen_depth] at hd; cases hd), (callsIn_fen h2).mono hpost⟩
    · rw [h1, Oper.uponIn_value]
      exact hpost _ _ h2
  have hplain : ∀ (op : Op), o.op = op → (∀ c, op ≠ .defer c) → opK S.flat S.Γ (ev S.G t) h nid op (fun v ups _ => putsK h ups (fun h' => k (.ret v) h')) → o.uponIn (fen E) 0 S.P a next Q ((execOp a.eval o).run S.P w) := by
    intro op ho _ hop
    obtain ⟨v, ups, rds, h1, _, h3⟩ := opK_sound hS hop
    rw [putsK_eq] at h1
    obtain ⟨E', w', u, hrun, hu, hx, hm, hr', _⟩ := h3 h (fun _ _ => rfl) E w a.eval hr (fun _ => n1) (fun _ => n2) (fun _ => n3) (fun _ c hc => by rcases hun with hun | hun <;> rw [hun] at hc <;> cases hc; rfl) hv o ho
    rcases hrun with hrun | ⟨hrun, rfl⟩
    · rw [hrun, Oper.uponIn_value]; exact hnext E' _ v u w' hx hm hr' hu h1
    · rw [hrun, Oper.uponIn_skip]; exact hnext E' _ v undef w' hx hm hr' hu h1
  have hnd : (∀ c, o.op ≠ .defer c) → (o.semAt (fen E).round a.eval) = execOp a.eval o := fun h => Oper.semAt_eq _ _ _ h
  unfold operN at hk
  split at hk
  · -- calls
    rename_i c hop
    rw [hnd (by rw [hop]; intro c h; cases h)]
    split at hk
    · rename_i fo hcal
      have hfo := hv fo
      split at hk
      · rename_i f x y e
        rw [e] at hfo; simp only [VR] at hfo
        obtain ⟨us, ws, hfo, hu, hw⟩ := hfo
        rw [mapF_eq, appL_eq, appL_eq] at hk
        have hmap := mapF_run hv c.args.toList
        refine hcall f _ (us ++ (c.args.toList.map a.eval ++ ws)) hk (hu.append (hmap.append hw)) ?_
        simp [execOp, hop, resolve, hcal, hfo, Deferred.ofValue, invoke]
        congr 2
        simp
      · rename_i i e
        rw [e] at hfo
        rw [mapF_eq] at hk
        have hmap := mapF_run hv c.args.toList
        have hI := hk.out E w _ _ hr hmap hfo
        have hpost := hpostOf
        rcases hI with ⟨f, first, caps, hfv, hco⟩ | ⟨l, fn, tmps, assign, body, hfv, hrun, hround⟩
        · have hrun : (execOp a.eval o).run S.P w = (callFunc f (first ++ (c.args.toList.map a.eval).toArray ++ caps)).run S.P w := by
            have ht : (c.args.toList.map a.eval).toArray = c.args.map a.eval := by cases c.args; simp
            rw [ht]
            simp [execOp, hop, resolve, hcal, hfv, Deferred.ofValue, invoke]
          rw [hrun]
          rcases hco with ⟨h1, h2⟩ | ⟨v, w', h1, h2⟩
          · rw [h1, Oper.uponIn_enter]
            exact ⟨fun hd => (by rw [fen_depth] at hd; cases hd), (callsIn_fen h2).mono hpost⟩
          · rw [h1, Oper.uponIn_value]
            exact hpost _ _ h2
        · have hrun2 : (execOp a.eval o).run S.P w = .ok (.round l fn tmps assign body) w := by
            rw [← hrun]
            have ht : (c.args.toList.map a.eval).toArray = c.args.map a.eval := by cases c.args; simp
            rw [ht]
            simp [execOp, hop, resolve, hcal, hfv, Deferred.ofValue, invoke]
          rw [hrun2, Oper.uponIn_round]
          exact ⟨fun hd => (by rw [fen_depth] at hd; cases hd), (roundIn_fen hround).mono hpost⟩
      · exact hk.elim
    · -- len
      rename_i hcal
      split at hk
      · rename_i x rx ty rty hax haty
        split at hk
        · rename_i ti hti
          obtain ⟨n, hn, hk⟩ := hk.elim
          obtain ⟨l, hargs⟩ : ∃ l, c.args = (x :: l).toArray := ⟨rx, by rw [← hax]⟩
          obtain ⟨l2, htys⟩ : ∃ l, c.argTypes = (ty :: l).toArray := ⟨rty, by rw [← haty]⟩
          have hvx := hv x
          have hrun : (execOp a.eval o).run S.P w = .ok (.value (.int .i64 n)) w := by
            simp only [execOp, hop, resolve, hcal, Sem.run_bind, Sem.run_pure, Result.andThen, invoke, builtin]
            rw [len_run hS hti hn hvx c.args c.argTypes (by rw [hargs]; simp) (by rw [htys]; simp)]
          rw [hrun, Oper.uponIn_value]
          exact hnext E h _ _ w (Ext.refl E) rfl hr (by simp only [VR]) hk
        · exact hk.elim
      · exact hk.elim
    · -- min
      rename_i hcal
      rw [mapF_eq] at hk
      have hmap := mapF_run hv c.args.toList
      split at hk
      · rename_i x r hl
        rw [hl] at hmap
        obtain ⟨u, us, e, hu, hus⟩ := hmap.uncons
        obtain ⟨v, hk, v', hrun, hv'⟩ := foldK_run min2_run hk hu hus
        have hrun : (execOp a.eval o).run S.P w = .ok (.value v') w := by
          simp only [execOp, hop, resolve, hcal, Sem.run_bind, Sem.run_pure, Result.andThen, invoke, builtin, Builtin.min_, Array.toList_map, e]
          rw [hrun w]
        rw [hrun, Oper.uponIn_value]
        exact hnext E h _ _ w (Ext.refl E) rfl hr hv' hk
      · exact hk.elim
    · -- max
      rename_i hcal
      rw [mapF_eq] at hk
      have hmap := mapF_run hv c.args.toList
      split at hk
      · rename_i x r hl
        rw [hl] at hmap
        obtain ⟨u, us, e, hu, hus⟩ := hmap.uncons
        obtain ⟨v, hk, v', hrun, hv'⟩ := foldK_run max2_run hk hu hus
        have hrun : (execOp a.eval o).run S.P w = .ok (.value v') w := by
          simp only [execOp, hop, resolve, hcal, Sem.run_bind, Sem.run_pure, Result.andThen, invoke, builtin, Builtin.max_, Array.toList_map, e]
          rw [hrun w]
        rw [hrun, Oper.uponIn_value]
        exact hnext E h _ _ w (Ext.refl E) rfl hr hv' hk
      · exact hk.elim
    · -- append
      rename_i hcal
      split at hk
      · rename_i s x ty ty2 hax haty
        split at hk
        · rename_i hb
          have := Nat.eq_of_beq_eq_true hb; subst this
          have hargs : c.args = #[s, x] := by rw [← Array.toArray_toList (xs := c.args), hax]
          have htys : c.argTypes = #[ty, ty] := by rw [← Array.toArray_toList (xs := c.argTypes), haty]
          obtain ⟨v, ups, rds, h1, _, h3⟩ := appK_sound hS hk
          rw [putsK_eq] at h1
          obtain ⟨E', w', u, hrun, hu, hx, hm, hr'⟩ := h3 h (fun _ _ => rfl) E w hr n2 (a.eval s) (a.eval x) o.type (hv s) (hv x)
          have hrun : (execOp a.eval o).run S.P w = .ok (.value u) w' := by
            simp only [execOp, hop, resolve, hcal, Sem.run_bind, Sem.run_pure, Result.andThen, invoke, builtin, hargs, htys]
            simp only [List.map_toArray, List.map_cons, List.map_nil, hrun]
          rw [hrun, Oper.uponIn_value]
          exact hnext E' _ v u w' hx hm hr' hu h1
        · exact hk.elim
      · exact hk.elim
    · exact hk.elim
  · -- panic
    rename_i x hop
    rw [hnd (by rw [hop]; intro c h; cases h)]
    split at hk
    · rename_i ty v e
      have hvx := hv x
      rw [e] at hvx; simp only [VR] at hvx
      obtain ⟨u, hu, hvu⟩ := hvx
      have hrun : (execOp a.eval o).run S.P w = .halt (.panic (.iface ty u)) w := by
        simp [execOp, hop, hu, Instr.panic, goPanic, Sem.run_bind, Result.andThen]
      rw [hrun, Oper.uponIn_panic]
      exact hpan E h (.ifc ty v) (.iface ty u) w (Ext.refl E) rfl hr (by simp only [VR]; exact ⟨u, rfl, hvu⟩) hk
    · exact hk.elim
  · rename_i op h1 h2
    rw [hnd (by intro c h; rw [h] at hk; simp only [opK] at hk)]
    exact hplain o.op rfl (by intro c h; rw [h] at hk; simp only [opK] at hk) hk

theorem operK_sound (hS : SeatOK S) {o : Oper} {t : List AV} {h : Heap} {k : AEnd → Heap → Prop} (hk : operK S o t h k) {E : Env} {w : World} {a : Act} (hr : R S E h w) (ha : ActR E t a)
    (next : Act → World → Prop) (Q : Exit → Act → World → Prop)
    (hnext : ∀ E' h' v u w', Ext E E' → E'.marks = E.marks → R S E' h' w' → VR E' v u → k (.ret v) h' → next (a.put o.dst u) w')
    (hpan : ∀ E' h' v u w', Ext E E' → E'.marks = E.marks → R S E' h' w' → VR E' v u → k (.pan v) h' → Q (.panic [{ v := u, recovered := false }]) a w') :
    o.wpIn (fen E) 0 S.P a w next Q :=
  operN_sound hS (nid := lenN h) hk hr ha (.inl (by rw [lenN_eq]; simp)) next Q hnext hpan

end Go.Abs
