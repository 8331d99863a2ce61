/- Definitions and lemmas for the law, part 5. No condition beyond those in each statement. -/
import Derived.Recover
import Derived.Scope
import Derived.Test.YtjpaapkdbohgeaaDoorZ4
set_option linter.unusedSimpArgs false
set_option linter.unusedVariables false
set_option linter.deprecated false
namespace Go.Abs
open Go.RowKit
variable {S : Seat} {B : List Deferred}
def PostM (S : Seat) (B : List Deferred) (E : Env) (k : ExK) (e : Exit) (a : Act) (w : World) : Prop :=
  ∃ E' t h x, Ext E E' ∧ E'.marks = E.marks ∧ R S E' h w ∧ ActR B E' t a ∧ ExitR E' x e ∧ k x t h
theorem PostM.ext {E E' : Env} {k : ExK} {e : Exit} {a : Act} {w : World} (hx : Ext E E') (hm : E'.marks = E.marks) (h : PostM S B E' k e a w) : PostM S B E k e a w := by
  obtain ⟨E2, t, hp, x, h1, h2, h3⟩ := h
  exact ⟨E2, t, hp, x, hx.trans h1, h2.trans hm, h3⟩
theorem opsM_sound (hS : SeatOK S) (ops : Array Oper) {k : ExK} : ∀ (l : List Oper) (i : Nat), ops.toList.drop i = l → ∀ (t : List AV) (h : Heap), opsK S ops.toList l t h k →
    ∀ (E : Env) (w : World) (a : Act), R S E h w → ActR B E t a → wpOpsIn (fen E) 0 S.P ops (PostM S B E k) (List.range' i l.length) a w
  | [], i, _, t, h, hk, E, w, a, hr, ha => ⟨E, t, h, .normal, Ext.refl E, rfl, hr, ha, rfl, hk⟩
  | o :: r, i, hd, t, h, hk, E, w, a, hr, ha => by
    have hget : ops[i]? = some o := by
      have : ops.toList[i]? = some o := by rw [← List.head?_drop, hd]; rfl
      simpa using this
    have hd' : ops.toList.drop (i + 1) = r := by rw [← List.tail_drop, hd]; rfl
    simp only [List.length_cons, List.range'_succ, wpOpsIn, hget]
    have hgo : operK S o t h (fun e h' => match e with | .ret v => setD t o.dst v (fun t' => opsK S ops.toList r t' h' k) | .pan v => k (.pan v) t h') →
        o.wpIn (fen E) 0 S.P a w (wpOpsIn (fen E) 0 S.P ops (PostM S B E k) (List.range' (i + 1) r.length)) (PostM S B E k) := by
      intro hk
      refine operK_sound hS hk hr ha _ _ ?_ ?_
      · intro E' h' v u w' hx hm hr' hv hk'
        simp only [setD_eq] at hk'
        have := opsM_sound hS ops r (i + 1) hd' _ h' hk' E' w' _ hr' (ha.put hx hm hv o.dst)
        rw [fen_ext hx] at this
        exact wpOpsIn_mono (fun _ _ _ h => h.ext hx hm) _ _ _ this
      · intro E' h' v u w' hx hm hr' hv hk'
        exact ⟨E', t, h', .pan v, hx, hm, hr', ha.mono hx hm, ⟨u, rfl, hv⟩, hk'⟩
    have hskip : setD t o.dst (.tup []) (fun t' => opsK S ops.toList r t' h k) →
        (∀ f, o.about S.P w a.eval = some f → (fen E).fn f) ∧ wpOpsIn (fen E) 0 S.P ops (PostM S B E k) (List.range' (i + 1) r.length) (a.put o.dst undef) w := by
      intro hk
      rw [setD_eq] at hk
      exact ⟨fun f _ => fen_fn E f, opsM_sound hS ops r (i + 1) hd' _ h hk E w _ hr (ha.put (Ext.refl E) rfl (VR.dead E) o.dst)⟩
    unfold opsK at hk
    split at hk
    · rename_i hg
      simp only [Region.wanted, hg, if_true]
      exact hgo hk
    · rename_i j want hg
      split at hk
      · rename_i oj hoj
        rw [getO_eq] at hoj
        have hoj : ops[j]? = some oj := by simpa using hoj
        split at hk
        · rename_i d hdst
          have hb : ∀ b, getT t d = .bool b → yielded ops a.tmps j = some b := by
            intro b hb
            rw [getT_eq] at hb
            cases hi : t[d]? with
            | none => simp [hi] at hb
            | some c =>
              simp [hi] at hb
              obtain ⟨u, hu, hv⟩ := ha.1.get d c hi
              rw [hb] at hv; simp only [VR] at hv; subst hv
              have : a.tmps[d]? = some (.bool b) := by simpa using hu
              unfold yielded; rw [hoj]; simp [hdst, this]
          split at hk
          · rename_i b hbe
            have hyb := hb b hbe
            simp only [Region.wanted, hg, hyb]
            cases b with
            | true => simpa using hgo hk
            | false => simpa using hskip hk
          · rename_i b hbe
            have hyb := hb b hbe
            simp only [Region.wanted, hg, hyb]
            cases b with
            | true => simpa using hskip hk
            | false => simpa using hgo hk
          · rename_i hbe
            have hyb : yielded ops a.tmps j = none := by
              rw [getT_eq] at hbe
              cases hi : t[d]? with
              | none => simp [hi] at hbe
              | some c =>
                simp [hi] at hbe
                obtain ⟨u, hu, hv⟩ := ha.1.get d c hi
                rw [hbe] at hv
                have := hv.toDead; subst this
                have : a.tmps[d]? = some undef := by simpa using hu
                unfold yielded; rw [hoj]; simp [hdst, this, undef]
            simp only [Region.wanted, hg, hyb]
            simpa using hskip hk
          · exact hk.elim
        · exact hk.elim
      · exact hk.elim
def simpleC : Code → Bool
  | .skip => true
  | .region _ _ draw => !draw
  | .seq a b => simpleC a && simpleC b
  | .cond _ a b => simpleC a && simpleC b
  | .ret => true
  | _ => false
theorem codeM_sound (hS : SeatOK S) : ∀ (c : Code), simpleC c = true → ∀ (t : List AV) (h : Heap) (k : ExK), codeK S c t h k → ∀ (E : Env) (w : World) (a : Act), R S E h w → ActR B E t a → c.wpIn (fen E) 0 S.P (PostM S B E k) a w
  | .skip, _, t, h, k, hk, E, w, a, hr, ha => wpIn_skip ⟨E, t, h, .normal, Ext.refl E, rfl, hr, ha, rfl, hk⟩
  | .ret, _, t, h, k, hk, E, w, a, hr, ha => wpIn_ret ⟨E, t, h, .ret, Ext.refl E, rfl, hr, ha, rfl, hk⟩
  | .region id ops draw, hs, t, h, k, hk, E, w, a, hr, ha => by
    cases draw with
    | false =>
      refine wpIn_region ?_
      have := opsM_sound hS ops ops.toList 0 rfl t h hk E w a hr ha
      rwa [Array.length_toList, ← List.range_eq_range'] at this
    | true => cases hs
  | .seq x y, hs, t, h, k, hk, E, w, a, hr, ha => by
    simp only [simpleC, Bool.and_eq_true] at hs
    refine wpIn_seq (wpIn_mono (codeM_sound hS x hs.1 t h _ hk E w a hr ha) ?_)
    rintro e a' w' ⟨E', t', h', z, h1, h1', h2, h3, h4, h5⟩
    cases z with
    | normal =>
      simp only [ExitR] at h4; subst h4
      have := codeM_sound hS y hs.2 t' h' k h5 E' w' a' h2 h3
      rw [fen_ext h1] at this
      exact wpIn_mono this fun _ _ _ h => h.ext h1 h1'
    | exit i => simp only [ExitR] at h4; subst h4; exact ⟨E', t', h', .exit i, h1, h1', h2, h3, rfl, h5⟩
    | goto i => simp only [ExitR] at h4; subst h4; exact ⟨E', t', h', .goto i, h1, h1', h2, h3, rfl, h5⟩
    | ret => simp only [ExitR] at h4; subst h4; exact ⟨E', t', h', .ret, h1, h1', h2, h3, rfl, h5⟩
    | pan v => obtain ⟨u, rfl, hu⟩ := h4; exact ⟨E', t', h', .pan v, h1, h1', h2, h3, ⟨u, rfl, hu⟩, h5⟩
  | .cond c x y, hs, t, h, k, hk, E, w, a, hr, ha => by
    simp only [simpleC, Bool.and_eq_true] at hs
    unfold codeK at hk
    split at hk
    · rename_i b hc
      have hv := ev_VR hr ha c
      rw [hc] at hv; simp only [VR] at hv
      cases b with
      | true => exact wpIn_cond_true hv (codeM_sound hS x hs.1 t h k hk E w a hr ha)
      | false => exact wpIn_cond_false hv (codeM_sound hS y hs.2 t h k hk E w a hr ha)
    · exact hk.elim
def ModeR (E : Env) : Option AV → FrameMode → Prop
  | none, u => u = .returning
  | some v, u => ∃ p, u = .panicking [{ v := p, recovered := false }] ∧ VR E v p
def DCalls (S : Seat) (g : Nat) (caps : List AV) (h : Heap) (m : Option AV) (K : Option AV → Heap → Prop) : Prop :=
  ∀ (E : Env) (w : World) (caps' : List Value) (u : FrameMode), E.marks = [] → E.rnd = none → R S E h w → VRL E caps caps' → ModeR E m u →
    CallsDIn Fence.wide 0 S.P g caps'.toArray u w fun e u' w' => (∃ v, e = .returned v) ∧ ∃ E' h' m', Ext E E' ∧ E'.marks = [] ∧ R S E' h' w' ∧ ModeR E' m' (settle u') ∧ K m' h'
theorem callsDIn_of_wpS {P : Program} {f : FuncId} {fn : Func} {c : Code} {args : Array Value} {u : FrameMode} {w : World} {n : Nat} {R : Ending → FrameMode → World → Prop}
    (hf : P.funcs[f]? = some fn) (hb : fn.body = some c)
    (h : ∀ (c₀ : Frame) (cs : List Frame), c₀.mode = u →
      c.wpS P (bodyPostS P fn c₀ cs R) { tmps := args ++ Array.replicate (fn.ntmps - args.size) undef, defers := [] } (c₀ :: cs) w) :
    CallsDIn Fence.wide n P f args u w R := by
  refine ⟨trivial, fun c₀ cs hu _ => ?_⟩
  let b : Frame := { (default : Frame) with fn := f, kind := .deferred }
  have henter : Frame.enter P f args .deferred =
      b.at { tmps := args ++ Array.replicate (fn.ntmps - args.size) undef, defers := [] } [.code c] := by
    simp [Frame.enter, Frame.at, hf, hb, b]
  obtain ⟨e, a', cs', w', hq, harr⟩ := h c₀ cs hu b [] rfl rfl
  rw [← henter] at harr
  cases e with
  | normal =>
    obtain ⟨hd, u', rfl, v, hr, hR⟩ := hq
    exact ⟨.returned v, u', w', _, hR, comesIn_wide.2 (Steps.trans harr (.one step_end)), rfl, rfl, rfl, hd, fn, hf, hr⟩
  | ret =>
    obtain ⟨hd, u', rfl, v, hr, hR⟩ := hq
    obtain ⟨todo, hs⟩ := harr
    exact ⟨.returned v, u', w', _, hR, comesIn_wide.2 hs, rfl, rfl, rfl, hd, fn, hf, hr⟩
  | panic chain =>
    obtain ⟨hd, u', rfl, hR⟩ := hq
    obtain ⟨todo, hs⟩ := harr
    exact ⟨.panicked chain, u', w', _, hR, comesIn_wide.2 hs, rfl, rfl, rfl, hd, fn, hf⟩
  | exit id => exact hq.elim
  | goto l => exact hq.elim
  | outgrown =>
    obtain ⟨u', hR⟩ := hq
    exact ⟨.outgrown, u', w', b, hR, comesIn_wide.2 (harr.resolve_left (by simp [b])), rfl, rfl, trivial⟩
theorem leaves_ofD {fn : Func} {tmps : Array Value} {Rr : Ending → World → Prop} {u : FrameMode} {ds : List Deferred} (hu : u ≠ .run) {h : Heap} :
    ∀ (ms : List Nat) (E : Env) (w : World), E.marks = ms → E.marks.Nodup → R S E h w →
    (∀ w', R S { E with marks := [] } h w' → LeavesInM Fence.wide 0 S.P fn tmps Rr ds u w') → LeavesInM Fence.wide 0 S.P fn tmps Rr (ms.map markOf ++ ds) u w
  | [], E, w, hm, _, hr, hk => hk w (by
      have : E = { E with marks := [] } := by cases E; simp_all
      rw [← this]; exact hr)
  | D :: ms, E, w, hm, hnd, hr, hk => by
    obtain ⟨h1, h2⟩ := takeMark hr hm hnd
    refine ⟨hu, .inl ⟨D, _, rfl, h1, leaves_ofD hu ms { E with marks := ms } _ rfl (by rw [hm] at hnd; exact (List.nodup_cons.1 hnd).2) h2 hk⟩⟩
structure DCallH (S : Seat) (g : Nat) (caps : List AV) (h : Heap) (m : Option AV) (K : Option AV → Heap → Prop) : Prop where
  out : DCalls S g caps h m K
def leaveK (S : Seat) (fn : Func) (t : List AV) (Q : AEnd → Heap → Prop) (m : Option AV) (h : Heap) : Prop :=
  match m with
  | none => resK S t h fn.results.toList (fun vs => Q (.ret (retK vs)) h)
  | some v => Q (.pan v) h
theorem run_defer {mk df : Oper} {g d : Nat} {cps : Array Operand} {c : Call} (hmk : mk.op = .makeFunc (.func g) #[] cps) (hdo : df.op = .defer c) (hdc : c.callee = .value (.tmp d)) (hda : c.args = #[]) {P : Program} :
    (∀ (a : Act) (w : World), (execOp a.eval mk).run P w = .ok (.value (.func (.func g) #[] (cps.map a.eval))) w) ∧
    (∀ (a : Act) (w : World) (x : Array Value), a.eval (.tmp d) = .func (.func g) #[] x → (execOp a.eval df).run P w = .ok (.defer { target := .fn (.func g) x, args := #[] }) w) := by
  refine ⟨fun a w => ?_, fun a w x hx => ?_⟩
  · simp [execOp, hmk, Instr.makeFunc]
  · simp [execOp, hdo, resolve, hdc, hda, hx, Deferred.ofValue]
end Go.Abs
namespace Go.Abs
open Go.RowKit
variable {S : Seat}
section
variable {F : Fence} {n : Nat} {P : Program} {a : Act} {w : World} {Q : Exit → Act → World → Prop}
theorem stepR_scope {b : Frame} {k : List Item} {cs : List Frame} {c : Code} : step P (lone (b.atR a (.code (.scope c) :: k)) cs w) = .next (lone (b.atR a (.code c :: .inScope c :: k)) cs w) :=
  step_lone_go (by simp [stepG, stepG.exec, Frame.atR])
theorem stepR_inScope {b : Frame} {k : List Item} {cs : List Frame} {c : Code} : step P (lone (b.atR a (.inScope c :: k)) cs w) = .next (lone (b.atR a k) cs w) :=
  step_lone_go (by simp [stepG, stepG.exec, Frame.atR])
theorem wpIn_scope_straight {c : Code} (h : c.wpIn F n P (Exit.noGoto Q) a w) : (Code.scope c).wpIn F n P Q a w := by
  intro b k cs hro hb hr
  have h0 : (lone (b.atR a (.code (.scope c) :: k)) cs w).fenced P F := fenced_calm hb hr rfl
  obtain ⟨e, a₁, w₁, hq, harr⟩ := h b (.inScope c :: k) cs hro hb hr
  cases e with
  | normal => exact ⟨.normal, a₁, w₁, hq, .head h0 stepR_scope (StepsIn.trans harr (.one (fenced_calm hb hr rfl) stepR_inScope))⟩
  | exit id =>
    have hx : exitTo id (.inScope c :: k) = exitTo id k := by simp [exitTo]
    exact ⟨.exit id, a₁, w₁, hq, fun k' hk => .head h0 stepR_scope (harr.1 k' (by rw [hx]; exact hk)),
      fun hr' hk => let ⟨k₁, h1, h2⟩ := harr.2 hr' (by rw [hx]; exact hk); ⟨k₁, h1, .head h0 stepR_scope h2⟩⟩
  | goto l => exact hq.elim
  | ret => exact ⟨_, a₁, w₁, hq, .of_steps (.one h0 stepR_scope) harr⟩
  | panic ch => exact ⟨_, a₁, w₁, hq, .of_steps (.one h0 stepR_scope) harr⟩
  | outgrown => exact ⟨_, a₁, w₁, hq, .of_steps (.one h0 stepR_scope) harr⟩
end
theorem Sat.scope (hS : SeatOK S) {b : Code} {t : List AV} {h : Heap} {k : ExK} (hb : codeR S b t h (fun x t' h' => match x with
      | .normal => k .normal t' h'
      | .exit j => k (.exit j) t' h'
      | .goto _ => False
      | .ret => k .ret t' h'
      | .pan v => k (.pan v) t' h')) : Sat S (.scope b) t h k := by
  refine ⟨fun B E w a hr ha => wpIn_scope_straight (wpIn_mono ((codeR_sound hS b t h _ hb).out B E w a hr ha) ?_)⟩
  rintro e a' w' ⟨E', t', h', x, g1, g2, g3, g4, g5⟩
  cases x with
  | goto l => exact g5.elim
  | normal => cases e <;> first | exact ⟨E', t', h', _, g1, g2, g3, g4, g5⟩ | (simp [ExitR] at g4)
  | exit j => cases e <;> first | exact ⟨E', t', h', _, g1, g2, g3, g4, g5⟩ | (simp [ExitR] at g4)
  | ret => cases e <;> first | exact ⟨E', t', h', _, g1, g2, g3, g4, g5⟩ | (simp [ExitR] at g4)
  | pan v => cases e <;> first | exact ⟨E', t', h', _, g1, g2, g3, g4, g5⟩ | (simp [ExitR] at g4)
end Go.Abs
namespace Go.Abs
open Go.RowKit
variable {S : Seat}
theorem ACalls.bodyS (hS : SeatOK S) {f : Nat} {fn : Func} {c : Code} (hf : S.P.funcs[f]? = some fn) (hb : fn.body = some c) (hn : (fn.name == "runtime.NumGoroutine") = false) {args : List AV} {h : Heap} {Q : AEnd → Heap → Prop}
    (hk : Sat S c (appL args (undefs (fn.ntmps - lenN args))) h (fun x t h' => match x with
    | .normal => resK S t h' fn.results.toList (fun vs => Q (.ret (retK vs)) h')
    | .ret => resK S t h' fn.results.toList (fun vs => Q (.ret (retK vs)) h')
    | .pan v => Q (.pan v) h'
    | _ => False)) : ACalls S f args h Q := by
  intro E w args' hm hrn hr ha
  refine .inl ⟨?_, ?_⟩
  · unfold callFunc
    simp only [beq_eq_false_iff_ne, ne_eq] at hn
    simp [Sem.run_bind, go_sem, hf, hn, hb]
  · rw [← callsIn_wide (n := 0)]
    refine callsIn_of_wp_marks hf hb trivial ?_
    have hact : ActR [] E (appL args (undefs (fn.ntmps - lenN args))) { tmps := args'.toArray ++ Array.replicate (fn.ntmps - args'.toArray.size) undef, defers := [] } := by
      refine ⟨?_, by rw [hm]; exact ⟨rfl, List.nodup_nil⟩⟩
      rw [appL_eq, undefs_eq, lenN_eq, ha.length]
      simp only [Array.toList_append, Array.toList_replicate, List.size_toArray]
      exact ha.append (VRL.replicate_undef _ _ (by simp))
    have := hk.out [] E w _ hr hact
    have hfen : fen E = Fence.wide := by unfold fen; rw [hrn]
    rw [hfen] at this
    refine wpIn_mono this ?_
    rintro e a' w' ⟨E', t', h', x, h1, h2, h3, h4, h5⟩
    have hres : ∀ (w' : World), R S { E' with marks := [] } h' w' → resK S t' h' fn.results.toList (fun vs => Q (.ret (retK vs)) h') → LeavesIn Fence.wide 0 S.P fn a'.tmps (fun e w' => ∃ E' h' r, Ext E E' ∧ E'.marks = [] ∧ R S E' h' w' ∧ EndR E' r e ∧ Q r h') [] .returning w' := by
      intro w' hr' hk
      have ht : VRL { E' with marks := [] } t' a'.tmps.toList := VRL.mono (VExt.of_eq (E := E') (E' := { E' with marks := [] }) rfl rfl rfl rfl) _ _ h3.1
      obtain ⟨vs, us, hq, hvs, hrun⟩ := resK_run hS hr' ht _ _ hk
      have hrun2 : (results fn a'.tmps).run S.P w' = .ok (if h : us.toArray.size = 1 then us.toArray[0] else .tuple us.toArray) w' := by
        rw [results_eq, Sem.run_bind, Array.mapM_eq_mapM_toList, map_eq_pure_bind, Sem.run_bind, hrun]
        rfl
      refine ⟨_, hrun2, { E' with marks := [] }, h', .ret (retK vs), ⟨h1.blk, h1.tok, h1.cbv, h1.imm, h1.new, h1.keep, h1.base, h1.rnd⟩, rfl, hr', ⟨_, rfl, ?_⟩, hq⟩
      have hl := hvs.length
      match vs, us, hvs, hl with
      | [], [], hvs, _ => simpa [retK, VR] using hvs
      | [v], [u], hvs, _ => obtain ⟨_, _, e, h1, _⟩ := hvs.uncons; cases e; simpa [retK] using h1
      | v1 :: v2 :: vs, u1 :: u2 :: us, hvs, _ =>
        have : ¬ (u1 :: u2 :: us).toArray.size = 1 := by simp
        rw [dif_neg this]
        simp only [retK, VR]
        exact ⟨_, rfl, hvs⟩
    cases x with
    | normal =>
      simp only [ExitR] at h4; subst h4
      show LeavesInM _ _ _ _ _ _ _ _ _
      rw [h3.2.1, List.append_nil]
      exact leaves_of (by simp) E'.marks E' w' rfl h3.2.2 h2 fun w' hr' => hres w' hr' h5
    | ret =>
      simp only [ExitR] at h4; subst h4
      show LeavesInM _ _ _ _ _ _ _ _ _
      rw [h3.2.1, List.append_nil]
      exact leaves_of (by simp) E'.marks E' w' rfl h3.2.2 h2 fun w' hr' => hres w' hr' h5
    | pan v =>
      obtain ⟨u, rfl, hu⟩ := h4
      show LeavesInM _ _ _ _ _ _ _ _ _
      rw [h3.2.1, List.append_nil]
      exact leaves_of (by simp) E'.marks E' w' rfl h3.2.2 h2 fun w' hr' => ⟨{ E' with marks := [] }, h', .pan v, ⟨h1.blk, h1.tok, h1.cbv, h1.imm, h1.new, h1.keep, h1.base, h1.rnd⟩, rfl, hr', ⟨u, rfl, VR.mono (VExt.of_eq (E := E') (E' := { E' with marks := [] }) rfl rfl rfl rfl) _ _ hu⟩, h5⟩
    | exit i => exact h5.elim
    | goto i => exact h5.elim
def splitC : Nat → Code → Code × Code
  | 0, c => (.skip, c)
  | n + 1, .seq x y => (.seq x (splitC n y).1, (splitC n y).2)
  | _ + 1, c => (.skip, c)
theorem Sat.weakT {c : Code} {t t2 : List AV} {h : Heap} {k : ExK} (hw : WeakL t t2) (hs : Sat S c t2 h k) : Sat S c t h k :=
  ⟨fun B E w a hr ha => hs.out B E w a hr ⟨WeakL.run hw ha.1, ha.2⟩⟩
theorem Sat.seq {x y : Code} {t : List AV} {h : Heap} {k : ExK} (hx : Sat S x t h (fun e t' h' => match e with
      | .normal => Sat S y t' h' k
      | .exit i => k (.exit i) t' h'
      | .goto i => k (.goto i) t' h'
      | .ret => k .ret t' h'
      | .pan v => k (.pan v) t' h')) : Sat S (.seq x y) t h k := by
  refine ⟨fun B E w a hr ha => wpIn_seq (wpIn_mono (hx.out B E w a hr ha) ?_)⟩
  rintro e a' w' ⟨E', t', h', z, h1, h2, h3, h4, h5⟩
  cases z with
  | normal =>
    simp only [ExitR] at h4; subst h4
    have := h5.out B E' w' a' h2 h3
    rw [fen_ext h1] at this
    exact wpIn_mono this fun _ _ _ h => h.ext h1
  | exit i => simp only [ExitR] at h4; subst h4; exact ⟨E', t', h', .exit i, h1, h2, h3, rfl, h5⟩
  | goto i => simp only [ExitR] at h4; subst h4; exact ⟨E', t', h', .goto i, h1, h2, h3, rfl, h5⟩
  | ret => simp only [ExitR] at h4; subst h4; exact ⟨E', t', h', .ret, h1, h2, h3, rfl, h5⟩
  | pan v => obtain ⟨u, rfl, hu⟩ := h4; exact ⟨E', t', h', .pan v, h1, h2, h3, ⟨u, rfl, hu⟩, h5⟩
theorem Sat.splitAt (hS : SeatOK S) (P : List AV → Heap → Prop) {k : ExK} : ∀ (n : Nat) {c : Code} {t : List AV} {h : Heap}
    (h1 : codeR S (splitC n c).1 t h (fun x t' h' => match x with
      | .normal => ∃ t2, WeakL t' t2 ∧ P t2 h'
      | .exit i => k (.exit i) t' h'
      | .goto i => k (.goto i) t' h'
      | .ret => k .ret t' h'
      | .pan v => k (.pan v) t' h'))
    (h2 : ∀ t h, P t h → Sat S (splitC n c).2 t h k), Sat S c t h k
  | 0, c, t, h, h1, h2 => by
    obtain ⟨t2, hw, hp⟩ := h1
    exact (h2 t2 h hp).weakT hw
  | n + 1, c, t, h, h1, h2 => by
    cases c with
    | seq x y =>
      refine Sat.seq ((codeR_sound hS x t h _ h1).mono fun e t' h' he => ?_)
      cases e with
      | normal => exact Sat.splitAt hS P n he h2
      | exit i => exact he
      | goto i => exact he
      | ret => exact he
      | pan v => exact he
    | _ =>
      obtain ⟨t2, hw, hp⟩ := h1
      exact (h2 t2 h hp).weakT hw
end Go.Abs
namespace Go.Abs
open Go.RowKit
variable {S : Seat}
theorem DCalls.plain (hS : SeatOK S) {g : Nat} {fn : Func} {c : Code} (hf : S.P.funcs[g]? = some fn) (hb : fn.body = some c) (hsim : simpleC c = true) (hres : fn.results = #[])
    {caps : List AV} {h : Heap} {m : Option AV} {K : Option AV → Heap → Prop}
    (hk : codeR S c (appL caps (undefs (fn.ntmps - lenN caps))) h (fun x _ h2 => (x = .normal ∨ x = .ret) ∧ K m h2)) : DCalls S g caps h m K := by
  intro E w caps' u hm hrn hr hcaps hu
  refine callsDIn_of_wpS hf hb fun c₀ cs hc0 => ?_
  have hfen : fen E = Fence.wide := by unfold fen; rw [hrn]
  have hact : ActR [] E (appL caps (undefs (fn.ntmps - lenN caps))) { tmps := caps'.toArray ++ Array.replicate (fn.ntmps - caps'.toArray.size) undef, defers := [] } := by
    refine ⟨?_, by rw [hm]; exact ⟨rfl, List.nodup_nil⟩⟩
    rw [appL_eq, undefs_eq, lenN_eq, hcaps.length]
    simp only [Array.toList_append, Array.toList_replicate, List.size_toArray]
    exact hcaps.append (VRL.replicate_undef _ _ (by simp))
  rw [codeR_eq] at hk
  have h3 := codeM_sound hS c hsim _ h _ hk E w _ hr hact
  rw [hfen] at h3
  refine wpS_of_wp (wp_mono (wpIn_wide.1 h3) ?_)
  rintro e a3 w3 ⟨E2, t2, h2, x, hx2, hm2, hr2, ha3, hex, hxx, hK⟩
  have hmk : E2.marks = [] := hm2.trans hm
  have hdef : a3.defers = [] := by rw [ha3.2.1, hmk]; rfl
  have hresr : (results fn a3.tmps).run S.P w3 = .ok (.tuple #[]) w3 := by
    rw [results_eq, hres]; simp [go_sem]
  have hmode : ModeR E2 m (settle u) := by
    cases m with
    | none => have hu : u = .returning := hu; rw [hu]; rfl
    | some v => obtain ⟨p, rfl, hv⟩ := hu; exact ⟨p, by simp [settle], VR.mono hx2.v _ _ hv⟩
  have hcc : c₀ :: cs = { c₀ with mode := u } :: cs := by rw [← hc0]
  have fin : bodyPostS S.P fn c₀ cs (fun e u' w' => (∃ v, e = .returned v) ∧ ∃ E' h' m', Ext E E' ∧ E'.marks = [] ∧ R S E' h' w' ∧ ModeR E' m' (settle u') ∧ K m' h') .normal a3 (c₀ :: cs) w3 :=
    ⟨hdef, u, hcc, _, hresr, ⟨_, rfl⟩, E2, h2, m, hx2, hmk, hr2, hmode, hK⟩
  rcases hxx with rfl | rfl
  · simp only [ExitR] at hex; subst hex; exact fin
  · simp only [ExitR] at hex; subst hex; exact fin
end Go.Abs
namespace Go.Abs
open Go.RowKit
variable {S : Seat} {B : List Deferred}
theorem ACalls.bodyD2 (hS : SeatOK S) {f : Nat} {fn : Func} {c0 c1 rest : Code} {id d g : Nat} {fng : Func} {cg : Code} {mk df : Oper} {cps : Array Operand} {c : Call}
    (hf : S.P.funcs[f]? = some fn) (hb : fn.body = some (.seq c0 (.seq c1 (.seq (.region id #[mk, df] false) rest)))) (hn : (fn.name == "runtime.NumGoroutine") = false)
    (hmk : mk.op = .makeFunc (.func g) #[] cps) (hmd : mk.dst = some d) (hmg : mk.guard = none) (hdo : df.op = .defer c) (hdc : c.callee = .value (.tmp d)) (hda : c.args = #[]) (hdd : df.dst = none) (hdg : df.guard = none)
    (hfg : S.P.funcs[g]? = some fng) (hbg : fng.body = some cg) (hng : (fng.name == "runtime.NumGoroutine") = false) (hs0 : simpleC c0 = true) (hs1 : simpleC c1 = true)
    {args : List AV} {h : Heap} {Q : AEnd → Heap → Prop}
    (hk : codeR S c0 (appL args (undefs (fn.ntmps - lenN args))) h (fun x t0 h0 => x = .normal ∧ codeR S c1 t0 h0 (fun x t1 h1 => x = .normal ∧ d < t1.length ∧ codeR S rest (t1.set d (.fn g [] (cps.toList.map (ev S.G t1)))) h1 (fun x t2 h2 => match x with
      | .normal => DCallH S g (cps.toList.map (ev S.G t1)) h2 none (leaveK S fn t2 Q)
      | .ret => DCallH S g (cps.toList.map (ev S.G t1)) h2 none (leaveK S fn t2 Q)
      | .pan v => DCallH S g (cps.toList.map (ev S.G t1)) h2 (some v) (leaveK S fn t2 Q)
      | _ => False)))) : ACalls S f args h Q := by
  intro E w args' hm hrn hr ha
  refine .inl ⟨?_, ?_⟩
  · unfold callFunc
    simp only [beq_eq_false_iff_ne, ne_eq] at hn
    simp [Sem.run_bind, go_sem, hf, hn, hb]
  rw [← callsIn_wide (n := 0)]
  refine callsIn_of_wp_marks hf hb trivial ?_
  have hact : ActR [] E (appL args (undefs (fn.ntmps - lenN args))) { tmps := args'.toArray ++ Array.replicate (fn.ntmps - args'.toArray.size) undef, defers := [] } := by
    refine ⟨?_, by rw [hm]; exact ⟨rfl, List.nodup_nil⟩⟩
    rw [appL_eq, undefs_eq, lenN_eq, ha.length]
    simp only [Array.toList_append, Array.toList_replicate, List.size_toArray]
    exact ha.append (VRL.replicate_undef _ _ (by simp))
  have hfen : ∀ E', Ext E E' → fen E' = Fence.wide := fun E' hx => by unfold fen; rw [hx.rnd, hrn]
  rw [codeR_eq] at hk
  have h1 := codeM_sound hS c0 hs0 _ _ _ hk E w _ hr hact
  rw [hfen E (Ext.refl E)] at h1
  refine wpIn_seq (wpIn_mono h1 ?_)
  rintro e a0 w0 ⟨E0, t0, h0, x, hx0, hm0, hr0, ha0, hex, rfl, hk0⟩
  simp only [ExitR] at hex; subst hex
  rw [codeR_eq] at hk0
  have h1 := codeM_sound hS c1 hs1 _ _ _ hk0 E0 w0 _ hr0 ha0
  rw [hfen E0 hx0] at h1
  refine wpIn_seq (wpIn_mono h1 ?_)
  rintro e a1 w1 ⟨E1, t1, h1, x, hx01, hm01, hr1, ha1, hex, rfl, hlt, hk1⟩
  have hx1 : Ext E E1 := hx0.trans hx01
  have hm1 : E1.marks = E.marks := hm01.trans hm0
  have hm1 : E1.marks = [] := hm1.trans hm
  simp only [ExitR] at hex; subst hex
  obtain ⟨rmk, rdf⟩ := run_defer hmk hdo hdc hda (P := S.P)
  have hval := mapF_run (ev_VR hr1 ha1) cps.toList
  have htl : (cps.toList.map a1.eval).toArray = cps.map a1.eval := by cases cps; simp
  have hvf : VR E1 (.fn g [] (cps.toList.map (ev S.G t1))) (.func (.func g) #[] (cps.map a1.eval)) := by
    simp only [VR]
    exact ⟨[], _, by rw [← htl], VRL.nil, hval⟩
  have ha2 := ha1.put (Ext.refl E1) rfl hvf mk.dst
  rw [hmd] at ha2
  have hsz : d < a1.tmps.size := by have := ha1.1.length; simp at this; omega
  have hev : (a1.put (some d) (.func (.func g) #[] (cps.map a1.eval))).eval (.tmp d) = .func (.func g) #[] (cps.map a1.eval) := by
    simp [Act.eval, Act.put, hsz]
  show Code.wpIn Fence.wide 0 S.P (.seq (.region id #[mk, df] false) rest) _ a1 w1
  refine wpIn_seq (wpIn_region ?_)
  have hr2 : List.range (#[mk, df] : Array Oper).size = [0, 1] := rfl
  rw [hr2]
  have hw0 : ∀ y, Region.wanted mk y = true := fun y => by simp [Region.wanted, hmg]
  have hw1 : ∀ y, Region.wanted df y = true := fun y => by simp [Region.wanted, hdg]
  simp only [wpOpsIn, List.getElem?_toArray, List.getElem?_cons_zero, List.getElem?_cons_succ, hw0, hw1, if_true]
  refine ⟨fun _ _ => trivial, ?_⟩
  rw [show mk.semAt Fence.wide.round a1.eval = execOp a1.eval mk from Oper.semAt_eq _ _ _ (by rw [hmk]; intro c h; cases h), rmk, Oper.uponIn_value, hmd]
  refine ⟨fun _ _ => trivial, ?_⟩
  have hsd : (df.semAt Fence.wide.round (a1.put (some d) (.func (.func g) #[] (cps.map a1.eval))).eval) = execOp (a1.put (some d) (.func (.func g) #[] (cps.map a1.eval))).eval df := by
    unfold Oper.semAt; simp [Fence.wide, hdo]
  rw [hsd, rdf _ _ _ hev, Oper.uponIn_defer, hdd]
  generalize hdef : ({ target := .fn (.func g) (cps.map a1.eval), args := #[] } : Deferred) = dd
  have ha3 : ActR [dd] E1 (t1.set d (.fn g [] (cps.toList.map (ev S.G t1)))) (({ a1.put (some d) (.func (.func g) #[] (cps.map a1.eval)) with defers := dd :: (a1.put (some d) (.func (.func g) #[] (cps.map a1.eval))).defers } : Act).put none undef) := by
    refine ⟨ha2.1, ?_, by rw [hm1]; exact List.nodup_nil⟩
    have := ha2.2.1
    rw [hm1] at this ⊢
    show dd :: (a1.put (some d) (.func (.func g) #[] (cps.map a1.eval))).defers = _
    rw [this]; rfl
  have h2 := (codeR_sound hS rest _ _ _ hk1).out [dd] E1 w1 _ hr1 ha3
  rw [hfen E1 hx1] at h2
  refine wpIn_mono h2 ?_
  rintro e a2 w2 ⟨E2, t2, h2, x, hx2, hr2, ha2', hex, hx⟩
  have go : ∀ (m : Option AV) (u : FrameMode), u ≠ .run → (∀ E', Ext E2 E' → ModeR E' m u) → DCalls S g (cps.toList.map (ev S.G t1)) h2 m (leaveK S fn t2 Q) →
      LeavesInM Fence.wide 0 S.P fn a2.tmps (fun e w' => ∃ E' h' r, Ext E E' ∧ E'.marks = [] ∧ R S E' h' w' ∧ EndR E' r e ∧ Q r h') a2.defers u w2 := by
    intro m u hu hmode hD
    rw [ha2'.2.1]
    refine leaves_ofD hu E2.marks E2 w2 rfl ha2'.2.2 hr2 fun w3 hr3 => ?_
    have hxm : Ext E2 { E2 with marks := [] } := ⟨fun _ _ h => h, fun _ F v h => ⟨F, v, h, .inr ⟨rfl, rfl⟩⟩, fun _ _ h => ⟨h, rfl⟩, fun _ _ _ h => h, fun _ _ _ => rfl, rfl, rfl, rfl⟩
    have hcaps : VRL { E2 with marks := [] } (cps.toList.map (ev S.G t1)) (cps.toList.map a1.eval) := VRL.mono (hx2.trans hxm).v _ _ hval
    have hinv : (invoke (.fn (.func g) (cps.map a1.eval)) #[]).run S.P w3 = .ok (.enter g (cps.map a1.eval)) w3 := by
      have h1 : (callFunc g (cps.map a1.eval)).run S.P w3 = .ok (.enter g (cps.map a1.eval)) w3 := by
        unfold callFunc
        simp only [beq_eq_false_iff_ne, ne_eq] at hng
        simp [Sem.run_bind, go_sem, hfg, hng, hbg]
      rw [← h1]
      simp [invoke]
    have hC := hD { E2 with marks := [] } w3 (cps.toList.map a1.eval) u rfl (by show E2.rnd = none; rw [hx2.rnd, hx1.rnd, hrn]) hr3 hcaps (hmode _ hxm)
    rw [htl] at hC
    subst hdef
    refine ⟨hu, .inr ⟨fun h => (by cases h), _, _, _, _, rfl, hinv, fun _ _ => trivial, hC.mono ?_⟩⟩
    rintro e u' w4 ⟨⟨v, rfl⟩, E3, h3, m', hx3, hm3, hr4, hmode', hK⟩
    have hxE : Ext E E3 := hx1.trans (hx2.trans (hxm.trans hx3))
    show LeavesIn Fence.wide 0 S.P fn a2.tmps _ [] (settle u') w4
    cases m' with
    | none =>
      have hs : settle u' = .returning := hmode'
      rw [hs]
      have ht : VRL E3 t2 a2.tmps.toList := VRL.mono (hxm.trans hx3).v _ _ ha2'.1
      obtain ⟨vs, us, hq, hvs, hrun⟩ := resK_run hS hr4 ht _ _ hK
      have hrun2 : (results fn a2.tmps).run S.P w4 = .ok (if h : us.toArray.size = 1 then us.toArray[0] else .tuple us.toArray) w4 := by
        rw [results_eq, Sem.run_bind, Array.mapM_eq_mapM_toList, map_eq_pure_bind, Sem.run_bind, hrun]
        rfl
      refine ⟨_, hrun2, E3, h3, .ret (retK vs), hxE, hm3, hr4, ⟨_, rfl, ?_⟩, hq⟩
      have hl := hvs.length
      match vs, us, hvs, hl with
      | [], [], hvs, _ => simpa [retK, VR] using hvs
      | [v], [u], hvs, _ => obtain ⟨_, _, e, h1, _⟩ := hvs.uncons; cases e; simpa [retK] using h1
      | v1 :: v2 :: vs, u1 :: u2 :: us, hvs, _ =>
        have : ¬ (u1 :: u2 :: us).toArray.size = 1 := by simp
        rw [dif_neg this]
        simp only [retK, VR]
        exact ⟨_, rfl, hvs⟩
    | some v =>
      obtain ⟨p, hp, hv⟩ := hmode'
      rw [hp]
      exact ⟨E3, h3, .pan v, hxE, hm3, hr4, ⟨p, rfl, hv⟩, hK⟩
  cases x with
  | normal => simp only [ExitR] at hex; subst hex; exact go none .returning (by simp) (fun _ _ => rfl) hx.out
  | ret => simp only [ExitR] at hex; subst hex; exact go none .returning (by simp) (fun _ _ => rfl) hx.out
  | pan v =>
    obtain ⟨p, rfl, hv⟩ := hex
    exact go (some v) _ (by simp) (fun E' hxx => ⟨p, rfl, VR.mono hxx.v _ _ hv⟩) hx.out
  | exit i => exact hx.elim
  | goto i => exact hx.elim
end Go.Abs
namespace Go.Abs
open Go.RowKit
variable {S : Seat} {B : List Deferred}
theorem Sat.cutV {c : Code} {t : List AV} {h : Heap} {k : ExK} (i : Nat) (P : ExK) (h1 : Sat S c t h (fun x t h => ∃ t2 cs cs' e, WeakL t t2 ∧ getO h i = some (.var cs e) ∧ WeakL cs cs' ∧ P x t2 (put h i (.var cs' e)))) (h2 : ∀ x t h, P x t h → k x t h) : Sat S c t h k := by
  refine ⟨fun B E w a hr ha => wpIn_mono (h1.out B E w a hr ha) ?_⟩
  rintro e a' w' ⟨E', t', h', z, g1, g2, g3, g4, t2, cs, cs', e', g5, g6, g7, g8⟩
  rw [getO_eq] at g6
  exact ⟨E', t2, _, z, g1, g2.weakVar g6 (fun us hu => WeakL.run g7 hu), ⟨WeakL.run g5 g3.1, g3.2⟩, g4, h2 _ _ _ g8⟩
theorem WeakL.vri {E : Env} : ∀ {cs cs' : List AV} {b o : Nat}, WeakL cs cs' → VRI E cs b o → VRI E cs' b o
  | [], [], _, _, _, _ => by simp only [VRI]
  | c :: cs, c' :: cs', b, o, hw, h => by
    simp only [VRI] at h ⊢
    obtain ⟨⟨u, hu, hv⟩, hr⟩ := h
    exact ⟨⟨u, hu, hw.1 E u hv⟩, WeakL.vri hw.2 hr⟩
  | [], _ :: _, _, _, hw, _ => hw.elim
  | _ :: _, [], _, _, hw, _ => hw.elim
theorem Weak.vec {cs cs' : List AV} {n : Nat} {g : Option Nat} (h : WeakL cs cs') : Weak (.vec cs n g) (.vec cs' n g) := fun E u hv => by
  simp only [VR] at hv ⊢
  obtain ⟨a, cap, h1, h2, h3, h4⟩ := hv
  refine ⟨a, cap, h1, h2, ?_, h4⟩
  rcases h3 with rfl | ⟨b, o, h5, h6⟩
  · cases cs' with
    | nil => exact .inl rfl
    | cons c l => exact h.elim
  · exact .inr ⟨b, o, h5, WeakL.vri h h6⟩
theorem WeakL.app : ∀ {a a' b b' : List AV}, WeakL a a' → WeakL b b' → WeakL (a ++ b) (a' ++ b')
  | [], [], _, _, _, h => h
  | _ :: _, _ :: _, _, _, h, k => ⟨h.1, WeakL.app h.2 k⟩
  | [], _ :: _, _, _, h, _ => h.elim
  | _ :: _, [], _, _, h, _ => h.elim
theorem WeakL.set : ∀ {l : List AV} (i : Nat) {a b : AV}, Weak a b → WeakL (l.set i a) (l.set i b)
  | [], _, _, _, _ => trivial
  | _ :: l, 0, _, _, h => ⟨h, WeakL.refl l⟩
  | _ :: _, i + 1, _, _, h => ⟨Weak.refl _, WeakL.set i h⟩
end Go.Abs
namespace Go.Proofs.YtjpaapkdbohgeaaDoor
open Go.Abs
def nextL : List Int := [2, 3, 0, 1, 2, 3, 0, 0, 2, 4, 6, 0, 5, 0, 0, 0, 5, 0, 6, 0, 5, 0, 6, 0, 8, 0, 0, 7, 8, 0, 0, 0, 8, 0, 0, 0]
def nextT (s : Nat) (k : Int) : Nat := (nextL[s * 4 + k.toNat]?.getD 0).toNat
def endsT (s : Nat) : Bool := s == 2 || s == 4 || s == 5 || s == 8
def stopT (signed : Bool) (st : Nat) (k : Int) : Bool := decide (k < 0) || (decide (k = 3) && decide (st = 0) && !signed) || decide (nextT st k = 0)
def dfa (signed : Bool) : Nat → List UInt8 → Nat × Nat
  | st, [] => (0, st)
  | st, b :: l => if stopT signed st (kindN b.toNat) = true then (0, st) else ((dfa signed (nextT st (kindN b.toNat)) l).1 + 1, (dfa signed (nextT st (kindN b.toNat)) l).2)
theorem nextT_lt {s : Nat} {k : Int} (hs : s < 9) (hk : 0 ≤ k ∧ k < 4) : nextT s k < 9 := by
  obtain ⟨j, rfl⟩ := Int.eq_ofNat_of_zero_le hk.1
  have : ∀ s < 9, ∀ j < 4, nextT s ((j : Nat) : Int) < 9 := by decide
  exact this s hs j (by omega)
theorem next_ld {s : Nat} {k : Int} (hs : s < 9) (hk : 0 ≤ k ∧ k < 4) : partK false (dropL (dropL (ci .i64 nextL) (s * 4)) (k.toNat * 1)) 0 1 = some (.int .i64 (nextT s k)) := by
  obtain ⟨j, rfl⟩ := Int.eq_ofNat_of_zero_le hk.1
  have : ∀ s : Fin 9, ∀ j : Fin 4, partK false (dropL (dropL (ci .i64 nextL) (s.val * 4)) (j.val * 1)) 0 1 = some (.int .i64 (nextT s.val (j.val : Nat))) := by
    intro s j
    match s, j with
    | ⟨0, _⟩, ⟨0, _⟩ => rfl
    | ⟨0, _⟩, ⟨1, _⟩ => rfl
    | ⟨0, _⟩, ⟨2, _⟩ => rfl
    | ⟨0, _⟩, ⟨3, _⟩ => rfl
    | ⟨1, _⟩, ⟨0, _⟩ => rfl
    | ⟨1, _⟩, ⟨1, _⟩ => rfl
    | ⟨1, _⟩, ⟨2, _⟩ => rfl
    | ⟨1, _⟩, ⟨3, _⟩ => rfl
    | ⟨2, _⟩, ⟨0, _⟩ => rfl
    | ⟨2, _⟩, ⟨1, _⟩ => rfl
    | ⟨2, _⟩, ⟨2, _⟩ => rfl
    | ⟨2, _⟩, ⟨3, _⟩ => rfl
    | ⟨3, _⟩, ⟨0, _⟩ => rfl
    | ⟨3, _⟩, ⟨1, _⟩ => rfl
    | ⟨3, _⟩, ⟨2, _⟩ => rfl
    | ⟨3, _⟩, ⟨3, _⟩ => rfl
    | ⟨4, _⟩, ⟨0, _⟩ => rfl
    | ⟨4, _⟩, ⟨1, _⟩ => rfl
    | ⟨4, _⟩, ⟨2, _⟩ => rfl
    | ⟨4, _⟩, ⟨3, _⟩ => rfl
    | ⟨5, _⟩, ⟨0, _⟩ => rfl
    | ⟨5, _⟩, ⟨1, _⟩ => rfl
    | ⟨5, _⟩, ⟨2, _⟩ => rfl
    | ⟨5, _⟩, ⟨3, _⟩ => rfl
    | ⟨6, _⟩, ⟨0, _⟩ => rfl
    | ⟨6, _⟩, ⟨1, _⟩ => rfl
    | ⟨6, _⟩, ⟨2, _⟩ => rfl
    | ⟨6, _⟩, ⟨3, _⟩ => rfl
    | ⟨7, _⟩, ⟨0, _⟩ => rfl
    | ⟨7, _⟩, ⟨1, _⟩ => rfl
    | ⟨7, _⟩, ⟨2, _⟩ => rfl
    | ⟨7, _⟩, ⟨3, _⟩ => rfl
    | ⟨8, _⟩, ⟨0, _⟩ => rfl
    | ⟨8, _⟩, ⟨1, _⟩ => rfl
    | ⟨8, _⟩, ⟨2, _⟩ => rfl
    | ⟨8, _⟩, ⟨3, _⟩ => rfl
  exact this ⟨s, hs⟩ ⟨j, by omega⟩
theorem ends_ld {s : Nat} (hs : s < 9) : partK false (dropL (ci .i64 [0, 0, 1, 0, 1, 1, 0, 0, 1]) (s * 1)) 0 1 = some (.int .i64 (if endsT s then 1 else 0)) := by
  have : ∀ s : Fin 9, partK false (dropL (ci .i64 [0, 0, 1, 0, 1, 1, 0, 0, 1]) (s.val * 1)) 0 1 = some (.int .i64 (if endsT s.val then 1 else 0)) := by
    intro s
    match s with
    | ⟨0, _⟩ => rfl
    | ⟨1, _⟩ => rfl
    | ⟨2, _⟩ => rfl
    | ⟨3, _⟩ => rfl
    | ⟨4, _⟩ => rfl
    | ⟨5, _⟩ => rfl
    | ⟨6, _⟩ => rfl
    | ⟨7, _⟩ => rfl
    | ⟨8, _⟩ => rfl
  exact this ⟨s, hs⟩
theorem kindN_range (n : Int) : kindN n = -1 ∨ (0 ≤ kindN n ∧ kindN n < 4) := by rcases kindN_cases n with h | h | h | h | h <;> omega
theorem dfa_le (sg : Bool) : ∀ (l : List UInt8) (st : Nat), st < 9 → (dfa sg st l).1 ≤ l.length ∧ (dfa sg st l).2 < 9
  | [], st, h => ⟨Nat.le_refl _, h⟩
  | b :: l, st, h => by
    unfold dfa
    split
    · exact ⟨Nat.zero_le _, h⟩
    · rename_i g
      have hk : 0 ≤ kindN b.toNat ∧ kindN b.toNat < 4 := by
        rcases kindN_range b.toNat with h | h
        · exact absurd (by simp [stopT, h]) g
        · exact h
      have := dfa_le sg l _ (nextT_lt h hk)
      exact ⟨by simp; omega, this.2⟩
set_option maxRecDepth 20000 in
theorem c_dscan (s : List UInt8) (at' : Int) (sg : Bool) (hl : s.length < 4611686018427387904) : ACalls seat 77 [.str s, .int .i64 at', .bool sg] [] (fun x _ => x = .ret (if at' < 0 ∨ s.length < at' then .tup [.int .i64 0, .bool false] else .tup [.int .i64 (at' + (dfa sg 0 (s.drop at'.toNat)).1), .bool (endsT (dfa sg 0 (s.drop at'.toNat)).2)])) := by
  refine ACalls.body seat_ok Tryd.func77 rfl rfl ?_
  by_cases g : at' < 0 ∨ s.length < at'
  · rw [if_pos g]
    by_cases g1 : at' < 0
    · conv => whnf
      refine Sat.scope seat_ok ?_
      conv => whnf
      repeat' ((first | refine zq1 (by omega) ?_ | refine zq2 (by omega) ?_ | refine NumH.rem (by omega) ?_ | refine zq4 (by omega) ?_ | refine zq5 (by omega) ?_ | refine zq6 ?_ | refine Req.mk (by omega) ?_ | refine Req.mk (by dsimp only; omega) ?_ | refine Req.mk (show pendP _ _ by repeat' constructor) ?_ | (with_reducible first | refine brT (by assumption) ?_ | refine brF (by assumption) ?_ | refine brDT (by omega) ?_ | refine brDF (by omega) ?_ | refine brET (by omega) ?_ | refine brEF (by omega) ?_ | refine brNET (by omega) ?_ | refine brNEF (by omega) ?_ | refine brNot ?_)); conv => whnf)
      rfl
    · have g2 : (s.length : Int) < at' := by omega
      conv => whnf
      refine Sat.scope seat_ok ?_
      conv => whnf
      repeat' ((first | refine zq1 (by omega) ?_ | refine zq2 (by omega) ?_ | refine NumH.rem (by omega) ?_ | refine zq4 (by omega) ?_ | refine zq5 (by omega) ?_ | refine zq6 ?_ | refine Req.mk (by omega) ?_ | refine Req.mk (by dsimp only; omega) ?_ | refine Req.mk (show pendP _ _ by repeat' constructor) ?_ | (with_reducible first | refine brT (by assumption) ?_ | refine brF (by assumption) ?_ | refine brDT (by omega) ?_ | refine brDF (by omega) ?_ | refine brET (by omega) ?_ | refine brEF (by omega) ?_ | refine brNET (by omega) ?_ | refine brNEF (by omega) ?_ | refine brNot ?_)); conv => whnf)
      rfl
  rw [if_neg g]
  obtain ⟨p0, rfl⟩ : ∃ p0 : Nat, at' = p0 := ⟨at'.toNat, by omega⟩
  rw [Int.toNat_natCast]
  have g1 : ¬ ((p0 : Int) < 0) := by omega
  have g2 : ¬ ((s.length : Int) < p0) := by omega
  obtain ⟨n, f, hd⟩ : ∃ n f, dfa sg 0 (s.drop p0) = (n, f) := ⟨_, _, rfl⟩
  have hf : f < 9 := by have := (dfa_le sg (s.drop p0) 0 (by omega)).2; rw [hd] at this; exact this
  rw [hd]
  conv => whnf
  refine Sat.scope seat_ok ?_
  conv => whnf
  repeat' ((first | refine zq1 (by omega) ?_ | refine zq2 (by omega) ?_ | refine NumH.rem (by omega) ?_ | refine zq4 (by omega) ?_ | refine zq5 (by omega) ?_ | refine zq6 ?_ | refine Req.mk (by omega) ?_ | refine Req.mk (by dsimp only; omega) ?_ | refine Req.mk (show pendP _ _ by repeat' constructor) ?_ | (with_reducible first | refine brT (by assumption) ?_ | refine brF (by assumption) ?_ | refine brDT (by omega) ?_ | refine brDF (by omega) ?_ | refine brET (by omega) ?_ | refine brEF (by omega) ?_ | refine brNET (by omega) ?_ | refine brNEF (by omega) ?_ | refine brNot ?_)); conv => whnf)
  refine Sat.cut (fun x t h => x = .exit 0 ∧ t = (uu::.int .i64 (p0 + n)::uu::uu::uu::uu::uu::uu::.int .i64 f::uu::uu::uu::uu::uu::uu::uu::uu::uu::uu::uu::uu::uu::uu::uu::uu::uu::uu::uu::uu::uu::uu::uu::uu::uu::uu::uu::uu::uu::uu::uu::uu::uu::uu::uu::uu::uu::uu::uu::uu::uu::uu::uu::uu::uu::uu::uu::uu::[]) ∧ h = []) ?_ ?_
  · refine Sat.invP seat_ok seat_g (maskOf 57 [0, 1, 2, 8]) 0 (fun μ t h => ∃ (p st : Nat), p ≤ s.length ∧ p0 ≤ p ∧ st < 9 ∧ dfa sg st (s.drop p) = (p0 + n - p, f) ∧ p ≤ p0 + n ∧ μ = s.length - p ∧
      t = (.str s::.int .i64 p::.bool sg::uu::uu::uu::uu::uu::.int .i64 st::uu::uu::uu::uu::uu::uu::uu::uu::uu::uu::uu::uu::uu::uu::uu::uu::uu::uu::uu::uu::uu::uu::uu::uu::uu::uu::uu::uu::uu::uu::uu::uu::uu::uu::uu::uu::uu::uu::uu::uu::uu::uu::uu::uu::uu::uu::uu::uu::[]) ∧ h = []) ?_ ⟨_, _, WeakL.of_eq rfl, p0, 0, by omega, by omega, by omega, by rw [hd]; congr 1; omega, by omega, rfl, rfl, rfl⟩ ?_
    · rintro _ _ _ ⟨p, st, -, -, -, -, -, -, rfl, rfl⟩
      exact ⟨rfl, (by simp [IdsL, Ids, IdsH, IdsC, lv_ids, ci_ids]), (by simp [IdsL, Ids, IdsH, IdsC, lv_ids, ci_ids])⟩
    rintro _ _ _ ⟨p, st, hp, hp0, hst, hdf, hpn, rfl, rfl, rfl⟩
    by_cases g : p < s.length
    · obtain ⟨b, hb⟩ : ∃ b, s[p]? = some b := ⟨_, List.getElem?_eq_getElem g⟩
      have hdr := drop_cons' hb
      rw [hdr] at hdf
      have ck := c_kind b.toNat
      unfold dfa at hdf
      have hkr := kindN_range b.toNat
      generalize kindN b.toNat = k at *
      have eb : (s[(p : Int).toNat]?) = some b := hb
      by_cases hs : stopT sg st k = true
      · rw [if_pos hs] at hdf
        simp only [Prod.mk.injEq] at hdf
        obtain ⟨h1, rfl⟩ := hdf
        obtain rfl : p = p0 + n := by omega
        have e : ((p0 + n : Nat) : Int) = p0 + n := by omega
        rw [← e]
        rcases hkr with hk | hk
        · conv => whnf
          repeat' (first | exact ⟨_, keepT_weak (maskOf 57 [1, 8]) _, rfl, rfl, rfl⟩ | (refine ldI _ eb ?_; conv => whnf) | (refine CallH.lift seat_g ck (by simp [Closed, ClosedL]) (by simp [Closed]) ?_; conv => whnf) | ((first | refine zq1 (by omega) ?_ | refine zq2 (by omega) ?_ | refine NumH.rem (by omega) ?_ | refine zq4 (by omega) ?_ | refine zq5 (by omega) ?_ | refine zq6 ?_ | refine Req.mk (by omega) ?_ | refine Req.mk (by dsimp only; omega) ?_ | refine Req.mk (show pendP _ _ by repeat' constructor) ?_ | (with_reducible first | refine brT (by assumption) ?_ | refine brF (by assumption) ?_ | refine brDT (by omega) ?_ | refine brDF (by omega) ?_ | refine brET (by omega) ?_ | refine brEF (by omega) ?_ | refine brNET (by omega) ?_ | refine brNEF (by omega) ?_ | refine brNot ?_)); conv => whnf))
        · have hn := next_ld hst hk
          have hk0 : ¬ k < 0 := by omega
          by_cases hz : nextT st k = 0
          · rw [hz] at hn
            by_cases h3 : k = 3
            · by_cases h0 : (st : Int) = 0
              · cases sg
                · conv => whnf
                  repeat' (first | exact ⟨_, keepT_weak (maskOf 57 [1, 8]) _, rfl, rfl, rfl⟩ | (refine ldI _ eb ?_; conv => whnf) | (refine CallH.lift seat_g ck (by simp [Closed, ClosedL]) (by simp [Closed]) ?_; conv => whnf) | (refine ldI _ hn ?_; conv => whnf) | ((first | refine zq1 (by omega) ?_ | refine zq2 (by omega) ?_ | refine NumH.rem (by omega) ?_ | refine zq4 (by omega) ?_ | refine zq5 (by omega) ?_ | refine zq6 ?_ | refine Req.mk (by omega) ?_ | refine Req.mk (by dsimp only; omega) ?_ | refine Req.mk (show pendP _ _ by repeat' constructor) ?_ | (with_reducible first | refine brT (by assumption) ?_ | refine brF (by assumption) ?_ | refine brDT (by omega) ?_ | refine brDF (by omega) ?_ | refine brET (by omega) ?_ | refine brEF (by omega) ?_ | refine brNET (by omega) ?_ | refine brNEF (by omega) ?_ | refine brNot ?_)); conv => whnf))
                · conv => whnf
                  repeat' (first | exact ⟨_, keepT_weak (maskOf 57 [1, 8]) _, rfl, rfl, rfl⟩ | (refine ldI _ eb ?_; conv => whnf) | (refine CallH.lift seat_g ck (by simp [Closed, ClosedL]) (by simp [Closed]) ?_; conv => whnf) | (refine ldI _ hn ?_; conv => whnf) | ((first | refine zq1 (by omega) ?_ | refine zq2 (by omega) ?_ | refine NumH.rem (by omega) ?_ | refine zq4 (by omega) ?_ | refine zq5 (by omega) ?_ | refine zq6 ?_ | refine Req.mk (by omega) ?_ | refine Req.mk (by dsimp only; omega) ?_ | refine Req.mk (show pendP _ _ by repeat' constructor) ?_ | (with_reducible first | refine brT (by assumption) ?_ | refine brF (by assumption) ?_ | refine brDT (by omega) ?_ | refine brDF (by omega) ?_ | refine brET (by omega) ?_ | refine brEF (by omega) ?_ | refine brNET (by omega) ?_ | refine brNEF (by omega) ?_ | refine brNot ?_)); conv => whnf))
              · conv => whnf
                repeat' (first | exact ⟨_, keepT_weak (maskOf 57 [1, 8]) _, rfl, rfl, rfl⟩ | (refine ldI _ eb ?_; conv => whnf) | (refine CallH.lift seat_g ck (by simp [Closed, ClosedL]) (by simp [Closed]) ?_; conv => whnf) | (refine ldI _ hn ?_; conv => whnf) | ((first | refine zq1 (by omega) ?_ | refine zq2 (by omega) ?_ | refine NumH.rem (by omega) ?_ | refine zq4 (by omega) ?_ | refine zq5 (by omega) ?_ | refine zq6 ?_ | refine Req.mk (by omega) ?_ | refine Req.mk (by dsimp only; omega) ?_ | refine Req.mk (show pendP _ _ by repeat' constructor) ?_ | (with_reducible first | refine brT (by assumption) ?_ | refine brF (by assumption) ?_ | refine brDT (by omega) ?_ | refine brDF (by omega) ?_ | refine brET (by omega) ?_ | refine brEF (by omega) ?_ | refine brNET (by omega) ?_ | refine brNEF (by omega) ?_ | refine brNot ?_)); conv => whnf))
            · conv => whnf
              repeat' (first | exact ⟨_, keepT_weak (maskOf 57 [1, 8]) _, rfl, rfl, rfl⟩ | (refine ldI _ eb ?_; conv => whnf) | (refine CallH.lift seat_g ck (by simp [Closed, ClosedL]) (by simp [Closed]) ?_; conv => whnf) | (refine ldI _ hn ?_; conv => whnf) | ((first | refine zq1 (by omega) ?_ | refine zq2 (by omega) ?_ | refine NumH.rem (by omega) ?_ | refine zq4 (by omega) ?_ | refine zq5 (by omega) ?_ | refine zq6 ?_ | refine Req.mk (by omega) ?_ | refine Req.mk (by dsimp only; omega) ?_ | refine Req.mk (show pendP _ _ by repeat' constructor) ?_ | (with_reducible first | refine brT (by assumption) ?_ | refine brF (by assumption) ?_ | refine brDT (by omega) ?_ | refine brDF (by omega) ?_ | refine brET (by omega) ?_ | refine brEF (by omega) ?_ | refine brNET (by omega) ?_ | refine brNEF (by omega) ?_ | refine brNot ?_)); conv => whnf))
          · have h30 : k = 3 ∧ st = 0 ∧ sg = false := by
              simp [stopT, hz] at hs
              rcases hs with h | ⟨⟨h1, h2⟩, h3⟩
              · omega
              · exact ⟨h1, h2, h3⟩
            obtain ⟨h3, h0, rfl⟩ := h30
            have h0 : (st : Int) = 0 := by omega
            conv => whnf
            repeat' (first | exact ⟨_, keepT_weak (maskOf 57 [1, 8]) _, rfl, rfl, rfl⟩ | (refine ldI _ eb ?_; conv => whnf) | (refine CallH.lift seat_g ck (by simp [Closed, ClosedL]) (by simp [Closed]) ?_; conv => whnf) | ((first | refine zq1 (by omega) ?_ | refine zq2 (by omega) ?_ | refine NumH.rem (by omega) ?_ | refine zq4 (by omega) ?_ | refine zq5 (by omega) ?_ | refine zq6 ?_ | refine Req.mk (by omega) ?_ | refine Req.mk (by dsimp only; omega) ?_ | refine Req.mk (show pendP _ _ by repeat' constructor) ?_ | (with_reducible first | refine brT (by assumption) ?_ | refine brF (by assumption) ?_ | refine brDT (by omega) ?_ | refine brDF (by omega) ?_ | refine brET (by omega) ?_ | refine brEF (by omega) ?_ | refine brNET (by omega) ?_ | refine brNEF (by omega) ?_ | refine brNot ?_)); conv => whnf))
      · rw [if_neg hs] at hdf
        have hk : 0 ≤ k ∧ k < 4 := by
          rcases hkr with h | h
          · exact absurd (by simp [stopT, h]) hs
          · exact h
        have hn := next_ld hst hk
        have hk0 : ¬ k < 0 := by omega
        have hlt := nextT_lt hst hk
        have hz : ((nextT st k : Nat) : Int) ≠ 0 := by
          intro h; apply hs; have h9 : nextT st k = 0 := by omega
          simp [stopT, h9]
        have hns : ¬ (k = 3 ∧ st = 0 ∧ sg = false) := by
          rintro ⟨h1, h2, h3⟩; apply hs; simp [stopT, h1, h2, h3]
        generalize nextT st k = st2 at *
        obtain ⟨hd1, hd2⟩ := Prod.mk.inj hdf
        have hinv : dfa sg st2 (s.drop (p + 1)) = (p0 + n - (p + 1), f) := by rw [← hd2]; exact Prod.ext (by simp only; omega) rfl
        by_cases h3 : k = 3
        · by_cases h0 : (st : Int) = 0
          · cases sg
            · exact absurd ⟨h3, by omega, rfl⟩ hns
            · conv => whnf
              repeat' (first | exact ⟨_, _, Nat.sub_lt_sub_left g (Nat.lt_succ_self p), WeakL.of_eq rfl, p + 1, st2, by omega, by omega, hlt, hinv, by omega, rfl, rfl, rfl⟩ | (refine ldI _ eb ?_; conv => whnf) | (refine CallH.lift seat_g ck (by simp [Closed, ClosedL]) (by simp [Closed]) ?_; conv => whnf) | (refine ldI _ hn ?_; conv => whnf) | ((first | refine zq1 (by omega) ?_ | refine zq2 (by omega) ?_ | refine NumH.rem (by omega) ?_ | refine zq4 (by omega) ?_ | refine zq5 (by omega) ?_ | refine zq6 ?_ | refine Req.mk (by omega) ?_ | refine Req.mk (by dsimp only; omega) ?_ | refine Req.mk (show pendP _ _ by repeat' constructor) ?_ | (with_reducible first | refine brT (by assumption) ?_ | refine brF (by assumption) ?_ | refine brDT (by omega) ?_ | refine brDF (by omega) ?_ | refine brET (by omega) ?_ | refine brEF (by omega) ?_ | refine brNET (by omega) ?_ | refine brNEF (by omega) ?_ | refine brNot ?_)); conv => whnf))
          · conv => whnf
            repeat' (first | exact ⟨_, _, Nat.sub_lt_sub_left g (Nat.lt_succ_self p), WeakL.of_eq rfl, p + 1, st2, by omega, by omega, hlt, hinv, by omega, rfl, rfl, rfl⟩ | (refine ldI _ eb ?_; conv => whnf) | (refine CallH.lift seat_g ck (by simp [Closed, ClosedL]) (by simp [Closed]) ?_; conv => whnf) | (refine ldI _ hn ?_; conv => whnf) | ((first | refine zq1 (by omega) ?_ | refine zq2 (by omega) ?_ | refine NumH.rem (by omega) ?_ | refine zq4 (by omega) ?_ | refine zq5 (by omega) ?_ | refine zq6 ?_ | refine Req.mk (by omega) ?_ | refine Req.mk (by dsimp only; omega) ?_ | refine Req.mk (show pendP _ _ by repeat' constructor) ?_ | (with_reducible first | refine brT (by assumption) ?_ | refine brF (by assumption) ?_ | refine brDT (by omega) ?_ | refine brDF (by omega) ?_ | refine brET (by omega) ?_ | refine brEF (by omega) ?_ | refine brNET (by omega) ?_ | refine brNEF (by omega) ?_ | refine brNot ?_)); conv => whnf))
        · conv => whnf
          repeat' (first | exact ⟨_, _, Nat.sub_lt_sub_left g (Nat.lt_succ_self p), WeakL.of_eq rfl, p + 1, st2, by omega, by omega, hlt, hinv, by omega, rfl, rfl, rfl⟩ | (refine ldI _ eb ?_; conv => whnf) | (refine CallH.lift seat_g ck (by simp [Closed, ClosedL]) (by simp [Closed]) ?_; conv => whnf) | (refine ldI _ hn ?_; conv => whnf) | ((first | refine zq1 (by omega) ?_ | refine zq2 (by omega) ?_ | refine NumH.rem (by omega) ?_ | refine zq4 (by omega) ?_ | refine zq5 (by omega) ?_ | refine zq6 ?_ | refine Req.mk (by omega) ?_ | refine Req.mk (by dsimp only; omega) ?_ | refine Req.mk (show pendP _ _ by repeat' constructor) ?_ | (with_reducible first | refine brT (by assumption) ?_ | refine brF (by assumption) ?_ | refine brDT (by omega) ?_ | refine brDF (by omega) ?_ | refine brET (by omega) ?_ | refine brEF (by omega) ?_ | refine brNET (by omega) ?_ | refine brNEF (by omega) ?_ | refine brNot ?_)); conv => whnf))
    · rw [List.drop_eq_nil_of_le (by omega)] at hdf
      simp only [dfa, Prod.mk.injEq] at hdf
      obtain ⟨h1, rfl⟩ := hdf
      obtain rfl : p = p0 + n := by omega
      have e : ((p0 + n : Nat) : Int) = p0 + n := by omega
      rw [← e]
      conv => whnf
      repeat' ((first | refine zq1 (by omega) ?_ | refine zq2 (by omega) ?_ | refine NumH.rem (by omega) ?_ | refine zq4 (by omega) ?_ | refine zq5 (by omega) ?_ | refine zq6 ?_ | refine Req.mk (by omega) ?_ | refine Req.mk (by dsimp only; omega) ?_ | refine Req.mk (show pendP _ _ by repeat' constructor) ?_ | (with_reducible first | refine brT (by assumption) ?_ | refine brF (by assumption) ?_ | refine brDT (by omega) ?_ | refine brDF (by omega) ?_ | refine brET (by omega) ?_ | refine brEF (by omega) ?_ | refine brNET (by omega) ?_ | refine brNEF (by omega) ?_ | refine brNot ?_)); conv => whnf)
      exact ⟨_, keepT_weak (maskOf 57 [1, 8]) _, rfl, rfl, rfl⟩
  · rintro _ _ _ ⟨rfl, rfl, rfl⟩
    have he := ends_ld hf
    have hb : ((if endsT f then (1 : Int) else 0) == 1) = endsT f := by cases endsT f <;> rfl
    conv => whnf
    refine DrawH.plan seat_ok (.take 0 (.take 1 (.take 2 (.take 3 (.take 4 (.take 5 (.take 6 Plan.done))))))) 0 (by kernel_rfl) ?_
    conv => whnf
    repeat' (first | exact congrArg (fun b => AEnd.ret (.tup [.int .i64 (p0 + n), .bool b])) hb | (refine ldI _ he ?_; conv => whnf) | ((first | refine zq1 (by omega) ?_ | refine zq2 (by omega) ?_ | refine NumH.rem (by omega) ?_ | refine zq4 (by omega) ?_ | refine zq5 (by omega) ?_ | refine zq6 ?_ | refine Req.mk (by omega) ?_ | refine Req.mk (by dsimp only; omega) ?_ | refine Req.mk (show pendP _ _ by repeat' constructor) ?_ | (with_reducible first | refine brT (by assumption) ?_ | refine brF (by assumption) ?_ | refine brDT (by omega) ?_ | refine brDF (by omega) ?_ | refine brET (by omega) ?_ | refine brEF (by omega) ?_ | refine brNET (by omega) ?_ | refine brNEF (by omega) ?_ | refine brNot ?_)); conv => whnf) | (refine And.intro ?_ ?_ <;> (conv => whnf)))
end Go.Proofs.YtjpaapkdbohgeaaDoor
namespace Go.Proofs.YtjpaapkdbohgeaaDoor
open Go.Abs
def kd : List UInt8 → Int
  | [] => -1
  | b :: _ => kindN b.toNat
def runN : List UInt8 → Nat
  | [] => 0
  | b :: l => if kindN b.toNat = 0 then runN l + 1 else 0
theorem runN_le : ∀ l, runN l ≤ l.length
  | [] => Nat.le_refl _
  | b :: l => by
    have := runN_le l
    unfold runN; split
    · simp; omega
    · exact Nat.zero_le _
theorem kd_none {s : List UInt8} {p : Nat} (h : s.length ≤ p) : kd (s.drop p) = -1 := by rw [List.drop_eq_nil_of_le h]; rfl
theorem kd_some {s : List UInt8} {p : Nat} {b : UInt8} (h : s[p]? = some b) : kd (s.drop p) = kindN b.toNat := by rw [drop_cons' h]; rfl
theorem c_rdigit (s : List UInt8) (p : Nat) : ACalls seat 79 [.str s, .int .i64 p] [] (fun x _ => x = .ret (.bool (decide (kd (s.drop p) = 0)))) := by
  refine ACalls.body seat_ok Tryd.func79 rfl rfl ?_
  by_cases g : p < s.length
  · obtain ⟨b, hb⟩ : ∃ b, s[p]? = some b := ⟨_, List.getElem?_eq_getElem g⟩
    have eb : (s[(p : Int).toNat]?) = some b := hb
    rw [kd_some hb]
    have hc := kindN_cases b.toNat
    by_cases h1 : 48 ≤ (b.toNat : Int)
    · by_cases h2 : (b.toNat : Int) ≤ 57
      · rw [decide_eq_true (by omega)]
        clear hc
        conv => whnf
        repeat' (first | exact rfl | (refine ldI _ eb ?_; conv => whnf) | ((first | refine zq1 (by omega) ?_ | refine zq2 (by omega) ?_ | refine NumH.rem (by omega) ?_ | refine zq4 (by omega) ?_ | refine zq5 (by omega) ?_ | refine zq6 ?_ | refine Req.mk (by omega) ?_ | refine Req.mk (by dsimp only; omega) ?_ | refine Req.mk (show pendP _ _ by repeat' constructor) ?_ | (with_reducible first | refine brT (by assumption) ?_ | refine brF (by assumption) ?_ | refine brDT (by omega) ?_ | refine brDF (by omega) ?_ | refine brET (by omega) ?_ | refine brEF (by omega) ?_ | refine brNET (by omega) ?_ | refine brNEF (by omega) ?_ | refine brNot ?_)); conv => whnf))
        exact congrArg (fun b => AEnd.ret (.bool b)) (decide_eq_true h2)
      · rw [decide_eq_false (by omega)]
        clear hc
        conv => whnf
        repeat' (first | exact rfl | (refine ldI _ eb ?_; conv => whnf) | ((first | refine zq1 (by omega) ?_ | refine zq2 (by omega) ?_ | refine NumH.rem (by omega) ?_ | refine zq4 (by omega) ?_ | refine zq5 (by omega) ?_ | refine zq6 ?_ | refine Req.mk (by omega) ?_ | refine Req.mk (by dsimp only; omega) ?_ | refine Req.mk (show pendP _ _ by repeat' constructor) ?_ | (with_reducible first | refine brT (by assumption) ?_ | refine brF (by assumption) ?_ | refine brDT (by omega) ?_ | refine brDF (by omega) ?_ | refine brET (by omega) ?_ | refine brEF (by omega) ?_ | refine brNET (by omega) ?_ | refine brNEF (by omega) ?_ | refine brNot ?_)); conv => whnf))
        exact congrArg (fun b => AEnd.ret (.bool b)) (decide_eq_false h2)
    · rw [decide_eq_false (by omega)]
      clear hc
      conv => whnf
      repeat' (first | exact rfl | (refine ldI _ eb ?_; conv => whnf) | ((first | refine zq1 (by omega) ?_ | refine zq2 (by omega) ?_ | refine NumH.rem (by omega) ?_ | refine zq4 (by omega) ?_ | refine zq5 (by omega) ?_ | refine zq6 ?_ | refine Req.mk (by omega) ?_ | refine Req.mk (by dsimp only; omega) ?_ | refine Req.mk (show pendP _ _ by repeat' constructor) ?_ | (with_reducible first | refine brT (by assumption) ?_ | refine brF (by assumption) ?_ | refine brDT (by omega) ?_ | refine brDF (by omega) ?_ | refine brET (by omega) ?_ | refine brEF (by omega) ?_ | refine brNET (by omega) ?_ | refine brNEF (by omega) ?_ | refine brNot ?_)); conv => whnf))
  · rw [kd_none (by omega)]
    conv => whnf
    repeat' ((first | refine zq1 (by omega) ?_ | refine zq2 (by omega) ?_ | refine NumH.rem (by omega) ?_ | refine zq4 (by omega) ?_ | refine zq5 (by omega) ?_ | refine zq6 ?_ | refine Req.mk (by omega) ?_ | refine Req.mk (by dsimp only; omega) ?_ | refine Req.mk (show pendP _ _ by repeat' constructor) ?_ | (with_reducible first | refine brT (by assumption) ?_ | refine brF (by assumption) ?_ | refine brDT (by omega) ?_ | refine brDF (by omega) ?_ | refine brET (by omega) ?_ | refine brEF (by omega) ?_ | refine brNET (by omega) ?_ | refine brNEF (by omega) ?_ | refine brNot ?_)); conv => whnf)
    rfl
theorem c_rsign (s : List UInt8) (p : Nat) : ACalls seat 66 [.str s, .int .i64 p] [] (fun x _ => x = .ret (.bool (decide (kd (s.drop p) = 3)))) := by
  refine ACalls.body seat_ok Tryd.func66 rfl rfl ?_
  by_cases g : p < s.length
  · obtain ⟨b, hb⟩ : ∃ b, s[p]? = some b := ⟨_, List.getElem?_eq_getElem g⟩
    have eb : (s[(p : Int).toNat]?) = some b := hb
    rw [kd_some hb]
    have hc := kindN_cases b.toNat
    by_cases h1 : (b.toNat : Int) = 43
    · rw [decide_eq_true (by omega)]
      clear hc
      conv => whnf
      repeat' (first | exact rfl | (refine ldI _ eb ?_; conv => whnf) | ((first | refine zq1 (by omega) ?_ | refine zq2 (by omega) ?_ | refine NumH.rem (by omega) ?_ | refine zq4 (by omega) ?_ | refine zq5 (by omega) ?_ | refine zq6 ?_ | refine Req.mk (by omega) ?_ | refine Req.mk (by dsimp only; omega) ?_ | refine Req.mk (show pendP _ _ by repeat' constructor) ?_ | (with_reducible first | refine brT (by assumption) ?_ | refine brF (by assumption) ?_ | refine brDT (by omega) ?_ | refine brDF (by omega) ?_ | refine brET (by omega) ?_ | refine brEF (by omega) ?_ | refine brNET (by omega) ?_ | refine brNEF (by omega) ?_ | refine brNot ?_)); conv => whnf))
    · by_cases h2 : (b.toNat : Int) = 45
      · rw [decide_eq_true (by omega)]
        clear hc
        conv => whnf
        repeat' (first | exact rfl | (refine ldI _ eb ?_; conv => whnf) | ((first | refine zq1 (by omega) ?_ | refine zq2 (by omega) ?_ | refine NumH.rem (by omega) ?_ | refine zq4 (by omega) ?_ | refine zq5 (by omega) ?_ | refine zq6 ?_ | refine Req.mk (by omega) ?_ | refine Req.mk (by dsimp only; omega) ?_ | refine Req.mk (show pendP _ _ by repeat' constructor) ?_ | (with_reducible first | refine brT (by assumption) ?_ | refine brF (by assumption) ?_ | refine brDT (by omega) ?_ | refine brDF (by omega) ?_ | refine brET (by omega) ?_ | refine brEF (by omega) ?_ | refine brNET (by omega) ?_ | refine brNEF (by omega) ?_ | refine brNot ?_)); conv => whnf))
        exact congrArg (fun b => AEnd.ret (.bool b)) (show ((b.toNat : Int) == 45) = true by simpa using h2)
      · rw [decide_eq_false (by omega)]
        clear hc
        conv => whnf
        repeat' (first | exact rfl | (refine ldI _ eb ?_; conv => whnf) | ((first | refine zq1 (by omega) ?_ | refine zq2 (by omega) ?_ | refine NumH.rem (by omega) ?_ | refine zq4 (by omega) ?_ | refine zq5 (by omega) ?_ | refine zq6 ?_ | refine Req.mk (by omega) ?_ | refine Req.mk (by dsimp only; omega) ?_ | refine Req.mk (show pendP _ _ by repeat' constructor) ?_ | (with_reducible first | refine brT (by assumption) ?_ | refine brF (by assumption) ?_ | refine brDT (by omega) ?_ | refine brDF (by omega) ?_ | refine brET (by omega) ?_ | refine brEF (by omega) ?_ | refine brNET (by omega) ?_ | refine brNEF (by omega) ?_ | refine brNot ?_)); conv => whnf))
        exact congrArg (fun b => AEnd.ret (.bool b)) (show ((b.toNat : Int) == 45) = false by simpa using h2)
  · rw [kd_none (by omega)]
    conv => whnf
    repeat' ((first | refine zq1 (by omega) ?_ | refine zq2 (by omega) ?_ | refine NumH.rem (by omega) ?_ | refine zq4 (by omega) ?_ | refine zq5 (by omega) ?_ | refine zq6 ?_ | refine Req.mk (by omega) ?_ | refine Req.mk (by dsimp only; omega) ?_ | refine Req.mk (show pendP _ _ by repeat' constructor) ?_ | (with_reducible first | refine brT (by assumption) ?_ | refine brF (by assumption) ?_ | refine brDT (by omega) ?_ | refine brDF (by omega) ?_ | refine brET (by omega) ?_ | refine brEF (by omega) ?_ | refine brNET (by omega) ?_ | refine brNEF (by omega) ?_ | refine brNot ?_)); conv => whnf)
    rfl
set_option maxRecDepth 20000 in
theorem c_run (s : List UInt8) (p : Nat) (hl : s.length ≤ 1000000) (hp : p ≤ 1000000) : ACalls seat 67 [.str s, .int .i64 p] [] (fun x _ => x = .ret (.int .i64 ((p + runN (s.drop p) : Nat)))) := by
  refine ACalls.body seat_ok Tryd.func67 rfl rfl ?_
  conv => whnf
  refine Sat.cut (fun x t h => x = .exit 0 ∧ t = (uu::.int .i64 ((p + runN (s.drop p) : Nat) : Int)::uu::uu::uu::uu::uu::uu::uu::uu::uu::[])) ?_ ?_
  · refine Sat.invP seat_ok seat_g (maskOf 11 [0, 1]) 0 (fun μ t h => ∃ (q : Nat), p ≤ q ∧ q + runN (s.drop q) = p + runN (s.drop p) ∧ (q ≤ s.length ∨ q = p) ∧ μ = s.length + p - q ∧ t = (.str s::.int .i64 q::uu::uu::uu::uu::uu::uu::uu::uu::uu::[]) ∧ h = []) ?_ ⟨_, _, WeakL.of_eq rfl, p, by omega, rfl, .inr rfl, rfl, rfl, rfl⟩ ?_
    · rintro _ _ _ ⟨q, -, -, -, -, rfl, rfl⟩
      exact ⟨rfl, (by simp [IdsL, Ids, IdsH, IdsC, lv_ids, ci_ids]), (by simp [IdsL, Ids, IdsH, IdsC, lv_ids, ci_ids])⟩
    rintro _ _ _ ⟨q, hq, hr, hql, rfl, rfl, rfl⟩
    have cd := c_rdigit s q
    by_cases g : kd (s.drop q) = 0
    · have g2 : q < s.length := by
        apply Nat.lt_of_not_le; intro h; rw [kd_none h] at g; omega
      obtain ⟨b, hb⟩ : ∃ b, s[q]? = some b := ⟨_, List.getElem?_eq_getElem g2⟩
      rw [decide_eq_true g] at cd
      rw [kd_some hb] at g
      have hr2 : q + 1 + runN (s.drop (q + 1)) = p + runN (s.drop p) := by
        rw [← hr, drop_cons' hb]; unfold runN; rw [if_pos g]
        cases s.drop (q + 1) <;> simp [runN] <;> omega
      conv => whnf
      repeat' (first | exact ⟨_, _, by omega, WeakL.of_eq rfl, q + 1, by omega, hr2, .inl (by omega), rfl, rfl, rfl⟩ | (refine CallH.lift seat_g cd (by simp [Closed, ClosedL]) (by simp [Closed]) ?_; conv => whnf) | ((first | refine zq1 (by omega) ?_ | refine zq2 (by omega) ?_ | refine NumH.rem (by omega) ?_ | refine zq4 (by omega) ?_ | refine zq5 (by omega) ?_ | refine zq6 ?_ | refine Req.mk (by omega) ?_ | refine Req.mk (by dsimp only; omega) ?_ | refine Req.mk (show pendP _ _ by repeat' constructor) ?_ | (with_reducible first | refine brT (by assumption) ?_ | refine brF (by assumption) ?_ | refine brDT (by omega) ?_ | refine brDF (by omega) ?_ | refine brET (by omega) ?_ | refine brEF (by omega) ?_ | refine brNET (by omega) ?_ | refine brNEF (by omega) ?_ | refine brNot ?_)); conv => whnf))
    · rw [decide_eq_false g] at cd
      have hz : runN (s.drop q) = 0 := by
        by_cases g2 : q < s.length
        · obtain ⟨b, hb⟩ : ∃ b, s[q]? = some b := ⟨_, List.getElem?_eq_getElem g2⟩
          rw [kd_some hb] at g
          rw [drop_cons' hb]; unfold runN; rw [if_neg g]
        · rw [List.drop_eq_nil_of_le (by omega)]; rfl
      rw [hz, Nat.add_zero] at hr
      rw [← hr]
      conv => whnf
      repeat' (first | exact ⟨_, keepT_weak (maskOf 11 [1]) _, rfl, rfl⟩ | (refine CallH.lift seat_g cd (by simp [Closed, ClosedL]) (by simp [Closed]) ?_; conv => whnf) | ((first | refine zq1 (by omega) ?_ | refine zq2 (by omega) ?_ | refine NumH.rem (by omega) ?_ | refine zq4 (by omega) ?_ | refine zq5 (by omega) ?_ | refine zq6 ?_ | refine Req.mk (by omega) ?_ | refine Req.mk (by dsimp only; omega) ?_ | refine Req.mk (show pendP _ _ by repeat' constructor) ?_ | (with_reducible first | refine brT (by assumption) ?_ | refine brF (by assumption) ?_ | refine brDT (by omega) ?_ | refine brDF (by omega) ?_ | refine brET (by omega) ?_ | refine brEF (by omega) ?_ | refine brNET (by omega) ?_ | refine brNEF (by omega) ?_ | refine brNot ?_)); conv => whnf))
  · rintro _ _ _ ⟨rfl, rfl⟩
    conv => whnf
    rfl
def eR (sm : Bool) (l : List UInt8) (i : Nat) : Nat × Bool :=
  if sm = false then (i, false)
  else if kd (l.drop i) = 2 then
    let j := if kd (l.drop (i + 1)) = 3 then i + 1 + 1 else i + 1
    (j + runN (l.drop j), decide (0 < runN (l.drop j)))
  else (i, true)
def ptR (l : List UInt8) (i : Nat) : Nat × Bool :=
  let a := i + runN (l.drop i)
  if kd (l.drop a) = 1 then eR (decide (0 < runN (l.drop i)) || decide (0 < runN (l.drop (a + 1)))) l (a + 1 + runN (l.drop (a + 1)))
  else eR (decide (0 < runN (l.drop i))) l a
def scR (sg : Bool) (l : List UInt8) (p : Nat) : Nat × Bool := ptR l (if sg = true ∧ kd (l.drop p) = 3 then p + 1 else p)
theorem kd_ne {s : List UInt8} {p : Nat} (h : kd (s.drop p) ≠ -1) : p < s.length := by
  apply Nat.lt_of_not_le; intro h2; exact h (kd_none h2)
theorem runIn (s : List UInt8) (p : Nat) (h : p ≤ s.length) : p + runN (s.drop p) ≤ s.length := by
  have := runN_le (s.drop p); rw [List.length_drop] at this; omega
theorem eB_cases {s : List UInt8} {p : Nat} : (kd (s.drop p) = 2 ∧ ∃ b, p < s.length ∧ s[p]? = some b ∧ ((b.toNat : Int) = 101 ∨ ((b.toNat : Int) ≠ 101 ∧ (b.toNat : Int) = 69))) ∨ (kd (s.drop p) ≠ 2 ∧ (s.length ≤ p ∨ ∃ b, p < s.length ∧ s[p]? = some b ∧ (b.toNat : Int) ≠ 101 ∧ (b.toNat : Int) ≠ 69)) := by
  by_cases g : p < s.length
  · obtain ⟨b, hb⟩ : ∃ b, s[p]? = some b := ⟨_, List.getElem?_eq_getElem g⟩
    rw [kd_some hb]
    have hc := kindN_cases b.toNat
    by_cases h : kindN b.toNat = 2
    · exact .inl ⟨h, b, g, hb, by omega⟩
    · exact .inr ⟨h, .inr ⟨b, g, hb, by omega⟩⟩
  · rw [kd_none (by omega)]
    exact .inr ⟨by omega, .inl (by omega)⟩
theorem dotB_cases {s : List UInt8} {p : Nat} : (kd (s.drop p) = 1 ∧ ∃ b, p < s.length ∧ s[p]? = some b ∧ (b.toNat : Int) = 46) ∨ (kd (s.drop p) ≠ 1 ∧ (s.length ≤ p ∨ ∃ b, p < s.length ∧ s[p]? = some b ∧ (b.toNat : Int) ≠ 46)) := by
  by_cases g : p < s.length
  · obtain ⟨b, hb⟩ : ∃ b, s[p]? = some b := ⟨_, List.getElem?_eq_getElem g⟩
    rw [kd_some hb]
    have hc := kindN_cases b.toNat
    by_cases h : kindN b.toNat = 1
    · exact .inl ⟨h, b, g, hb, by omega⟩
    · exact .inr ⟨h, .inr ⟨b, g, hb, by omega⟩⟩
  · rw [kd_none (by omega)]
    exact .inr ⟨by omega, .inl (by omega)⟩
end Go.Proofs.YtjpaapkdbohgeaaDoor
namespace Go.Proofs.YtjpaapkdbohgeaaDoor
open Go.Abs
def ans (sg : Bool) (st : Nat) (l : List UInt8) : Nat × Bool := ((dfa sg st l).1, endsT (dfa sg st l).2)
theorem ans_stop {sg : Bool} {st : Nat} {b : UInt8} {l : List UInt8} {k : Int} (hk : kindN b.toNat = k) (h : stopT sg st k = true) : ans sg st (b :: l) = (0, endsT st) := by
  unfold ans dfa; rw [hk, if_pos h]
theorem ans_step {sg : Bool} {st : Nat} {b : UInt8} {l : List UInt8} {k : Int} (hk : kindN b.toNat = k) (h : stopT sg st k = false) : ans sg st (b :: l) = ((ans sg (nextT st k) l).1 + 1, (ans sg (nextT st k) l).2) := by
  unfold ans; rw [dfa, hk, if_neg (by rw [h]; decide)]
theorem runN_0 {b : UInt8} {l : List UInt8} (h : kindN b.toNat = 0) : runN (b :: l) = runN l + 1 := if_pos h
theorem runN_n {b : UInt8} {l : List UInt8} {k : Int} (hk : kindN b.toNat = k) (h : k ≠ 0) : runN (b :: l) = 0 := if_neg (by rw [hk]; exact h)
theorem L8 (sg : Bool) : ∀ l, ans sg 8 l = (runN l, true)
  | [] => rfl
  | b :: l => by
    rcases kindN_cases b.toNat with ⟨h, -⟩ | ⟨h, -⟩ | ⟨h, -⟩ | ⟨h, -⟩ | ⟨h, -⟩
    · rw [ans_step h (by rfl), show nextT 8 0 = 8 from rfl, L8 sg l, runN_0 h]
    all_goals rw [ans_stop h (by rfl), runN_n h (by decide)]; rfl
theorem L7 (sg : Bool) : ∀ l, ans sg 7 l = (runN l, decide (0 < runN l))
  | [] => rfl
  | b :: l => by
    rcases kindN_cases b.toNat with ⟨h, -⟩ | ⟨h, -⟩ | ⟨h, -⟩ | ⟨h, -⟩ | ⟨h, -⟩
    · rw [ans_step h (by rfl), show nextT 7 0 = 8 from rfl, L8 sg l, runN_0 h, decide_eq_true (Nat.succ_pos _)]
    all_goals rw [ans_stop h (by rfl), runN_n h (by decide)]; rfl
def expS (l : List UInt8) : Nat × Bool := if kd l = 3 then (1 + runN (l.drop 1), decide (0 < runN (l.drop 1))) else (runN l, decide (0 < runN l))
theorem L6 (sg : Bool) : ∀ l, ans sg 6 l = expS l
  | [] => rfl
  | b :: l => by
    unfold expS
    rcases kindN_cases b.toNat with ⟨h, -⟩ | ⟨h, -⟩ | ⟨h, -⟩ | ⟨h, -⟩ | ⟨h, -⟩
    · rw [if_neg (by rw [kd, h]; decide), ans_step h (by rfl), show nextT 6 0 = 8 from rfl, L8 sg l, runN_0 h, decide_eq_true (Nat.succ_pos _)]
    · rw [if_neg (by rw [kd, h]; decide), ans_stop h (by rfl), runN_n h (by decide)]; rfl
    · rw [if_neg (by rw [kd, h]; decide), ans_stop h (by rfl), runN_n h (by decide)]; rfl
    · rw [if_pos (by rw [kd, h]), ans_step h (by rfl), show nextT 6 3 = 7 from rfl, L7 sg l, List.drop_one, List.tail_cons, Nat.add_comm]
    · rw [if_neg (by rw [kd, h]; decide), ans_stop h (by rfl), runN_n h (by decide)]; rfl
def eS (sm : Bool) (l : List UInt8) : Nat × Bool := if sm = false then (0, false) else if kd l = 2 then (1 + (expS (l.drop 1)).1, (expS (l.drop 1)).2) else (0, true)
def addA (n : Nat) (a : Nat × Bool) : Nat × Bool := (n + a.1, a.2)
theorem addA_add (m n : Nat) (a : Nat × Bool) : addA m (addA n a) = addA (m + n) a := by simp [addA, Nat.add_assoc]
theorem addA_zero (a : Nat × Bool) : addA 0 a = a := by simp [addA]
theorem ans_step' {sg : Bool} {st st' : Nat} {b : UInt8} {l : List UInt8} {k : Int} (hk : kindN b.toNat = k) (h : stopT sg st k = false) (hn : nextT st k = st') : ans sg st (b :: l) = addA 1 (ans sg st' l) := by
  rw [ans_step hk h, hn, addA, Nat.add_comm]
theorem L5 (sg : Bool) : ∀ l, ans sg 5 l = addA (runN l) (eS true (l.drop (runN l)))
  | [] => rfl
  | b :: l => by
    rcases kindN_cases b.toNat with ⟨h, -⟩ | ⟨h, -⟩ | ⟨h, -⟩ | ⟨h, -⟩ | ⟨h, -⟩
    · rw [ans_step' (st' := 5) h (by rfl) rfl, L5 sg l, runN_0 h, addA_add, Nat.add_comm 1, List.drop_succ_cons]
    · rw [ans_stop h (by rfl), runN_n h (by decide), addA_zero, List.drop_zero]; unfold eS; rw [if_neg (by decide), if_neg (by rw [kd, h]; decide)]; rfl
    · rw [ans_step' (st' := 6) h (by rfl) rfl, runN_n h (by decide), addA_zero, List.drop_zero, L6]; unfold eS; rw [if_neg (by decide), if_pos (by rw [kd, h])]; rfl
    all_goals rw [ans_stop h (by rfl), runN_n h (by decide), addA_zero, List.drop_zero]; unfold eS; rw [if_neg (by decide), if_neg (by rw [kd, h]; decide)]; rfl
theorem L4 (sg : Bool) : ∀ l, ans sg 4 l = addA (runN l) (eS true (l.drop (runN l)))
  | [] => rfl
  | b :: l => by
    rcases kindN_cases b.toNat with ⟨h, -⟩ | ⟨h, -⟩ | ⟨h, -⟩ | ⟨h, -⟩ | ⟨h, -⟩
    · rw [ans_step' (st' := 5) h (by rfl) rfl, L5 sg l, runN_0 h, addA_add, Nat.add_comm 1, List.drop_succ_cons]
    · rw [ans_stop h (by rfl), runN_n h (by decide), addA_zero, List.drop_zero]; unfold eS; rw [if_neg (by decide), if_neg (by rw [kd, h]; decide)]; rfl
    · rw [ans_step' (st' := 6) h (by rfl) rfl, runN_n h (by decide), addA_zero, List.drop_zero, L6]; unfold eS; rw [if_neg (by decide), if_pos (by rw [kd, h])]; rfl
    all_goals rw [ans_stop h (by rfl), runN_n h (by decide), addA_zero, List.drop_zero]; unfold eS; rw [if_neg (by decide), if_neg (by rw [kd, h]; decide)]; rfl
theorem L3 (sg : Bool) : ∀ l, ans sg 3 l = addA (runN l) (eS (decide (0 < runN l)) (l.drop (runN l)))
  | [] => rfl
  | b :: l => by
    rcases kindN_cases b.toNat with ⟨h, -⟩ | ⟨h, -⟩ | ⟨h, -⟩ | ⟨h, -⟩ | ⟨h, -⟩
    · rw [ans_step' (st' := 5) h (by rfl) rfl, L5 sg l, runN_0 h, addA_add, Nat.add_comm 1, List.drop_succ_cons, decide_eq_true (Nat.succ_pos _)]
    all_goals rw [ans_stop h (by rfl), runN_n h (by decide), addA_zero, List.drop_zero]; rfl
def ptS (sm : Bool) (l : List UInt8) : Nat × Bool := if kd l = 1 then addA 1 (addA (runN (l.drop 1)) (eS (sm || decide (0 < runN (l.drop 1))) ((l.drop 1).drop (runN (l.drop 1))))) else eS sm l
theorem L2 (sg : Bool) : ∀ l, ans sg 2 l = addA (runN l) (ptS true (l.drop (runN l)))
  | [] => rfl
  | b :: l => by
    rcases kindN_cases b.toNat with ⟨h, -⟩ | ⟨h, -⟩ | ⟨h, -⟩ | ⟨h, -⟩ | ⟨h, -⟩
    · rw [ans_step' (st' := 2) h (by rfl) rfl, L2 sg l, runN_0 h, addA_add, Nat.add_comm 1, List.drop_succ_cons]
    · rw [ans_step' (st' := 4) h (by rfl) rfl, runN_n h (by decide), addA_zero, List.drop_zero, L4]; unfold ptS; rw [if_pos (by rw [kd, h]), Bool.true_or, List.drop_one, List.tail_cons]
    · rw [ans_step' (st' := 6) h (by rfl) rfl, runN_n h (by decide), addA_zero, List.drop_zero, L6]; unfold ptS eS; rw [if_neg (by rw [kd, h]; decide), if_neg (by decide), if_pos (by rw [kd, h])]; rfl
    all_goals rw [ans_stop h (by rfl), runN_n h (by decide), addA_zero, List.drop_zero]; unfold ptS eS; rw [if_neg (by rw [kd, h]; decide), if_neg (by decide), if_neg (by rw [kd, h]; decide)]; rfl
theorem L1 (sg : Bool) : ∀ l, ans sg 1 l = addA (runN l) (ptS (decide (0 < runN l)) (l.drop (runN l)))
  | [] => rfl
  | b :: l => by
    rcases kindN_cases b.toNat with ⟨h, -⟩ | ⟨h, -⟩ | ⟨h, -⟩ | ⟨h, -⟩ | ⟨h, -⟩
    · rw [ans_step' (st' := 2) h (by rfl) rfl, L2 sg l, runN_0 h, addA_add, Nat.add_comm 1, List.drop_succ_cons, decide_eq_true (Nat.succ_pos _)]
    · rw [ans_step' (st' := 3) h (by rfl) rfl, runN_n h (by decide), addA_zero, List.drop_zero, L3]; unfold ptS; rw [if_pos (by rw [kd, h]), show decide (0 < 0) = false from rfl, Bool.false_or, List.drop_one, List.tail_cons]
    all_goals rw [ans_stop h (by rfl), runN_n h (by decide), addA_zero, List.drop_zero]; unfold ptS eS; rw [if_neg (by rw [kd, h]; decide), if_pos (by decide)]; rfl
def scS (sg : Bool) (l : List UInt8) : Nat × Bool :=
  if sg = true ∧ kd l = 3 then addA 1 (addA (runN (l.drop 1)) (ptS (decide (0 < runN (l.drop 1))) ((l.drop 1).drop (runN (l.drop 1))))) else addA (runN l) (ptS (decide (0 < runN l)) (l.drop (runN l)))
theorem L0 (sg : Bool) : ∀ l, ans sg 0 l = scS sg l
  | [] => by cases sg <;> rfl
  | b :: l => by
    unfold scS
    rcases kindN_cases b.toNat with ⟨h, -⟩ | ⟨h, -⟩ | ⟨h, -⟩ | ⟨h, -⟩ | ⟨h, -⟩
    · rw [if_neg (by rw [kd, h]; simp), ans_step' (st' := 2) h (by rfl) rfl, L2 sg l, runN_0 h, addA_add, Nat.add_comm 1, List.drop_succ_cons, decide_eq_true (Nat.succ_pos _)]
    · rw [if_neg (by rw [kd, h]; simp), ans_step' (st' := 3) h (by rfl) rfl, runN_n h (by decide), addA_zero, List.drop_zero, L3]; unfold ptS; rw [if_pos (by rw [kd, h]), show decide (0 < 0) = false from rfl, Bool.false_or, List.drop_one, List.tail_cons]
    · rw [if_neg (by rw [kd, h]; simp), ans_stop h (by rfl), runN_n h (by decide), addA_zero, List.drop_zero]; unfold ptS eS; rw [if_neg (by rw [kd, h]; decide), if_pos (by decide)]; rfl
    · cases sg with
      | true => rw [if_pos ⟨rfl, by rw [kd, h]⟩, ans_step' (st' := 1) h (by rfl) rfl, L1, List.drop_one, List.tail_cons]
      | false => rw [if_neg (by simp), ans_stop h (by rfl), runN_n h (by decide), addA_zero, List.drop_zero]; unfold ptS eS; rw [if_neg (by rw [kd, h]; decide), if_pos (by decide)]; rfl
    · rw [if_neg (by rw [kd, h]; simp), ans_stop h (by rfl), runN_n h (by decide), addA_zero, List.drop_zero]; unfold ptS eS; rw [if_neg (by rw [kd, h]; decide), if_pos (by decide)]; rfl
theorem eR_S (sm : Bool) (l : List UInt8) (i : Nat) : eR sm l i = addA i (eS sm (l.drop i)) := by
  unfold eR eS
  cases sm with
  | false => rfl
  | true =>
    have n0 : ¬ (true = false) := by decide
    rw [if_neg n0, if_neg n0]
    by_cases h : kd (l.drop i) = 2
    · rw [if_pos h, if_pos h]
      unfold expS addA
      rw [List.drop_drop]
      by_cases h3 : kd (l.drop (i + 1)) = 3
      · simp only [if_pos h3, List.drop_drop]
        rw [Nat.add_assoc i 1 1]
        congr 1; omega
      · simp only [if_neg h3]
        congr 1; omega
    · rw [if_neg h, if_neg h]; rfl
theorem ptR_S (l : List UInt8) (i : Nat) : ptR l i = addA i (addA (runN (l.drop i)) (ptS (decide (0 < runN (l.drop i))) ((l.drop i).drop (runN (l.drop i))))) := by
  unfold ptR ptS
  simp only [List.drop_drop]
  by_cases h : kd (l.drop (i + runN (l.drop i))) = 1
  · rw [if_pos h, if_pos h, eR_S]
    simp only [addA_add, List.drop_drop]
    congr 1; omega
  · rw [if_neg h, if_neg h, eR_S, addA_add]
theorem scR_S (sg : Bool) (l : List UInt8) (p : Nat) : scR sg l p = addA p (scS sg (l.drop p)) := by
  unfold scR scS
  by_cases h : sg = true ∧ kd (l.drop p) = 3
  · rw [if_pos h, if_pos h, ptR_S]
    simp only [List.drop_drop, addA_add, Nat.add_assoc]
  · rw [if_neg h, if_neg h, ptR_S]
theorem scan_eq (sg : Bool) (l : List UInt8) (p : Nat) : scR sg l p = addA p (ans sg 0 (l.drop p)) := by rw [scR_S, L0]
end Go.Proofs.YtjpaapkdbohgeaaDoor
namespace Go.Proofs.YtjpaapkdbohgeaaDoor
open Go.Abs
theorem scR0 {sg : Bool} {s : List UInt8} {p i : Nat} (h : (sg = true ∧ kd (s.drop p) = 3 ∧ i = p + 1) ∨ (¬ (sg = true ∧ kd (s.drop p) = 3) ∧ i = p)) : scR sg s p = ptR s i := by
  unfold scR; rcases h with ⟨h1, h2, rfl⟩ | ⟨h1, rfl⟩
  · rw [if_pos ⟨h1, h2⟩]
  · rw [if_neg h1]
set_option maxRecDepth 20000 in
set_option maxHeartbeats 1000000 in
theorem c_rscan (s : List UInt8) (p : Nat) (sg : Bool) (hp : p ≤ s.length) (hl : s.length ≤ 900000) : ACalls seat 58 [.str s, .int .i64 p, .bool sg] [] (fun x _ => x = .ret (.tup [.int .i64 ((scR sg s p).1 : Nat), .bool (scR sg s p).2])) := by
  refine ACalls.bodyS seat_ok Tryd.func58 rfl rfl ?_
  obtain ⟨i, hi⟩ : ∃ i, (sg = true ∧ kd (s.drop p) = 3 ∧ i = p + 1) ∨ (¬ (sg = true ∧ kd (s.drop p) = 3) ∧ i = p) := by
    by_cases h : sg = true ∧ kd (s.drop p) = 3
    · exact ⟨_, .inl ⟨h.1, h.2, rfl⟩⟩
    · exact ⟨_, .inr ⟨h, rfl⟩⟩
  have hil : i ≤ s.length := by
    rcases hi with ⟨-, h, rfl⟩ | ⟨-, rfl⟩
    · exact kd_ne (by omega)
    · exact hp
  rw [scR0 hi]
  have cr := c_run s i (by omega) (by omega)
  have hin := runIn s i hil
  refine Sat.splitAt seat_ok (fun t h => t = (.str s::uu::uu::uu::uu::uu::uu::uu::.int .i64 ((i + runN (s.drop i) : Nat) : Int)::uu::.bool (decide (((i + runN (s.drop i) : Nat) : Int) > ((i : Nat) : Int)))::uu::uu::uu::uu::uu::uu::uu::uu::uu::uu::uu::uu::uu::uu::uu::uu::uu::uu::uu::uu::uu::uu::uu::uu::uu::uu::uu::uu::uu::uu::uu::uu::uu::uu::uu::uu::uu::uu::uu::uu::uu::uu::uu::uu::uu::uu::uu::uu::uu::uu::uu::uu::uu::uu::uu::uu::uu::uu::uu::uu::uu::uu::uu::uu::uu::uu::uu::uu::uu::uu::uu::uu::uu::uu::uu::uu::uu::uu::uu::uu::uu::uu::[]) ∧ h = []) 7 ?_ ?_
  · have cs := c_rsign s p
    have g0 : ¬ ((p : Int) < 0) := by omega
    have g1 : ¬ ((p : Int) > s.length) := by omega
    rcases hi with ⟨rfl, h, rfl⟩ | ⟨h, rfl⟩
    · rw [decide_eq_true h] at cs
      conv => whnf
      repeat' (first | exact ⟨_, keepT_weak (maskOf 93 [0, 8, 10]) _, rfl, rfl⟩ | (refine CallH.lift seat_g cs (by simp [Closed, ClosedL]) (by simp [Closed]) ?_; conv => whnf) | (refine CallH.lift seat_g cr (by simp [Closed, ClosedL]) (by simp [Closed]) ?_; conv => whnf) | ((first | refine zq1 (by omega) ?_ | refine zq2 (by omega) ?_ | refine NumH.rem (by omega) ?_ | refine zq4 (by omega) ?_ | refine zq5 (by omega) ?_ | refine zq6 ?_ | refine Req.mk (by omega) ?_ | refine Req.mk (by dsimp only; omega) ?_ | refine Req.mk (show pendP _ _ by repeat' constructor) ?_ | (with_reducible first | refine brT (by assumption) ?_ | refine brF (by assumption) ?_ | refine brDT (by omega) ?_ | refine brDF (by omega) ?_ | refine brET (by omega) ?_ | refine brEF (by omega) ?_ | refine brNET (by omega) ?_ | refine brNEF (by omega) ?_ | refine brNot ?_)); conv => whnf))
    · cases sg with
      | false =>
        conv => whnf
        repeat' (first | exact ⟨_, keepT_weak (maskOf 93 [0, 8, 10]) _, rfl, rfl⟩ | (refine CallH.lift seat_g cr (by simp [Closed, ClosedL]) (by simp [Closed]) ?_; conv => whnf) | ((first | refine zq1 (by omega) ?_ | refine zq2 (by omega) ?_ | refine NumH.rem (by omega) ?_ | refine zq4 (by omega) ?_ | refine zq5 (by omega) ?_ | refine zq6 ?_ | refine Req.mk (by omega) ?_ | refine Req.mk (by dsimp only; omega) ?_ | refine Req.mk (show pendP _ _ by repeat' constructor) ?_ | (with_reducible first | refine brT (by assumption) ?_ | refine brF (by assumption) ?_ | refine brDT (by omega) ?_ | refine brDF (by omega) ?_ | refine brET (by omega) ?_ | refine brEF (by omega) ?_ | refine brNET (by omega) ?_ | refine brNEF (by omega) ?_ | refine brNot ?_)); conv => whnf))
      | true =>
        rw [decide_eq_false (fun e => h ⟨rfl, e⟩)] at cs
        conv => whnf
        repeat' (first | exact ⟨_, keepT_weak (maskOf 93 [0, 8, 10]) _, rfl, rfl⟩ | (refine CallH.lift seat_g cs (by simp [Closed, ClosedL]) (by simp [Closed]) ?_; conv => whnf) | (refine CallH.lift seat_g cr (by simp [Closed, ClosedL]) (by simp [Closed]) ?_; conv => whnf) | ((first | refine zq1 (by omega) ?_ | refine zq2 (by omega) ?_ | refine NumH.rem (by omega) ?_ | refine zq4 (by omega) ?_ | refine zq5 (by omega) ?_ | refine zq6 ?_ | refine Req.mk (by omega) ?_ | refine Req.mk (by dsimp only; omega) ?_ | refine Req.mk (show pendP _ _ by repeat' constructor) ?_ | (with_reducible first | refine brT (by assumption) ?_ | refine brF (by assumption) ?_ | refine brDT (by omega) ?_ | refine brDF (by omega) ?_ | refine brET (by omega) ?_ | refine brEF (by omega) ?_ | refine brNET (by omega) ?_ | refine brNEF (by omega) ?_ | refine brNot ?_)); conv => whnf))
  rintro _ _ ⟨rfl, rfl⟩
  have hd0 : decide (((i + runN (s.drop i) : Nat) : Int) > ((i : Nat) : Int)) = decide (0 < runN (s.drop i)) := decide_eq_decide.2 (by omega)
  rw [hd0]
  clear hi cr hd0 hp
  obtain ⟨e3, hpe⟩ : ∃ e3 : Nat × Bool, e3 = (if kd (s.drop (i + runN (s.drop i))) = 1 then (i + runN (s.drop i) + 1 + runN (s.drop (i + runN (s.drop i) + 1)), decide (0 < runN (s.drop i)) || decide (0 < runN (s.drop (i + runN (s.drop i) + 1)))) else (i + runN (s.drop i), decide (0 < runN (s.drop i)))) := ⟨_, rfl⟩
  have hpt : ptR s i = eR e3.2 s e3.1 := by
    rw [hpe]; unfold ptR; dsimp only
    split <;> rfl
  rw [hpt]
  clear hpt
  generalize hr0 : runN (s.drop i) = r0 at *
  refine Sat.splitAt seat_ok (fun t h => t = (.str s::uu::uu::uu::uu::uu::uu::uu::.int .i64 ((e3.1 : Nat) : Int)::uu::.bool e3.2::uu::uu::uu::uu::uu::uu::uu::uu::uu::uu::uu::uu::uu::uu::uu::uu::uu::uu::uu::uu::uu::uu::uu::uu::uu::uu::uu::uu::uu::uu::uu::uu::uu::uu::uu::uu::uu::uu::uu::uu::uu::uu::uu::uu::uu::uu::uu::uu::uu::uu::uu::uu::uu::uu::uu::uu::uu::uu::uu::uu::uu::uu::uu::uu::uu::uu::uu::uu::uu::uu::uu::uu::uu::uu::uu::uu::uu::uu::uu::uu::uu::uu::[]) ∧ h = []) 1 ?_ ?_
  · rcases dotB_cases (s := s) (p := i + r0) with ⟨d1, bd, d2, d3, d4⟩ | ⟨d1, d2⟩
    · rw [if_pos d1] at hpe
      have ed : (s[((i + r0 : Nat) : Int).toNat]?) = some bd := d3
      have cr1 := c_run s (i + r0 + 1) (by omega) (by omega)
      have hin1 := runIn s (i + r0 + 1) (by omega)
      have hd1 : decide (((i + r0 + 1 + runN (s.drop (i + r0 + 1)) : Nat) : Int) > ((i + r0 : Nat) : Int) + 1) = decide (0 < runN (s.drop (i + r0 + 1))) := decide_eq_decide.2 (by omega)
      generalize runN (s.drop (i + r0 + 1)) = r1 at *
      subst hpe
      by_cases q0 : 0 < r0
      · rw [decide_eq_true q0]
        conv => whnf
        repeat' (first | exact ⟨_, keepT_weak (maskOf 93 [0, 8, 10]) _, rfl, rfl⟩ | (refine ldI _ ed ?_; conv => whnf) | (refine CallH.lift seat_g cr1 (by simp [Closed, ClosedL]) (by simp [Closed]) ?_; conv => whnf) | ((first | refine zq1 (by omega) ?_ | refine zq2 (by omega) ?_ | refine NumH.rem (by omega) ?_ | refine zq4 (by omega) ?_ | refine zq5 (by omega) ?_ | refine zq6 ?_ | refine Req.mk (by omega) ?_ | refine Req.mk (by dsimp only; omega) ?_ | refine Req.mk (show pendP _ _ by repeat' constructor) ?_ | (with_reducible first | refine brT (by assumption) ?_ | refine brF (by assumption) ?_ | refine brDT (by omega) ?_ | refine brDF (by omega) ?_ | refine brET (by omega) ?_ | refine brEF (by omega) ?_ | refine brNET (by omega) ?_ | refine brNEF (by omega) ?_ | refine brNot ?_)); conv => whnf))
      · rw [decide_eq_false q0, Bool.false_or, ← hd1]
        conv => whnf
        repeat' (first | exact ⟨_, keepT_weak (maskOf 93 [0, 8, 10]) _, rfl, rfl⟩ | (refine ldI _ ed ?_; conv => whnf) | (refine CallH.lift seat_g cr1 (by simp [Closed, ClosedL]) (by simp [Closed]) ?_; conv => whnf) | ((first | refine zq1 (by omega) ?_ | refine zq2 (by omega) ?_ | refine NumH.rem (by omega) ?_ | refine zq4 (by omega) ?_ | refine zq5 (by omega) ?_ | refine zq6 ?_ | refine Req.mk (by omega) ?_ | refine Req.mk (by dsimp only; omega) ?_ | refine Req.mk (show pendP _ _ by repeat' constructor) ?_ | (with_reducible first | refine brT (by assumption) ?_ | refine brF (by assumption) ?_ | refine brDT (by omega) ?_ | refine brDF (by omega) ?_ | refine brET (by omega) ?_ | refine brEF (by omega) ?_ | refine brNET (by omega) ?_ | refine brNEF (by omega) ?_ | refine brNot ?_)); conv => whnf))
    · rw [if_neg d1] at hpe
      subst hpe
      rcases d2 with d2 | ⟨bd, d2, d3, d4⟩
      · have d2' : ¬ (((i + r0 : Nat) : Int) < s.length) := by omega
        conv => whnf
        repeat' (first | exact ⟨_, keepT_weak (maskOf 93 [0, 8, 10]) _, rfl, rfl⟩ | ((first | refine zq1 (by omega) ?_ | refine zq2 (by omega) ?_ | refine NumH.rem (by omega) ?_ | refine zq4 (by omega) ?_ | refine zq5 (by omega) ?_ | refine zq6 ?_ | refine Req.mk (by omega) ?_ | refine Req.mk (by dsimp only; omega) ?_ | refine Req.mk (show pendP _ _ by repeat' constructor) ?_ | (with_reducible first | refine brT (by assumption) ?_ | refine brF (by assumption) ?_ | refine brDT (by omega) ?_ | refine brDF (by omega) ?_ | refine brET (by omega) ?_ | refine brEF (by omega) ?_ | refine brNET (by omega) ?_ | refine brNEF (by omega) ?_ | refine brNot ?_)); conv => whnf))
      · have ed : (s[((i + r0 : Nat) : Int).toNat]?) = some bd := d3
        conv => whnf
        repeat' (first | exact ⟨_, keepT_weak (maskOf 93 [0, 8, 10]) _, rfl, rfl⟩ | (refine ldI _ ed ?_; conv => whnf) | ((first | refine zq1 (by omega) ?_ | refine zq2 (by omega) ?_ | refine NumH.rem (by omega) ?_ | refine zq4 (by omega) ?_ | refine zq5 (by omega) ?_ | refine zq6 ?_ | refine Req.mk (by omega) ?_ | refine Req.mk (by dsimp only; omega) ?_ | refine Req.mk (show pendP _ _ by repeat' constructor) ?_ | (with_reducible first | refine brT (by assumption) ?_ | refine brF (by assumption) ?_ | refine brDT (by omega) ?_ | refine brDF (by omega) ?_ | refine brET (by omega) ?_ | refine brEF (by omega) ?_ | refine brNET (by omega) ?_ | refine brNEF (by omega) ?_ | refine brNot ?_)); conv => whnf))
  rintro _ _ ⟨rfl, rfl⟩
  have he3 : e3.1 ≤ s.length := by
    rw [hpe]
    split
    · rename_i h
      exact runIn s (i + r0 + 1) (kd_ne (by omega))
    · exact hin
  clear hpe hin hil hr0
  obtain ⟨q, sm⟩ := e3
  dsimp only at he3 ⊢
  refine codeR_sound seat_ok _ _ _ _ ?_
  cases sm with
  | false =>
    rw [show eR false s q = (q, false) from rfl]
    conv => whnf
    repeat' ((first | refine zq1 (by omega) ?_ | refine zq2 (by omega) ?_ | refine NumH.rem (by omega) ?_ | refine zq4 (by omega) ?_ | refine zq5 (by omega) ?_ | refine zq6 ?_ | refine Req.mk (by omega) ?_ | refine Req.mk (by dsimp only; omega) ?_ | refine Req.mk (show pendP _ _ by repeat' constructor) ?_ | (with_reducible first | refine brT (by assumption) ?_ | refine brF (by assumption) ?_ | refine brDT (by omega) ?_ | refine brDF (by omega) ?_ | refine brET (by omega) ?_ | refine brEF (by omega) ?_ | refine brNET (by omega) ?_ | refine brNEF (by omega) ?_ | refine brNot ?_)); conv => whnf)
    rfl
  | true =>
    rcases eB_cases (s := s) (p := q) with ⟨e1, b, e2, e3, e4⟩ | ⟨e1, e2⟩
    · have eb : (s[((q : Nat) : Int).toNat]?) = some b := e3
      have cs2 := c_rsign s (q + 1)
      by_cases g2 : kd (s.drop (q + 1)) = 3
      · rw [decide_eq_true g2] at cs2
        have hj := kd_ne (s := s) (p := q + 1) (by omega)
        have cr2 := c_run s (q + 1 + 1) (by omega) (by omega)
        have hin2 := runIn s (q + 1 + 1) (by omega)
        rw [show eR true s q = ((q + 1 + 1) + runN (s.drop (q + 1 + 1)), decide (0 < runN (s.drop (q + 1 + 1)))) by unfold eR; rw [if_neg (by decide), if_pos e1]; dsimp only; rw [if_pos g2]]
        have hdd : decide (((q + 1 + 1 + runN (s.drop (q + 1 + 1)) : Nat) : Int) > ((q + 1 + 1 : Nat) : Int)) = decide (0 < runN (s.drop (q + 1 + 1))) := decide_eq_decide.2 (by omega)
        generalize runN (s.drop (q + 1 + 1)) = r2 at *
        rcases e4 with e4 | ⟨e5, e4⟩
        · conv => whnf
          repeat' (first | exact congrArg (fun b => AEnd.ret (.tup [_, .bool b])) hdd | (refine ldI _ eb ?_; conv => whnf) | (refine CallH.lift seat_g cs2 (by simp [Closed, ClosedL]) (by simp [Closed]) ?_; conv => whnf) | (refine CallH.lift seat_g cr2 (by simp [Closed, ClosedL]) (by simp [Closed]) ?_; conv => whnf) | ((first | refine zq1 (by omega) ?_ | refine zq2 (by omega) ?_ | refine NumH.rem (by omega) ?_ | refine zq4 (by omega) ?_ | refine zq5 (by omega) ?_ | refine zq6 ?_ | refine Req.mk (by omega) ?_ | refine Req.mk (by dsimp only; omega) ?_ | refine Req.mk (show pendP _ _ by repeat' constructor) ?_ | (with_reducible first | refine brT (by assumption) ?_ | refine brF (by assumption) ?_ | refine brDT (by omega) ?_ | refine brDF (by omega) ?_ | refine brET (by omega) ?_ | refine brEF (by omega) ?_ | refine brNET (by omega) ?_ | refine brNEF (by omega) ?_ | refine brNot ?_)); conv => whnf))
        · conv => whnf
          repeat' (first | exact congrArg (fun b => AEnd.ret (.tup [_, .bool b])) hdd | (refine ldI _ eb ?_; conv => whnf) | (refine CallH.lift seat_g cs2 (by simp [Closed, ClosedL]) (by simp [Closed]) ?_; conv => whnf) | (refine CallH.lift seat_g cr2 (by simp [Closed, ClosedL]) (by simp [Closed]) ?_; conv => whnf) | ((first | refine zq1 (by omega) ?_ | refine zq2 (by omega) ?_ | refine NumH.rem (by omega) ?_ | refine zq4 (by omega) ?_ | refine zq5 (by omega) ?_ | refine zq6 ?_ | refine Req.mk (by omega) ?_ | refine Req.mk (by dsimp only; omega) ?_ | refine Req.mk (show pendP _ _ by repeat' constructor) ?_ | (with_reducible first | refine brT (by assumption) ?_ | refine brF (by assumption) ?_ | refine brDT (by omega) ?_ | refine brDF (by omega) ?_ | refine brET (by omega) ?_ | refine brEF (by omega) ?_ | refine brNET (by omega) ?_ | refine brNEF (by omega) ?_ | refine brNot ?_)); conv => whnf))
      · rw [decide_eq_false g2] at cs2
        have cr2 := c_run s (q + 1) (by omega) (by omega)
        have hin2 := runIn s (q + 1) (by omega)
        rw [show eR true s q = ((q + 1) + runN (s.drop (q + 1)), decide (0 < runN (s.drop (q + 1)))) by unfold eR; rw [if_neg (by decide), if_pos e1]; dsimp only; rw [if_neg g2]]
        have hdd : decide (((q + 1 + runN (s.drop (q + 1)) : Nat) : Int) > ((q + 1 : Nat) : Int)) = decide (0 < runN (s.drop (q + 1))) := decide_eq_decide.2 (by omega)
        generalize runN (s.drop (q + 1)) = r2 at *
        rcases e4 with e4 | ⟨e5, e4⟩
        · conv => whnf
          repeat' (first | exact congrArg (fun b => AEnd.ret (.tup [_, .bool b])) hdd | (refine ldI _ eb ?_; conv => whnf) | (refine CallH.lift seat_g cs2 (by simp [Closed, ClosedL]) (by simp [Closed]) ?_; conv => whnf) | (refine CallH.lift seat_g cr2 (by simp [Closed, ClosedL]) (by simp [Closed]) ?_; conv => whnf) | ((first | refine zq1 (by omega) ?_ | refine zq2 (by omega) ?_ | refine NumH.rem (by omega) ?_ | refine zq4 (by omega) ?_ | refine zq5 (by omega) ?_ | refine zq6 ?_ | refine Req.mk (by omega) ?_ | refine Req.mk (by dsimp only; omega) ?_ | refine Req.mk (show pendP _ _ by repeat' constructor) ?_ | (with_reducible first | refine brT (by assumption) ?_ | refine brF (by assumption) ?_ | refine brDT (by omega) ?_ | refine brDF (by omega) ?_ | refine brET (by omega) ?_ | refine brEF (by omega) ?_ | refine brNET (by omega) ?_ | refine brNEF (by omega) ?_ | refine brNot ?_)); conv => whnf))
        · conv => whnf
          repeat' (first | exact congrArg (fun b => AEnd.ret (.tup [_, .bool b])) hdd | (refine ldI _ eb ?_; conv => whnf) | (refine CallH.lift seat_g cs2 (by simp [Closed, ClosedL]) (by simp [Closed]) ?_; conv => whnf) | (refine CallH.lift seat_g cr2 (by simp [Closed, ClosedL]) (by simp [Closed]) ?_; conv => whnf) | ((first | refine zq1 (by omega) ?_ | refine zq2 (by omega) ?_ | refine NumH.rem (by omega) ?_ | refine zq4 (by omega) ?_ | refine zq5 (by omega) ?_ | refine zq6 ?_ | refine Req.mk (by omega) ?_ | refine Req.mk (by dsimp only; omega) ?_ | refine Req.mk (show pendP _ _ by repeat' constructor) ?_ | (with_reducible first | refine brT (by assumption) ?_ | refine brF (by assumption) ?_ | refine brDT (by omega) ?_ | refine brDF (by omega) ?_ | refine brET (by omega) ?_ | refine brEF (by omega) ?_ | refine brNET (by omega) ?_ | refine brNEF (by omega) ?_ | refine brNot ?_)); conv => whnf))
    · rw [show eR true s q = (q, true) by unfold eR; rw [if_neg (by decide), if_neg e1]]
      rcases e2 with e2 | ⟨b, e2, e3, e4, e5⟩
      · have e2' : ¬ (((q : Nat) : Int) < s.length) := by omega
        conv => whnf
        repeat' ((first | refine zq1 (by omega) ?_ | refine zq2 (by omega) ?_ | refine NumH.rem (by omega) ?_ | refine zq4 (by omega) ?_ | refine zq5 (by omega) ?_ | refine zq6 ?_ | refine Req.mk (by omega) ?_ | refine Req.mk (by dsimp only; omega) ?_ | refine Req.mk (show pendP _ _ by repeat' constructor) ?_ | (with_reducible first | refine brT (by assumption) ?_ | refine brF (by assumption) ?_ | refine brDT (by omega) ?_ | refine brDF (by omega) ?_ | refine brET (by omega) ?_ | refine brEF (by omega) ?_ | refine brNET (by omega) ?_ | refine brNEF (by omega) ?_ | refine brNot ?_)); conv => whnf)
        rfl
      · have eb : (s[((q : Nat) : Int).toNat]?) = some b := e3
        conv => whnf
        repeat' (first | exact rfl | (refine ldI _ eb ?_; conv => whnf) | ((first | refine zq1 (by omega) ?_ | refine zq2 (by omega) ?_ | refine NumH.rem (by omega) ?_ | refine zq4 (by omega) ?_ | refine zq5 (by omega) ?_ | refine zq6 ?_ | refine Req.mk (by omega) ?_ | refine Req.mk (by dsimp only; omega) ?_ | refine Req.mk (show pendP _ _ by repeat' constructor) ?_ | (with_reducible first | refine brT (by assumption) ?_ | refine brF (by assumption) ?_ | refine brDT (by omega) ?_ | refine brDF (by omega) ?_ | refine brET (by omega) ?_ | refine brEF (by omega) ?_ | refine brNET (by omega) ?_ | refine brNEF (by omega) ?_ | refine brNot ?_)); conv => whnf))
end Go.Proofs.YtjpaapkdbohgeaaDoor
namespace Go.Proofs.YtjpaapkdbohgeaaDoor
open Go.Abs
def halfC : List Int → List Int × Int
  | [] => ([], 0)
  | x :: d => (((halfC d).2 * 65536 + x) / 2 :: (halfC d).1, ((halfC d).2 * 65536 + x) % 2)
theorem halfC_spec : ∀ {d : List Int}, Dg d → dv (halfC d).1 * 2 + (halfC d).2 = dv d ∧ Dg (halfC d).1 ∧ (0 ≤ (halfC d).2 ∧ (halfC d).2 ≤ 1) ∧ (halfC d).1.length = d.length
  | [], _ => by simp [halfC, dv, Dg.nil]
  | x :: d, h => by
    obtain ⟨h1, h2, h3, h4⟩ := halfC_spec h.tail
    have hx := h.head
    refine ⟨?_, Dg.cons (by omega) h2, by simp only [halfC]; omega, by simp [halfC, h4]⟩
    simp only [halfC, dv]
    omega
theorem half_dig (n : Nat) : trimL (halfC (dig n)).1 = dig (n / 2) ∧ (halfC (dig n)).2 = ((n % 2 : Nat) : Int) := by
  obtain ⟨h1, h2, h3, -⟩ := halfC_spec (dig_Dg n)
  rw [dv_dig] at h1
  have h0 := dv_nonneg h2
  rw [trim_dig h2]
  refine ⟨?_, by omega⟩
  congr 1; omega
theorem set_rep (j : Nat) (O : List Int) (v : Int) : (List.replicate (j + 1) 0 ++ O).set j v = List.replicate j 0 ++ v :: O := by
  rw [List.replicate_succ', List.append_assoc]
  rw [List.set_append_right _ _ (by simp)]
  simp
set_option maxRecDepth 20000 in
theorem c_half (n : Nat) (hl : (dig n).length ≤ 20000) : ACalls seat 95 [lv (dig n)] [] (fun x _ => x = .ret (.tup [lv (dig (n / 2)), .int .i64 ((n % 2 : Nat) : Int)])) := by
  refine ACalls.body seat_ok Tryd.func95 rfl rfl ?_
  obtain ⟨e1, e2⟩ := half_dig n
  have hD := dig_Dg n
  rw [← e1, ← e2]
  generalize dig n = D at *
  conv => whnf
  refine Req.mk ⟨by omega, Int.le_refl _, by omega, by dsimp only; omega⟩ ?_
  conv => whnf
  repeat' ((first | refine zq1 (by omega) ?_ | refine zq2 (by omega) ?_ | refine NumH.rem (by omega) ?_ | refine zq4 (by omega) ?_ | refine zq5 (by omega) ?_ | refine zq6 ?_ | refine Req.mk (by omega) ?_ | refine Req.mk (by dsimp only; omega) ?_ | refine Req.mk ⟨rfl, rfl, rfl, by simp [ci_length, *], rfl, by simp [okCell], by dsimp only; omega, by omega, by decide⟩ ?_ | refine Req.mk (show pendP _ _ by repeat' constructor) ?_ | (with_reducible first | refine brT (by assumption) ?_ | refine brF (by assumption) ?_ | refine brDT (by omega) ?_ | refine brDF (by omega) ?_ | refine brET (by omega) ?_ | refine brEF (by omega) ?_ | refine brNET (by omega) ?_ | refine brNEF (by omega) ?_ | refine brNot ?_)); conv => whnf)
  refine Sat.cut (fun x t h => x = .exit 0 ∧ t = (uu::uu::uu::uu::.row 0 0 D.length D.length::.int .i64 (halfC D).2::uu::uu::uu::uu::uu::uu::uu::uu::uu::uu::uu::uu::uu::uu::uu::uu::uu::uu::uu::uu::uu::uu::uu::uu::uu::uu::uu::uu::uu::[]) ∧ h = [.var (ci .i64 (halfC D).1) 3]) ?_ ?_
  · refine Sat.invP seat_ok seat_g (maskOf 35 [0, 4, 5, 6]) 1 (fun μ t h => ∃ k : Nat, k ≤ D.length ∧ μ = k ∧ t = (lv D::uu::uu::uu::.row 0 0 D.length D.length::.int .i64 (halfC (D.drop k)).2::.int .i64 ((k : Int) - 1)::uu::uu::uu::uu::uu::uu::uu::uu::uu::uu::uu::uu::uu::uu::uu::uu::uu::uu::uu::uu::uu::uu::uu::uu::uu::uu::uu::uu::[]) ∧
      h = [.var (ci .i64 (List.replicate k 0 ++ (halfC (D.drop k)).1)) 3]) ?_ ⟨D.length, _, WeakL.of_eq ?_, D.length, Nat.le_refl _, rfl, rfl, ?_⟩ ?_
    · rintro _ _ _ ⟨k, -, -, rfl, rfl⟩
      exact ⟨rfl, (by simp [IdsL, Ids, IdsH, IdsC, lv_ids, ci_ids]), (by simp [IdsL, Ids, IdsH, IdsC, lv_ids, ci_ids])⟩
    · rw [List.drop_length]; rfl
    · rw [List.drop_length]
      simp only [halfC, List.append_nil]
      exact congrArg (fun x => [Chunk.var x _]) (ci_zeros _ _)
    rintro k _ _ ⟨_, hk, rfl, rfl, rfl⟩
    cases k with
    | zero =>
      conv => whnf
      repeat' ((first | refine zq1 (by omega) ?_ | refine zq2 (by omega) ?_ | refine NumH.rem (by omega) ?_ | refine zq4 (by omega) ?_ | refine zq5 (by omega) ?_ | refine zq6 ?_ | refine Req.mk (by omega) ?_ | refine Req.mk (by dsimp only; omega) ?_ | refine Req.mk ⟨rfl, rfl, rfl, by simp [ci_length, *], rfl, by simp [okCell], by dsimp only; omega, by omega, by decide⟩ ?_ | refine Req.mk (show pendP _ _ by repeat' constructor) ?_ | (with_reducible first | refine brT (by assumption) ?_ | refine brF (by assumption) ?_ | refine brDT (by omega) ?_ | refine brDF (by omega) ?_ | refine brET (by omega) ?_ | refine brEF (by omega) ?_ | refine brNET (by omega) ?_ | refine brNEF (by omega) ?_ | refine brNot ?_)); conv => whnf)
      exact ⟨_, keepT_weak (maskOf 35 [4, 5]) _, rfl, rfl, rfl⟩
    | succ j =>
      obtain ⟨x, hx⟩ : ∃ x, D[j]? = some x := ⟨_, List.getElem?_eq_getElem (by omega)⟩
      have hxb := hD x (List.mem_of_getElem? hx)
      have hd := drop_cons' hx
      have hs := halfC_spec (d := D.drop (j + 1)) (fun y hy => hD y (List.mem_of_mem_drop hy))
      have hlen : (halfC (D.drop (j + 1))).1.length = D.length - (j + 1) := by rw [hs.2.2.2, List.length_drop]
      have hr := hs.2.2.1
      have hd2 : halfC (D.drop j) = (((halfC (D.drop (j + 1))).2 * 65536 + x) / 2 :: (halfC (D.drop (j + 1))).1, ((halfC (D.drop (j + 1))).2 * 65536 + x) % 2) := by rw [hd]; rfl
      generalize (halfC (D.drop (j + 1))).1 = O at *
      generalize (halfC (D.drop (j + 1))).2 = r at *
      have ej : ((j + 1 : Nat) : Int) - 1 = j := by omega
      rw [ej]
      have hcl : (ci .i64 (List.replicate (j + 1) 0 ++ O)).length = D.length := by rw [ci_length]; simp; omega
      have hset : ∀ v, (ci .i64 (List.replicate (j + 1) 0 ++ O)).set j (.int .i64 v) = ci .i64 (List.replicate j 0 ++ v :: O) := fun v => by
        rw [← set_rep]; unfold ci; rw [List.map_set]
      generalize ci .i64 (List.replicate (j + 1) 0 ++ O) = CS at *
      conv => whnf
      repeat' ((first | refine zq1 (by omega) ?_ | refine zq2 (by omega) ?_ | refine NumH.rem (by omega) ?_ | refine zq4 (by omega) ?_ | refine zq5 (by omega) ?_ | refine zq6 ?_ | refine Req.mk (by omega) ?_ | refine Req.mk (by dsimp only; omega) ?_ | refine Req.mk ⟨rfl, rfl, rfl, by simp [ci_length, *], rfl, by simp [okCell], by dsimp only; omega, by omega, by decide⟩ ?_ | refine Req.mk (show pendP _ _ by repeat' constructor) ?_ | (with_reducible first | refine brT (by assumption) ?_ | refine brF (by assumption) ?_ | refine brDT (by omega) ?_ | refine brDF (by omega) ?_ | refine brET (by omega) ?_ | refine brEF (by omega) ?_ | refine brNET (by omega) ?_ | refine brNEF (by omega) ?_ | refine brNot ?_)); conv => whnf)
      refine ldI _ (ci_sub .i64 hx) ?_
      conv => whnf
      repeat' ((first | refine zq1 (by omega) ?_ | refine zq2 (by omega) ?_ | refine NumH.rem (by omega) ?_ | refine zq4 (by omega) ?_ | refine zq5 (by omega) ?_ | refine zq6 ?_ | refine Req.mk (by omega) ?_ | refine Req.mk (by dsimp only; omega) ?_ | refine Req.mk ⟨rfl, rfl, rfl, by simp [ci_length, *], rfl, by simp [okCell], by dsimp only; omega, by omega, by decide⟩ ?_ | refine Req.mk (show pendP _ _ by repeat' constructor) ?_ | (with_reducible first | refine brT (by assumption) ?_ | refine brF (by assumption) ?_ | refine brDT (by omega) ?_ | refine brDF (by omega) ?_ | refine brET (by omega) ?_ | refine brEF (by omega) ?_ | refine brNET (by omega) ?_ | refine brNEF (by omega) ?_ | refine brNot ?_)); conv => whnf)
      refine storeK.mk (ci .i64 (List.replicate j 0 ++ ((r * 65536 + x) / 2) :: O)) (by rw [← hset]; simp [splice, cellsOf]) rfl (by rw [hcl]; simp [cellsOf]; omega) rfl ?_
      conv => whnf
      repeat' ((first | refine zq1 (by omega) ?_ | refine zq2 (by omega) ?_ | refine NumH.rem (by omega) ?_ | refine zq4 (by omega) ?_ | refine zq5 (by omega) ?_ | refine zq6 ?_ | refine Req.mk (by omega) ?_ | refine Req.mk (by dsimp only; omega) ?_ | refine Req.mk ⟨rfl, rfl, rfl, by simp [ci_length, *], rfl, by simp [okCell], by dsimp only; omega, by omega, by decide⟩ ?_ | refine Req.mk (show pendP _ _ by repeat' constructor) ?_ | (with_reducible first | refine brT (by assumption) ?_ | refine brF (by assumption) ?_ | refine brDT (by omega) ?_ | refine brDF (by omega) ?_ | refine brET (by omega) ?_ | refine brEF (by omega) ?_ | refine brNET (by omega) ?_ | refine brNEF (by omega) ?_ | refine brNot ?_)); conv => whnf)
      exact ⟨_, _, Nat.lt_succ_self j, WeakL.of_eq (by rw [hd2]; rfl), j, by omega, rfl, rfl, by rw [hd2]; rfl⟩
  · rintro _ _ _ ⟨rfl, rfl, rfl⟩
    obtain ⟨h1, h2, h3, h4⟩ := halfC_spec hD
    generalize (halfC D).1 = O at *
    conv => whnf
    refine CallH.freeze 0 0 1 rfl rfl ⟨by rw [ci_length]; omega, by omega, by omega⟩ ?_
    rw [Nat.mul_one, ci_take, List.take_of_length_le (by omega)]
    refine c_trim' O _ h4 (by omega) rfl ?_
    conv => whnf
    rfl
def bv : List Int → Int
  | [] => 0
  | b :: l => b + 2 * bv l
theorem bv_snoc : ∀ (l : List Int) (b : Int), bv (l ++ [b]) = bv l + 2 ^ l.length * b
  | [], b => by simp [bv]
  | c :: l, b => by
    have := bv_snoc l b
    simp only [List.cons_append, bv, this, List.length_cons, Int.pow_succ]
    rw [Int.mul_add, ← Int.mul_assoc, Int.mul_comm 2 (2 ^ l.length)]; omega
theorem bv_nonneg : ∀ {l : List Int}, (∀ b ∈ l, 0 ≤ b ∧ b ≤ 1) → 0 ≤ bv l
  | [], _ => by simp [bv]
  | b :: l, h => by
    have h1 := h b (by simp)
    have h2 := bv_nonneg (l := l) (fun c hc => h c (by simp [hc]))
    simp only [bv]; omega
theorem pow_room {e K : Nat} (h : e + 2 ≤ 16 * K) : 4 * 2 ^ e ≤ 65536 ^ K := by
  have : (65536 : Nat) ^ K = 2 ^ (16 * K) := by rw [Nat.pow_mul]
  rw [this]
  have h2 : (2 : Nat) ^ (e + 2) ≤ 2 ^ (16 * K) := Nat.pow_le_pow_right (by decide) h
  rw [Nat.pow_add] at h2
  omega
theorem bv_drop_le : ∀ (l : List Int) (j : Nat), (∀ b ∈ l, 0 ≤ b ∧ b ≤ 1) → bv (l.drop j) ≤ bv l
  | l, 0, _ => by simp
  | [], j + 1, _ => by simp
  | b :: l, j + 1, h => by
    have h1 := h b (by simp)
    have h2 := bv_drop_le l j (fun c hc => h c (by simp [hc]))
    have h3 := bv_nonneg (l := l) (fun c hc => h c (by simp [hc]))
    simp only [List.drop_succ_cons, bv]; omega
def flrQ (s : Bool) (m C : Nat) : Nat := if s = true ∧ m % C ≠ 0 then m / C + 1 else m / C
set_option maxRecDepth 20000 in
theorem c_floor (e K : Nat) (hK : e + 2 ≤ 16 * K) (hK6 : K ≤ 600) (s : Bool) (m C : Nat) (hC : 0 < C) (hm : m < 2 ^ e) (hC2 : C < 2 ^ e) : ACalls seat 82 [nv s m, lv (dig C)] [] (fun x _ => x = .ret (nv (s && decide (flrQ s m C ≠ 0)) (flrQ s m C))) := by
  refine ACalls.body seat_ok Tryd.func82 rfl rfl ?_
  unfold nv
  have h200 := pow_room hK
  have dl13 : ∀ {n : Nat}, n < 65536 ^ K → (dig n).length ≤ K := fun h => dig_length_lt h
  have l1 : lv (dig 1) = .vec [.int .i64 1] 1 none := rfl
  conv => whnf
  refine Sat.nilTok 5 3 1 rfl ?_
  refine Sat.cut (fun x t h => x = .exit 0 ∧ ∃ o : List Int, (∀ b ∈ o, 0 ≤ b ∧ b ≤ 1) ∧ o.length ≤ 10000 ∧ bv o = m ∧ t = (uu::lv (dig C)::.ptr 0 0::uu::.ptr 1 0::.vec (ci .i64 o) o.length (some 2)::uu::uu::uu::uu::uu::uu::uu::uu::uu::uu::uu::uu::uu::uu::uu::uu::uu::uu::uu::uu::uu::uu::uu::uu::uu::uu::uu::uu::uu::uu::uu::uu::uu::uu::uu::uu::uu::uu::uu::uu::uu::uu::uu::uu::uu::uu::uu::uu::uu::uu::uu::uu::uu::uu::uu::uu::uu::uu::uu::uu::uu::uu::uu::uu::uu::uu::uu::uu::uu::uu::uu::[]) ∧
      h = [.var [.bool s, lv (dig m)] 93, .var [.bool false, .nils] 93, .tok o.length 3 1]) ?_ ?_
  · refine Sat.invP seat_ok seat_g (maskOf 77 [1, 2, 4, 5, 6]) 3 (fun μ t h => ∃ (d : Nat) (o : List Int), (∀ b ∈ o, 0 ≤ b ∧ b ≤ 1) ∧ (m : Int) = bv o + 2 ^ o.length * d ∧ d ≤ m ∧ o.length ≤ e ∧ μ = d ∧
      t = (uu::lv (dig C)::.ptr 0 0::uu::.ptr 1 0::.vec (ci .i64 o) o.length (some 2)::lv (dig d)::uu::uu::uu::uu::uu::uu::uu::uu::uu::uu::uu::uu::uu::uu::uu::uu::uu::uu::uu::uu::uu::uu::uu::uu::uu::uu::uu::uu::uu::uu::uu::uu::uu::uu::uu::uu::uu::uu::uu::uu::uu::uu::uu::uu::uu::uu::uu::uu::uu::uu::uu::uu::uu::uu::uu::uu::uu::uu::uu::uu::uu::uu::uu::uu::uu::uu::uu::uu::uu::uu::[]) ∧ h = [.var [.bool s, lv (dig m)] 93, .var [.bool false, .nils] 93, .tok o.length 3 1])
      ?_ ⟨_, _, WeakL.of_eq rfl, m, [], by simp, by simp [bv], Nat.le_refl _, by simp, rfl, rfl, rfl⟩ ?_
    · rintro _ _ _ ⟨d, o, -, -, -, -, rfl, rfl, rfl⟩
      exact ⟨rfl, (by simp [IdsL, Ids, IdsH, IdsC, lv_ids, ci_ids]), (by simp [IdsL, Ids, IdsH, IdsC, lv_ids, ci_ids])⟩
    rintro d _ _ ⟨_, o, ho, hv, hdm, hol, rfl, rfl, rfl⟩
    have hb0 := bv_nonneg ho
    have hle : d ≠ 0 → o.length < e := fun hd => by
      apply Nat.lt_of_not_le; intro h
      have h1 : (2 : Nat) ^ e ≤ 2 ^ o.length := Nat.pow_le_pow_right (by decide) h
      have h2 : 2 ^ o.length * 1 ≤ 2 ^ o.length * d := Nat.mul_le_mul_left _ (by omega)
      have h3 : ((2 ^ o.length * d : Nat) : Int) = 2 ^ o.length * (d : Int) := by simp
      omega
    by_cases g : d = 0
    · subst g
      have hlen : o.length ≤ 10000 := by omega
      conv => whnf
      repeat' ((first | refine zq1 (by omega) ?_ | refine zq2 (by omega) ?_ | refine NumH.rem (by omega) ?_ | refine zq4 (by omega) ?_ | refine zq5 (by omega) ?_ | refine zq6 ?_ | refine Req.mk (by omega) ?_ | refine Req.mk (by dsimp only; omega) ?_ | refine Req.mk ⟨rfl, rfl, rfl, by simp [ci_length, *], rfl, by simp [okCell], by dsimp only; omega, by omega, by decide⟩ ?_ | refine Req.mk (show pendP _ _ by repeat' constructor) ?_ | (with_reducible first | refine brT (by assumption) ?_ | refine brF (by assumption) ?_ | refine brDT (by omega) ?_ | refine brDF (by omega) ?_ | refine brET (by omega) ?_ | refine brEF (by omega) ?_ | refine brNET (by omega) ?_ | refine brNEF (by omega) ?_ | refine brNot ?_)); conv => whnf)
      exact ⟨_, keepT_weak (maskOf 77 [1, 2, 4, 5]) _, rfl, o, ho, hlen, by rw [hv]; simp, rfl, rfl⟩
    · have hlt := hle g
      have ch := c_half d (Nat.le_trans (dl13 (by omega)) (by omega))
      have hdl : 0 < (dig d).length := by
        apply Nat.pos_of_ne_zero; intro h
        exact g (dig_nil.1 (List.length_eq_zero_iff.1 h))
      have hv2 : (m : Int) = bv (o ++ [((d % 2 : Nat) : Int)]) + 2 ^ (o ++ [((d % 2 : Nat) : Int)]).length * ((d / 2 : Nat) : Int) := by
        rw [bv_snoc, hv]
        simp only [List.length_append, List.length_singleton, Int.pow_succ]
        rw [Int.add_assoc, Int.mul_assoc, ← Int.mul_add]
        congr 2; omega
      have ho2 : ∀ b ∈ o ++ [((d % 2 : Nat) : Int)], 0 ≤ b ∧ b ≤ 1 := fun b hb => by
        rcases List.mem_append.1 hb with hb | hb
        · exact ho b hb
        · simp only [List.mem_singleton] at hb; omega
      have hlt2 : d / 2 < d := by omega
      have hle2 : d / 2 ≤ m := by omega
      have hsn := ci_snoc .i64 o ((d % 2 : Nat) : Int) (some 2)
      have hll : (o ++ [((d % 2 : Nat) : Int)]).length = o.length + 1 := by simp
      generalize ((d % 2 : Nat) : Int) = b at *
      generalize d / 2 = d2 at *
      conv => whnf
      repeat' ((first | refine zq1 (by omega) ?_ | refine zq2 (by omega) ?_ | refine NumH.rem (by omega) ?_ | refine zq4 (by omega) ?_ | refine zq5 (by omega) ?_ | refine zq6 ?_ | refine Req.mk (by omega) ?_ | refine Req.mk (by dsimp only; omega) ?_ | refine Req.mk ⟨rfl, rfl, rfl, by simp [ci_length, *], rfl, by simp [okCell], by dsimp only; omega, by omega, by decide⟩ ?_ | refine Req.mk (show pendP _ _ by repeat' constructor) ?_ | (with_reducible first | refine brT (by assumption) ?_ | refine brF (by assumption) ?_ | refine brDT (by omega) ?_ | refine brDF (by omega) ?_ | refine brET (by omega) ?_ | refine brEF (by omega) ?_ | refine brNET (by omega) ?_ | refine brNEF (by omega) ?_ | refine brNot ?_)); conv => whnf)
      refine CallH.lift seat_g ch ⟨lv_closed _, trivial⟩ ⟨lv_closed _, by simp [Closed], trivial⟩ ?_
      conv => whnf
      repeat' ((first | refine zq1 (by omega) ?_ | refine zq2 (by omega) ?_ | refine NumH.rem (by omega) ?_ | refine zq4 (by omega) ?_ | refine zq5 (by omega) ?_ | refine zq6 ?_ | refine Req.mk (by omega) ?_ | refine Req.mk (by dsimp only; omega) ?_ | refine Req.mk ⟨rfl, rfl, rfl, by simp [ci_length, *], rfl, by simp [okCell], by dsimp only; omega, by omega, by decide⟩ ?_ | refine Req.mk (show pendP _ _ by repeat' constructor) ?_ | (with_reducible first | refine brT (by assumption) ?_ | refine brF (by assumption) ?_ | refine brDT (by omega) ?_ | refine brDF (by omega) ?_ | refine brET (by omega) ?_ | refine brEF (by omega) ?_ | refine brNET (by omega) ?_ | refine brNEF (by omega) ?_ | refine brNot ?_)); conv => whnf)
      refine ⟨_, _, hlt2, WeakL.of_eq rfl, d2, o ++ [b], ho2, hv2, hle2, by rw [hll]; omega, rfl, ?_, ?_⟩
      · rw [← hsn]; rfl
      · rw [hll]; rfl
  · rintro _ _ _ ⟨rfl, o, ho, hol, hbv, rfl, rfl⟩
    conv => whnf
    repeat' ((first | refine zq1 (by omega) ?_ | refine zq2 (by omega) ?_ | refine NumH.rem (by omega) ?_ | refine zq4 (by omega) ?_ | refine zq5 (by omega) ?_ | refine zq6 ?_ | refine Req.mk (by omega) ?_ | refine Req.mk (by dsimp only; omega) ?_ | refine Req.mk ⟨rfl, rfl, rfl, by simp [ci_length, *], rfl, by simp [okCell], by dsimp only; omega, by omega, by decide⟩ ?_ | refine Req.mk (show pendP _ _ by repeat' constructor) ?_ | (with_reducible first | refine brT (by assumption) ?_ | refine brF (by assumption) ?_ | refine brDT (by omega) ?_ | refine brDF (by omega) ?_ | refine brET (by omega) ?_ | refine brEF (by omega) ?_ | refine brNET (by omega) ?_ | refine brNEF (by omega) ?_ | refine brNot ?_)); conv => whnf)
    refine Sat.cut (fun x t h => x = .exit 2 ∧ t = (uu::uu::.ptr 0 0::uu::.ptr 1 0::uu::uu::uu::uu::lv (dig (m / C))::lv (dig (m % C))::uu::uu::uu::uu::uu::uu::uu::uu::uu::uu::uu::uu::uu::uu::uu::uu::uu::uu::uu::uu::uu::uu::uu::uu::uu::uu::uu::uu::uu::uu::uu::uu::uu::uu::uu::uu::uu::uu::uu::uu::uu::uu::uu::uu::uu::uu::uu::uu::uu::uu::uu::uu::uu::uu::uu::uu::uu::uu::uu::uu::uu::uu::uu::uu::uu::uu::[]) ∧ h = [.var [.bool s, lv (dig m)] 93, .var [.bool false, .nils] 93, .tok o.length 3 1]) ?_ ?_
    · refine Sat.invP seat_ok seat_g (maskOf 77 [1, 2, 4, 5, 9, 10, 11]) 3 (fun μ t h => ∃ (j M : Nat), j ≤ o.length ∧ (M : Int) = bv (o.drop j) ∧ μ = j ∧
        t = (uu::lv (dig C)::.ptr 0 0::uu::.ptr 1 0::.vec (ci .i64 o) o.length (some 2)::uu::uu::uu::lv (dig (M / C))::lv (dig (M % C))::.int .i64 ((j : Int) - 1)::uu::uu::uu::uu::uu::uu::uu::uu::uu::uu::uu::uu::uu::uu::uu::uu::uu::uu::uu::uu::uu::uu::uu::uu::uu::uu::uu::uu::uu::uu::uu::uu::uu::uu::uu::uu::uu::uu::uu::uu::uu::uu::uu::uu::uu::uu::uu::uu::uu::uu::uu::uu::uu::uu::uu::uu::uu::uu::uu::uu::uu::uu::uu::uu::uu::[]) ∧ h = [.var [.bool s, lv (dig m)] 93, .var [.bool false, .nils] 93, .tok o.length 3 1])
        ?_ ⟨o.length, _, WeakL.trans (WeakL.setAt 9 rfl lv_nils) (WeakL.setAt 10 rfl lv_nils), o.length, 0, Nat.le_refl _, by simp [bv], rfl, by rw [Nat.zero_div, Nat.zero_mod]; rfl, rfl⟩ ?_
      · rintro _ _ _ ⟨j, M, -, -, rfl, rfl, rfl⟩
        exact ⟨rfl, (by simp [IdsL, Ids, IdsH, IdsC, lv_ids, ci_ids]), (by simp [IdsL, Ids, IdsH, IdsC, lv_ids, ci_ids])⟩
      rintro j _ _ ⟨_, M, hj, hM, rfl, rfl, rfl⟩
      have hMle : M ≤ m := by have := bv_drop_le o j ho; omega
      cases j with
      | zero =>
        have : M = m := by simp at hM; omega
        subst this
        conv => whnf
        repeat' ((first | refine zq1 (by omega) ?_ | refine zq2 (by omega) ?_ | refine NumH.rem (by omega) ?_ | refine zq4 (by omega) ?_ | refine zq5 (by omega) ?_ | refine zq6 ?_ | refine Req.mk (by omega) ?_ | refine Req.mk (by dsimp only; omega) ?_ | refine Req.mk ⟨rfl, rfl, rfl, by simp [ci_length, *], rfl, by simp [okCell], by dsimp only; omega, by omega, by decide⟩ ?_ | refine Req.mk (show pendP _ _ by repeat' constructor) ?_ | (with_reducible first | refine brT (by assumption) ?_ | refine brF (by assumption) ?_ | refine brDT (by omega) ?_ | refine brDF (by omega) ?_ | refine brET (by omega) ?_ | refine brEF (by omega) ?_ | refine brNET (by omega) ?_ | refine brNEF (by omega) ?_ | refine brNot ?_)); conv => whnf)
        exact ⟨_, keepT_weak (maskOf 77 [2, 4, 9, 10]) _, rfl, rfl, rfl⟩
      | succ j =>
      obtain ⟨b, hb⟩ : ∃ b, o[j]? = some b := ⟨_, List.getElem?_eq_getElem (by omega)⟩
      have hbb := ho b (List.mem_of_getElem? hb)
      have hdr := drop_cons' hb
      have hMq : M = C * (M / C) + M % C := (Nat.div_add_mod M C).symm
      have hrl : M % C < C := Nat.mod_lt _ hC
      have hql : M / C ≤ M := Nat.div_le_self _ _
      generalize M / C = q at *
      generalize M % C = r at *
      have ej : ((j + 1 : Nat) : Int) - 1 = j := by omega
      rw [ej]
      have pq := c_plusN q q (Nat.le_trans (dl13 (by omega)) (by omega)) (Nat.le_trans (dl13 (by omega)) (by omega))
      have pr := c_plusN r r (Nat.le_trans (dl13 (by omega)) (by omega)) (Nat.le_trans (dl13 (by omega)) (by omega))
      have pq1 := c_plusN (q + q) 1 (Nat.le_trans (dl13 (by omega)) (by omega)) (by decide)
      rw [l1] at pq1
      obtain hbit | hbit : b = 0 ∨ b = 1 := by omega
      · subst hbit
        have er : r + r + 0 < 65536 ^ K := by omega
        have pl := c_lessN (r + r + 0) C (Nat.le_trans (dl13 er) (by omega)) (Nat.le_trans (dl13 (by omega)) (by omega))
        rw [Nat.add_zero] at pl er
        by_cases g2 : r + r < C
        · have e1 : (2 * M + 0) / C = q + q := by
            rw [hMq, show 2 * (C * q + r) + 0 = r + r + C * (q + q) by rw [Nat.mul_add C q q]; omega, Nat.add_mul_div_left _ _ hC, Nat.div_eq_of_lt g2, Nat.zero_add]
          have e2 : (2 * M + 0) % C = r + r := by
            rw [hMq, show 2 * (C * q + r) + 0 = r + r + C * (q + q) by rw [Nat.mul_add C q q]; omega, Nat.add_mul_mod_self_left, Nat.mod_eq_of_lt g2]
          rw [decide_eq_true g2] at pl
          conv => whnf
          repeat' ((first | refine zq1 (by omega) ?_ | refine zq2 (by omega) ?_ | refine NumH.rem (by omega) ?_ | refine zq4 (by omega) ?_ | refine zq5 (by omega) ?_ | refine zq6 ?_ | refine Req.mk (by omega) ?_ | refine Req.mk (by dsimp only; omega) ?_ | refine Req.mk ⟨rfl, rfl, rfl, by simp [ci_length, *], rfl, by simp [okCell], by dsimp only; omega, by omega, by decide⟩ ?_ | refine Req.mk (show pendP _ _ by repeat' constructor) ?_ | (with_reducible first | refine brT (by assumption) ?_ | refine brF (by assumption) ?_ | refine brDT (by omega) ?_ | refine brDF (by omega) ?_ | refine brET (by omega) ?_ | refine brEF (by omega) ?_ | refine brNET (by omega) ?_ | refine brNEF (by omega) ?_ | refine brNot ?_)); conv => whnf)
          repeat' (first | (refine CallH.lift seat_g pq ⟨lv_closed _, lv_closed _, trivial⟩ (by first | exact lv_closed _ | simp [Closed]) ?_; conv => whnf) | (refine CallH.lift seat_g pr ⟨lv_closed _, lv_closed _, trivial⟩ (by first | exact lv_closed _ | simp [Closed]) ?_; conv => whnf) | (refine CallH.lift seat_g pl ⟨lv_closed _, lv_closed _, trivial⟩ (by first | exact lv_closed _ | simp [Closed]) ?_; conv => whnf) | (refine ldI _ (ci_sub .i64 hb) ?_; conv => whnf) | ((first | refine zq1 (by omega) ?_ | refine zq2 (by omega) ?_ | refine NumH.rem (by omega) ?_ | refine zq4 (by omega) ?_ | refine zq5 (by omega) ?_ | refine zq6 ?_ | refine Req.mk (by omega) ?_ | refine Req.mk (by dsimp only; omega) ?_ | refine Req.mk ⟨rfl, rfl, rfl, by simp [ci_length, *], rfl, by simp [okCell], by dsimp only; omega, by omega, by decide⟩ ?_ | refine Req.mk (show pendP _ _ by repeat' constructor) ?_ | (with_reducible first | refine brT (by assumption) ?_ | refine brF (by assumption) ?_ | refine brDT (by omega) ?_ | refine brDF (by omega) ?_ | refine brET (by omega) ?_ | refine brEF (by omega) ?_ | refine brNET (by omega) ?_ | refine brNEF (by omega) ?_ | refine brNot ?_)); conv => whnf))
          exact ⟨_, _, Nat.lt_succ_self j, WeakL.of_eq rfl, j, 2 * M + 0, by omega, by rw [hdr]; simp only [bv]; omega, rfl, by rw [e1, e2]; rfl, rfl⟩
        · have e1 : (2 * M + 0) / C = q + q + 1 := by
            rw [hMq, show 2 * (C * q + r) + 0 = (r + r - C) + C * (q + q + 1) by rw [Nat.mul_add C (q + q) 1, Nat.mul_add C q q]; omega, Nat.add_mul_div_left _ _ hC, Nat.div_eq_of_lt (by omega), Nat.zero_add]
          have e2 : (2 * M + 0) % C = r + r - C := by
            rw [hMq, show 2 * (C * q + r) + 0 = (r + r - C) + C * (q + q + 1) by rw [Nat.mul_add C (q + q) 1, Nat.mul_add C q q]; omega, Nat.add_mul_mod_self_left, Nat.mod_eq_of_lt (by omega)]
          rw [decide_eq_false g2] at pl
          have pm := c_minusN (r + r) C (by omega) (Nat.le_trans (dl13 er) (by omega)) (Nat.le_trans (dl13 (by omega)) (by omega))
          conv => whnf
          repeat' ((first | refine zq1 (by omega) ?_ | refine zq2 (by omega) ?_ | refine NumH.rem (by omega) ?_ | refine zq4 (by omega) ?_ | refine zq5 (by omega) ?_ | refine zq6 ?_ | refine Req.mk (by omega) ?_ | refine Req.mk (by dsimp only; omega) ?_ | refine Req.mk ⟨rfl, rfl, rfl, by simp [ci_length, *], rfl, by simp [okCell], by dsimp only; omega, by omega, by decide⟩ ?_ | refine Req.mk (show pendP _ _ by repeat' constructor) ?_ | (with_reducible first | refine brT (by assumption) ?_ | refine brF (by assumption) ?_ | refine brDT (by omega) ?_ | refine brDF (by omega) ?_ | refine brET (by omega) ?_ | refine brEF (by omega) ?_ | refine brNET (by omega) ?_ | refine brNEF (by omega) ?_ | refine brNot ?_)); conv => whnf)
          repeat' (first | (refine CallH.lift seat_g pq ⟨lv_closed _, lv_closed _, trivial⟩ (by first | exact lv_closed _ | simp [Closed]) ?_; conv => whnf) | (refine CallH.lift seat_g pr ⟨lv_closed _, lv_closed _, trivial⟩ (by first | exact lv_closed _ | simp [Closed]) ?_; conv => whnf) | (refine CallH.lift seat_g pl ⟨lv_closed _, lv_closed _, trivial⟩ (by first | exact lv_closed _ | simp [Closed]) ?_; conv => whnf) | (refine CallH.lift seat_g pm ⟨lv_closed _, lv_closed _, trivial⟩ (by first | exact lv_closed _ | simp [Closed]) ?_; conv => whnf) | (refine CallH.weakA (WeakL.cons (Weak.refl _) (WeakL.cons Weak.tok WeakL.nil)) ?_; refine CallH.lift seat_g pq1 ⟨lv_closed _, by simp [Closed, ClosedL], trivial⟩ (lv_closed _) ?_; conv => whnf) | (refine ldI _ (ci_sub .i64 hb) ?_; conv => whnf) | ((first | refine zq1 (by omega) ?_ | refine zq2 (by omega) ?_ | refine NumH.rem (by omega) ?_ | refine zq4 (by omega) ?_ | refine zq5 (by omega) ?_ | refine zq6 ?_ | refine Req.mk (by omega) ?_ | refine Req.mk (by dsimp only; omega) ?_ | refine Req.mk ⟨rfl, rfl, rfl, by simp [ci_length, *], rfl, by simp [okCell], by dsimp only; omega, by omega, by decide⟩ ?_ | refine Req.mk (show pendP _ _ by repeat' constructor) ?_ | (with_reducible first | refine brT (by assumption) ?_ | refine brF (by assumption) ?_ | refine brDT (by omega) ?_ | refine brDF (by omega) ?_ | refine brET (by omega) ?_ | refine brEF (by omega) ?_ | refine brNET (by omega) ?_ | refine brNEF (by omega) ?_ | refine brNot ?_)); conv => whnf))
          exact ⟨_, _, Nat.lt_succ_self j, WeakL.of_eq rfl, j, 2 * M + 0, by omega, by rw [hdr]; simp only [bv]; omega, rfl, by rw [e1, e2]; rfl, rfl⟩
      · subst hbit
        have er : r + r + 1 < 65536 ^ K := by omega
        have pl := c_lessN (r + r + 1) C (Nat.le_trans (dl13 er) (by omega)) (Nat.le_trans (dl13 (by omega)) (by omega))
        have pr1 := c_plusN (r + r) 1 (Nat.le_trans (dl13 (by omega)) (by omega)) (by decide)
        rw [l1] at pr1
        by_cases g2 : r + r + 1 < C
        · have e1 : (2 * M + 1) / C = q + q := by
            rw [hMq, show 2 * (C * q + r) + 1 = r + r + 1 + C * (q + q) by rw [Nat.mul_add C q q]; omega, Nat.add_mul_div_left _ _ hC, Nat.div_eq_of_lt g2, Nat.zero_add]
          have e2 : (2 * M + 1) % C = r + r + 1 := by
            rw [hMq, show 2 * (C * q + r) + 1 = r + r + 1 + C * (q + q) by rw [Nat.mul_add C q q]; omega, Nat.add_mul_mod_self_left, Nat.mod_eq_of_lt g2]
          rw [decide_eq_true g2] at pl
          conv => whnf
          repeat' ((first | refine zq1 (by omega) ?_ | refine zq2 (by omega) ?_ | refine NumH.rem (by omega) ?_ | refine zq4 (by omega) ?_ | refine zq5 (by omega) ?_ | refine zq6 ?_ | refine Req.mk (by omega) ?_ | refine Req.mk (by dsimp only; omega) ?_ | refine Req.mk ⟨rfl, rfl, rfl, by simp [ci_length, *], rfl, by simp [okCell], by dsimp only; omega, by omega, by decide⟩ ?_ | refine Req.mk (show pendP _ _ by repeat' constructor) ?_ | (with_reducible first | refine brT (by assumption) ?_ | refine brF (by assumption) ?_ | refine brDT (by omega) ?_ | refine brDF (by omega) ?_ | refine brET (by omega) ?_ | refine brEF (by omega) ?_ | refine brNET (by omega) ?_ | refine brNEF (by omega) ?_ | refine brNot ?_)); conv => whnf)
          repeat' (first | (refine CallH.lift seat_g pq ⟨lv_closed _, lv_closed _, trivial⟩ (by first | exact lv_closed _ | simp [Closed]) ?_; conv => whnf) | (refine CallH.lift seat_g pr ⟨lv_closed _, lv_closed _, trivial⟩ (by first | exact lv_closed _ | simp [Closed]) ?_; conv => whnf) | (refine CallH.weakA (WeakL.cons (Weak.refl _) (WeakL.cons Weak.tok WeakL.nil)) ?_; refine CallH.lift seat_g pr1 ⟨lv_closed _, by simp [Closed, ClosedL], trivial⟩ (lv_closed _) ?_; conv => whnf) | (refine CallH.lift seat_g pl ⟨lv_closed _, lv_closed _, trivial⟩ (by first | exact lv_closed _ | simp [Closed]) ?_; conv => whnf) | (refine ldI _ (ci_sub .i64 hb) ?_; conv => whnf) | ((first | refine zq1 (by omega) ?_ | refine zq2 (by omega) ?_ | refine NumH.rem (by omega) ?_ | refine zq4 (by omega) ?_ | refine zq5 (by omega) ?_ | refine zq6 ?_ | refine Req.mk (by omega) ?_ | refine Req.mk (by dsimp only; omega) ?_ | refine Req.mk ⟨rfl, rfl, rfl, by simp [ci_length, *], rfl, by simp [okCell], by dsimp only; omega, by omega, by decide⟩ ?_ | refine Req.mk (show pendP _ _ by repeat' constructor) ?_ | (with_reducible first | refine brT (by assumption) ?_ | refine brF (by assumption) ?_ | refine brDT (by omega) ?_ | refine brDF (by omega) ?_ | refine brET (by omega) ?_ | refine brEF (by omega) ?_ | refine brNET (by omega) ?_ | refine brNEF (by omega) ?_ | refine brNot ?_)); conv => whnf))
          exact ⟨_, _, Nat.lt_succ_self j, WeakL.of_eq rfl, j, 2 * M + 1, by omega, by rw [hdr]; simp only [bv]; omega, rfl, by rw [e1, e2]; rfl, rfl⟩
        · have e1 : (2 * M + 1) / C = q + q + 1 := by
            rw [hMq, show 2 * (C * q + r) + 1 = (r + r + 1 - C) + C * (q + q + 1) by rw [Nat.mul_add C (q + q) 1, Nat.mul_add C q q]; omega, Nat.add_mul_div_left _ _ hC, Nat.div_eq_of_lt (by omega), Nat.zero_add]
          have e2 : (2 * M + 1) % C = r + r + 1 - C := by
            rw [hMq, show 2 * (C * q + r) + 1 = (r + r + 1 - C) + C * (q + q + 1) by rw [Nat.mul_add C (q + q) 1, Nat.mul_add C q q]; omega, Nat.add_mul_mod_self_left, Nat.mod_eq_of_lt (by omega)]
          rw [decide_eq_false g2] at pl
          have pm := c_minusN (r + r + 1) C (by omega) (Nat.le_trans (dl13 er) (by omega)) (Nat.le_trans (dl13 (by omega)) (by omega))
          conv => whnf
          repeat' ((first | refine zq1 (by omega) ?_ | refine zq2 (by omega) ?_ | refine NumH.rem (by omega) ?_ | refine zq4 (by omega) ?_ | refine zq5 (by omega) ?_ | refine zq6 ?_ | refine Req.mk (by omega) ?_ | refine Req.mk (by dsimp only; omega) ?_ | refine Req.mk ⟨rfl, rfl, rfl, by simp [ci_length, *], rfl, by simp [okCell], by dsimp only; omega, by omega, by decide⟩ ?_ | refine Req.mk (show pendP _ _ by repeat' constructor) ?_ | (with_reducible first | refine brT (by assumption) ?_ | refine brF (by assumption) ?_ | refine brDT (by omega) ?_ | refine brDF (by omega) ?_ | refine brET (by omega) ?_ | refine brEF (by omega) ?_ | refine brNET (by omega) ?_ | refine brNEF (by omega) ?_ | refine brNot ?_)); conv => whnf)
          repeat' (first | (refine CallH.lift seat_g pq ⟨lv_closed _, lv_closed _, trivial⟩ (by first | exact lv_closed _ | simp [Closed]) ?_; conv => whnf) | (refine CallH.lift seat_g pr ⟨lv_closed _, lv_closed _, trivial⟩ (by first | exact lv_closed _ | simp [Closed]) ?_; conv => whnf) | (refine CallH.weakA (WeakL.cons (Weak.refl _) (WeakL.cons Weak.tok WeakL.nil)) ?_; refine CallH.lift seat_g pr1 ⟨lv_closed _, by simp [Closed, ClosedL], trivial⟩ (lv_closed _) ?_; conv => whnf) | (refine CallH.lift seat_g pl ⟨lv_closed _, lv_closed _, trivial⟩ (by first | exact lv_closed _ | simp [Closed]) ?_; conv => whnf) | (refine CallH.lift seat_g pm ⟨lv_closed _, lv_closed _, trivial⟩ (by first | exact lv_closed _ | simp [Closed]) ?_; conv => whnf) | (refine CallH.weakA (WeakL.cons (Weak.refl _) (WeakL.cons Weak.tok WeakL.nil)) ?_; refine CallH.lift seat_g pq1 ⟨lv_closed _, by simp [Closed, ClosedL], trivial⟩ (lv_closed _) ?_; conv => whnf) | (refine ldI _ (ci_sub .i64 hb) ?_; conv => whnf) | ((first | refine zq1 (by omega) ?_ | refine zq2 (by omega) ?_ | refine NumH.rem (by omega) ?_ | refine zq4 (by omega) ?_ | refine zq5 (by omega) ?_ | refine zq6 ?_ | refine Req.mk (by omega) ?_ | refine Req.mk (by dsimp only; omega) ?_ | refine Req.mk ⟨rfl, rfl, rfl, by simp [ci_length, *], rfl, by simp [okCell], by dsimp only; omega, by omega, by decide⟩ ?_ | refine Req.mk (show pendP _ _ by repeat' constructor) ?_ | (with_reducible first | refine brT (by assumption) ?_ | refine brF (by assumption) ?_ | refine brDT (by omega) ?_ | refine brDF (by omega) ?_ | refine brET (by omega) ?_ | refine brEF (by omega) ?_ | refine brNET (by omega) ?_ | refine brNEF (by omega) ?_ | refine brNot ?_)); conv => whnf))
          exact ⟨_, _, Nat.lt_succ_self j, WeakL.of_eq rfl, j, 2 * M + 1, by omega, by rw [hdr]; simp only [bv]; omega, rfl, by rw [e1, e2]; rfl, rfl⟩
    · rintro _ _ _ ⟨rfl, rfl, rfl⟩
      have hz : ∀ x, (dig x).length = 0 ↔ x = 0 := fun x => by rw [List.length_eq_zero_iff]; exact dig_nil
      have hql : m / C ≤ m := Nat.div_le_self _ _
      cases s with
      | false =>
        have ef : flrQ false m C = m / C := if_neg (by simp)
        rw [ef]
        conv => whnf
        rfl
      | true =>
        by_cases g : m % C = 0
        · have ef : flrQ true m C = m / C := if_neg (by simp [g])
          rw [ef]
          have h1 := (hz (m % C)).2 g
          have hd : decide (m / C ≠ 0) = decide ((((dig (m / C)).length : Nat) : Int) > 0) := decide_eq_decide.2 (by have := hz (m / C); omega)
          rw [hd]
          conv => whnf
          repeat' ((first | refine zq1 (by omega) ?_ | refine zq2 (by omega) ?_ | refine NumH.rem (by omega) ?_ | refine zq4 (by omega) ?_ | refine zq5 (by omega) ?_ | refine zq6 ?_ | refine Req.mk (by omega) ?_ | refine Req.mk (by dsimp only; omega) ?_ | refine Req.mk ⟨rfl, rfl, rfl, by simp [ci_length, *], rfl, by simp [okCell], by dsimp only; omega, by omega, by decide⟩ ?_ | refine Req.mk (show pendP _ _ by repeat' constructor) ?_ | (with_reducible first | refine brT (by assumption) ?_ | refine brF (by assumption) ?_ | refine brDT (by omega) ?_ | refine brDF (by omega) ?_ | refine brET (by omega) ?_ | refine brEF (by omega) ?_ | refine brNET (by omega) ?_ | refine brNEF (by omega) ?_ | refine brNot ?_)); conv => whnf)
          rfl
        · have ef : flrQ true m C = m / C + 1 := if_pos ⟨rfl, g⟩
          rw [ef]
          have h1 : 0 < (dig (m % C)).length := Nat.pos_of_ne_zero fun h => g ((hz _).1 h)
          have pq1 := c_plusN (m / C) 1 (Nat.le_trans (dl13 (by omega)) (by omega)) (by decide)
          rw [l1] at pq1
          have hd : decide (m / C + 1 ≠ 0) = decide ((((dig (m / C + 1)).length : Nat) : Int) > 0) := decide_eq_decide.2 (by have := hz (m / C + 1); omega)
          rw [hd]
          generalize m / C = q at *
          generalize m % C = r at *
          conv => whnf
          repeat' ((first | refine zq1 (by omega) ?_ | refine zq2 (by omega) ?_ | refine NumH.rem (by omega) ?_ | refine zq4 (by omega) ?_ | refine zq5 (by omega) ?_ | refine zq6 ?_ | refine Req.mk (by omega) ?_ | refine Req.mk (by dsimp only; omega) ?_ | refine Req.mk ⟨rfl, rfl, rfl, by simp [ci_length, *], rfl, by simp [okCell], by dsimp only; omega, by omega, by decide⟩ ?_ | refine Req.mk (show pendP _ _ by repeat' constructor) ?_ | (with_reducible first | refine brT (by assumption) ?_ | refine brF (by assumption) ?_ | refine brDT (by omega) ?_ | refine brDF (by omega) ?_ | refine brET (by omega) ?_ | refine brEF (by omega) ?_ | refine brNET (by omega) ?_ | refine brNEF (by omega) ?_ | refine brNot ?_)); conv => whnf)
          refine CallH.weakA (WeakL.cons (Weak.refl _) (WeakL.cons Weak.tok WeakL.nil)) ?_
          refine CallH.lift seat_g pq1 ⟨lv_closed _, by simp [Closed, ClosedL], trivial⟩ (lv_closed _) ?_
          conv => whnf
          rfl
def nearM (s : Bool) (m C : Nat) : Bool × Nat := (addS s (2 * m) false C && decide (flrQ (addS s (2 * m) false C) (addM s (2 * m) false C) (2 * C) ≠ 0), flrQ (addS s (2 * m) false C) (addM s (2 * m) false C) (2 * C))
theorem sg_add (s1 s2 : Bool) (m n : Nat) : sg (addS s1 m s2 n) (addM s1 m s2 n) = sg s1 m + sg s2 n := by
  unfold addS addM
  by_cases h : m < n
  · cases s1 <;> cases s2 <;> simp [sg, h] <;> omega
  · cases s1 <;> cases s2 <;> simp [sg, h] <;> omega
theorem flrQ_spec (s : Bool) (m C : Nat) (hC : 0 < C) : sg s (flrQ s m C) = sg s m / (C : Int) := by
  unfold flrQ
  cases s with
  | false => simp [sg]
  | true =>
    simp only [sg, true_and, if_true]
    have h1 := Nat.div_add_mod m C
    have h2 := Nat.mod_lt m hC
    split
    · rename_i g
      symm
      have : -(m : Int) = ((C - m % C : Nat) : Int) + C * (-((m / C + 1 : Nat) : Int)) := by
        have e1 : ((C - m % C : Nat) : Int) = (C : Int) - ((m % C : Nat) : Int) := Int.ofNat_sub (Nat.le_of_lt h2)
        have e2 : (m : Int) = C * ((m / C : Nat) : Int) + ((m % C : Nat) : Int) := by exact_mod_cast h1.symm
        rw [e1, Int.mul_neg]
        have e3 : (C : Int) * ((m / C + 1 : Nat) : Int) = C * ((m / C : Nat) : Int) + C := by rw [Int.natCast_add, Int.mul_add]; simp
        rw [e3]; omega
      rw [this, Int.add_mul_ediv_left _ _ (by omega), Int.ediv_eq_zero_of_lt (by omega) (by omega)]
      simp
    · rename_i g
      have g : m % C = 0 := by simpa using g
      have e2 : (m : Int) = C * ((m / C : Nat) : Int) := by
        have : m = C * (m / C) := by omega
        exact_mod_cast this
      symm
      rw [show -(m : Int) = C * (-((m / C : Nat) : Int)) by rw [Int.mul_neg]; omega, Int.mul_ediv_cancel_left _ (by omega)]
theorem nearM_spec (s : Bool) (m C : Nat) (hC : 0 < C) : sg (nearM s m C).1 (nearM s m C).2 = (2 * sg s m + C) / (2 * (C : Int)) := by
  have h1 := sg_add s false (2 * m) C
  unfold nearM
  simp only
  generalize addS s (2 * m) false C = u at *
  generalize addM s (2 * m) false C = v at *
  have h2 := flrQ_spec u v (2 * C) (by omega)
  have h3 : sg s (2 * m) = 2 * sg s m := by
    cases s
    · simp [sg]
    · simp [sg]; omega
  have h4 : sg false C = (C : Int) := by simp [sg]
  rw [h1, h3, h4] at h2
  have h5 : ((2 * C : Nat) : Int) = 2 * (C : Int) := by simp
  rw [h5] at h2
  rw [← h2]
  generalize flrQ u v (2 * C) = f
  cases u <;> simp [sg]
  intro h; simp [h]
set_option maxRecDepth 20000 in
theorem c_near01 (e K : Nat) (hK : e + 10 ≤ 16 * K) (hK6 : K ≤ 600) (s : Bool) (m C : Nat) (hC : 0 < C) (hm : m < 2 ^ e) (hC2 : C < 2 ^ e) : ACalls seat 72 [nv s m, nv false C] [] (fun x _ => x = .ret (nv (nearM s m C).1 (nearM s m C).2)) := by
  refine ACalls.body seat_ok Tryd.func72 rfl rfl ?_
  have h198 : (2 : Nat) ^ (e + 8) = 256 * 2 ^ e := by rw [Nat.pow_add]; omega
  have h200 := pow_room (e := e + 8) (K := K) (by omega)
  have dl : ∀ x, x < 2 ^ (e + 8) → (dig x).length ≤ 100000 := fun x hx => Nat.le_trans (dig_length_lt (k := K) (by omega)) (by omega)
  have a1 := c_add s s m m (dl _ (by omega)) (dl _ (by omega))
  rw [show addS s m s m = s from if_pos rfl, show addM s m s m = 2 * m from (if_pos rfl).trans (by omega)] at a1
  have a2 := c_add s false (2 * m) C (dl _ (by omega)) (dl _ (by omega))
  have p1 := c_plusN C C (dl _ (by omega)) (dl _ (by omega))
  rw [show C + C = 2 * C by omega] at p1
  have hv : addM s (2 * m) false C < 2 ^ (e + 8) := by unfold addM; split <;> (try split) <;> omega
  have f1 := c_floor (e + 8) K (by omega) hK6 (addS s (2 * m) false C) (addM s (2 * m) false C) (2 * C) (by omega) hv (by omega)
  unfold nearM
  simp only
  generalize addS s (2 * m) false C = u at *
  generalize addM s (2 * m) false C = v at *
  generalize flrQ u v (2 * C) = f at *
  generalize (u && decide (f ≠ 0)) = uu at *
  conv => whnf
  refine DrawH.plan seat_ok (.take 0 (.take 1 (.take 3 (.take 5 (.take 6 (.take 7 (.take 8 (.perform 2 none (.perform 4 none (.perform 9 none (.perform 10 none (.perform 11 none Plan.done)))))))))))) 0 (by kernel_rfl) ?_
  conv => whnf
  repeat' (first | exact rfl | (refine CallH.lift seat_g a1 ⟨nv_closed _ _, nv_closed _ _, trivial⟩ (nv_closed _ _) ?_; conv => whnf) | (refine CallH.lift seat_g a2 ⟨nv_closed _ _, nv_closed _ _, trivial⟩ (nv_closed _ _) ?_; conv => whnf) | (refine CallH.lift seat_g p1 ⟨lv_closed _, lv_closed _, trivial⟩ (lv_closed _) ?_; conv => whnf) | (refine CallH.lift seat_g f1 ⟨nv_closed _ _, lv_closed _, trivial⟩ (nv_closed _ _) ?_; conv => whnf) | ((first | refine zq1 (by omega) ?_ | refine zq2 (by omega) ?_ | refine NumH.rem (by omega) ?_ | refine zq4 (by omega) ?_ | refine zq5 (by omega) ?_ | refine zq6 ?_ | refine Req.mk (by omega) ?_ | refine Req.mk (by dsimp only; omega) ?_ | refine Req.mk ⟨rfl, rfl, rfl, by simp [ci_length, *], rfl, by simp [okCell], by dsimp only; omega, by omega, by decide⟩ ?_ | refine Req.mk (show pendP _ _ by repeat' constructor) ?_ | (with_reducible first | refine brT (by assumption) ?_ | refine brF (by assumption) ?_ | refine brDT (by omega) ?_ | refine brDF (by omega) ?_ | refine brET (by omega) ?_ | refine brEF (by omega) ?_ | refine brNET (by omega) ?_ | refine brNEF (by omega) ?_ | refine brNot ?_)); conv => whnf) | (refine And.intro ?_ ?_ <;> (conv => whnf)))
theorem dv_drop (n : Nat) : ∀ (j : Nat), dv ((dig n).drop j) = ((n / 65536 ^ j : Nat) : Int) := by
  intro j
  induction j generalizing n with
  | zero => simp [dv_dig]
  | succ j ih =>
    by_cases h : n = 0
    · subst h; simp [dig_zero, dv]
    · rw [dig_pos h, List.drop_succ_cons, ih, Nat.pow_succ, Nat.mul_comm, Nat.div_div_eq_div_mul]
set_option maxRecDepth 20000 in
theorem c_plain01 (s : Bool) (m : Nat) (hm : m < 9223372036854775808) : ACalls seat 71 [nv s m] [] (fun x _ => x = .ret (.tup [.int .i64 (sg s m), .bool true])) := by
  refine ACalls.body seat_ok Tryd.func71 rfl rfl ?_
  unfold nv
  have hl : (dig m).length ≤ 4 := dig_length_lt (Nat.lt_of_lt_of_le hm (by decide))
  have hD := dig_Dg m
  have hdv := dv_drop m
  have hend := dv_dig m
  conv => whnf
  repeat' ((first | refine zq1 (by omega) ?_ | refine zq2 (by omega) ?_ | refine NumH.rem (by omega) ?_ | refine zq4 (by omega) ?_ | refine zq5 (by omega) ?_ | refine zq6 ?_ | refine Req.mk (by omega) ?_ | refine Req.mk (by dsimp only; omega) ?_ | refine Req.mk ⟨rfl, rfl, rfl, by simp [ci_length, *], rfl, by simp [okCell], by dsimp only; omega, by omega, by decide⟩ ?_ | refine Req.mk (show pendP _ _ by repeat' constructor) ?_ | (with_reducible first | refine brT (by assumption) ?_ | refine brF (by assumption) ?_ | refine brDT (by omega) ?_ | refine brDF (by omega) ?_ | refine brET (by omega) ?_ | refine brEF (by omega) ?_ | refine brNET (by omega) ?_ | refine brNEF (by omega) ?_ | refine brNot ?_)); conv => whnf)
  refine Sat.cut (fun x t h => x = .exit 0 ∧ t = (uu::.ptr 0 0::uu::uu::.int .i64 (-(m : Int))::uu::uu::uu::uu::uu::uu::uu::uu::uu::uu::uu::uu::uu::uu::uu::uu::uu::uu::uu::uu::uu::uu::uu::uu::uu::uu::uu::uu::uu::uu::uu::uu::uu::uu::uu::uu::uu::uu::uu::[]) ∧ h = [.var [.bool s, lv (dig m)] 93]) ?_ ?_
  · refine Sat.invP seat_ok seat_g (maskOf 44 [1, 4, 5]) 1 (fun μ t h => ∃ j : Nat, j ≤ (dig m).length ∧ μ = j ∧ t = (uu::.ptr 0 0::uu::uu::.int .i64 (-dv ((dig m).drop j))::.int .i64 ((j : Int) - 1)::uu::uu::uu::uu::uu::uu::uu::uu::uu::uu::uu::uu::uu::uu::uu::uu::uu::uu::uu::uu::uu::uu::uu::uu::uu::uu::uu::uu::uu::uu::uu::uu::uu::uu::uu::uu::uu::uu::[]) ∧ h = [.var [.bool s, lv (dig m)] 93])
      ?_ ⟨(dig m).length, _, WeakL.of_eq ?_, _, Nat.le_refl _, rfl, rfl, rfl⟩ ?_
    · rintro _ _ _ ⟨j, -, -, rfl, rfl⟩
      exact ⟨rfl, (by simp [IdsL, Ids, IdsH, IdsC, lv_ids, ci_ids]), (by simp [IdsL, Ids, IdsH, IdsC, lv_ids, ci_ids])⟩
    · rw [List.drop_length]; rfl
    rintro j _ _ ⟨_, hj, rfl, rfl, rfl⟩
    cases j with
    | zero =>
      rw [List.drop_zero, hend]
      conv => whnf
      repeat' ((first | refine zq1 (by omega) ?_ | refine zq2 (by omega) ?_ | refine NumH.rem (by omega) ?_ | refine zq4 (by omega) ?_ | refine zq5 (by omega) ?_ | refine zq6 ?_ | refine Req.mk (by omega) ?_ | refine Req.mk (by dsimp only; omega) ?_ | refine Req.mk ⟨rfl, rfl, rfl, by simp [ci_length, *], rfl, by simp [okCell], by dsimp only; omega, by omega, by decide⟩ ?_ | refine Req.mk (show pendP _ _ by repeat' constructor) ?_ | (with_reducible first | refine brT (by assumption) ?_ | refine brF (by assumption) ?_ | refine brDT (by omega) ?_ | refine brDF (by omega) ?_ | refine brET (by omega) ?_ | refine brEF (by omega) ?_ | refine brNET (by omega) ?_ | refine brNEF (by omega) ?_ | refine brNot ?_)); conv => whnf)
      exact ⟨_, keepT_weak (maskOf 44 [1, 4]) _, rfl, rfl, rfl⟩
    | succ j =>
      obtain ⟨x, hx⟩ : ∃ x, (dig m)[j]? = some x := ⟨_, List.getElem?_eq_getElem (by omega)⟩
      have hxb := hD x (List.mem_of_getElem? hx)
      have hdr := drop_cons' hx
      have h1 := hdv (j + 1)
      have h2 := hdv j
      rw [hdr] at h2
      simp only [dv] at h2
      have h3 : m / 65536 ^ j ≤ m := Nat.div_le_self _ _
      have hds : dv ((dig m).drop j) = x + 65536 * dv ((dig m).drop (j + 1)) := by rw [hdr]; rfl
      have hv0 : 0 ≤ dv ((dig m).drop (j + 1)) := by rw [h1]; exact Int.natCast_nonneg _
      generalize dv ((dig m).drop (j + 1)) = V at *
      have ej : ((j + 1 : Nat) : Int) - 1 = j := by omega
      rw [ej]
      have hnx : -V * 65536 - x = -(x + 65536 * V) := by omega
      conv => whnf
      repeat' ((first | refine zq1 (by omega) ?_ | refine zq2 (by omega) ?_ | refine NumH.rem (by omega) ?_ | refine zq4 (by omega) ?_ | refine zq5 (by omega) ?_ | refine zq6 ?_ | refine Req.mk (by omega) ?_ | refine Req.mk (by dsimp only; omega) ?_ | refine Req.mk ⟨rfl, rfl, rfl, by simp [ci_length, *], rfl, by simp [okCell], by dsimp only; omega, by omega, by decide⟩ ?_ | refine Req.mk (show pendP _ _ by repeat' constructor) ?_ | (with_reducible first | refine brT (by assumption) ?_ | refine brF (by assumption) ?_ | refine brDT (by omega) ?_ | refine brDF (by omega) ?_ | refine brET (by omega) ?_ | refine brEF (by omega) ?_ | refine brNET (by omega) ?_ | refine brNEF (by omega) ?_ | refine brNot ?_)); conv => whnf)
      repeat' (first | (refine ldI _ (ci_sub .i64 hx) ?_; conv => whnf) | ((first | refine zq1 (by omega) ?_ | refine zq2 (by omega) ?_ | refine NumH.rem (by omega) ?_ | refine zq4 (by omega) ?_ | refine zq5 (by omega) ?_ | refine zq6 ?_ | refine Req.mk (by omega) ?_ | refine Req.mk (by dsimp only; omega) ?_ | refine Req.mk ⟨rfl, rfl, rfl, by simp [ci_length, *], rfl, by simp [okCell], by dsimp only; omega, by omega, by decide⟩ ?_ | refine Req.mk (show pendP _ _ by repeat' constructor) ?_ | (with_reducible first | refine brT (by assumption) ?_ | refine brF (by assumption) ?_ | refine brDT (by omega) ?_ | refine brDF (by omega) ?_ | refine brET (by omega) ?_ | refine brEF (by omega) ?_ | refine brNET (by omega) ?_ | refine brNEF (by omega) ?_ | refine brNot ?_)); conv => whnf))
      exact ⟨_, _, Nat.lt_succ_self j, WeakL.of_eq (by rw [hds, ← hnx]; rfl), j, by omega, rfl, rfl, rfl⟩
  · rintro _ _ _ ⟨rfl, rfl, rfl⟩
    cases s with
    | true =>
      conv => whnf
      rfl
    | false =>
      rw [show sg false m = 0 - -(m : Int) by simp [sg]]
      conv => whnf
      repeat' ((first | refine zq1 (by omega) ?_ | refine zq2 (by omega) ?_ | refine NumH.rem (by omega) ?_ | refine zq4 (by omega) ?_ | refine zq5 (by omega) ?_ | refine zq6 ?_ | refine Req.mk (by omega) ?_ | refine Req.mk (by dsimp only; omega) ?_ | refine Req.mk ⟨rfl, rfl, rfl, by simp [ci_length, *], rfl, by simp [okCell], by dsimp only; omega, by omega, by decide⟩ ?_ | refine Req.mk (show pendP _ _ by repeat' constructor) ?_ | (with_reducible first | refine brT (by assumption) ?_ | refine brF (by assumption) ?_ | refine brDT (by omega) ?_ | refine brDF (by omega) ?_ | refine brET (by omega) ?_ | refine brEF (by omega) ?_ | refine brNET (by omega) ?_ | refine brNEF (by omega) ?_ | refine brNot ?_)); conv => whnf)
      rfl
end Go.Proofs.YtjpaapkdbohgeaaDoor
