/- The abstract evaluator and its rules, part E (texts 40 to 44). No condition: definitions and lemmas. -/
import Derived.Test.YtelgbnjagbleoaaDoorAbsD
import Derived.Recover
import Derived.Scope
set_option linter.unusedSimpArgs false
set_option linter.unusedVariables false
set_option linter.deprecated false
/- A function that defers a call; deferred calls, and those that recover. No condition: definitions and lemmas. -/
namespace Go.Abs
open Go.RowKit
variable {S : Seat} {B : List Deferred}

/-- what comes of a walk that lays no mark -/
def PostM (S : Seat) (B : List Deferred) (E : Env) (k : ExK) (e : Exit) (a : Act) (w : World) : Prop :=
  ∃ E' t h x, Ext E E' ∧ E'.marks = E.marks ∧ R S E' h w ∧ ActR B E' t a ∧ ExitR E' x e ∧ k x t h
theorem PostM.ext {E E' : Env} {k : ExK} {e : Exit} {a : Act} {w : World} (hx : Ext E E') (hm : E'.marks = E.marks) (h : PostM S B E' k e a w) : PostM S B E k e a w := by
  obtain ⟨E2, t, hp, x, h1, h2, h3⟩ := h
  exact ⟨E2, t, hp, x, hx.trans h1, h2.trans hm, h3⟩
theorem opsM_sound (hS : SeatOK S) (ops : Array Oper) {k : ExK} : ∀ (l : List Oper) (i : Nat), ops.toList.drop i = l → ∀ (t : List AV) (h : Heap), opsK S ops.toList l t h k →
    ∀ (E : Env) (w : World) (a : Act), R S E h w → ActR B E t a → wpOpsIn (fen E) 0 S.P ops (PostM S B E k) (List.range' i l.length) a w
  | [], i, _, t, h, hk, E, w, a, hr, ha => ⟨E, t, h, .normal, Ext.refl E, rfl, hr, ha, rfl, hk⟩
  | o :: r, i, hd, t, h, hk, E, w, a, hr, ha => by
    have hget : ops[i]? = some o := by
      have : ops.toList[i]? = some o := by rw [← List.head?_drop, hd]; rfl
      simpa using this
    have hd' : ops.toList.drop (i + 1) = r := by rw [← List.tail_drop, hd]; rfl
    simp only [List.length_cons, List.range'_succ, wpOpsIn, hget]
    have hgo : operK S o t h (fun e h' => match e with | .ret v => setD t o.dst v (fun t' => opsK S ops.toList r t' h' k) | .pan v => k (.pan v) t h') →
        o.wpIn (fen E) 0 S.P a w (wpOpsIn (fen E) 0 S.P ops (PostM S B E k) (List.range' (i + 1) r.length)) (PostM S B E k) := by
      intro hk
      refine operK_sound hS hk hr ha _ _ ?_ ?_
      · intro E' h' v u w' hx hm hr' hv hk'
        simp only [setD_eq] at hk'
        have := opsM_sound hS ops r (i + 1) hd' _ h' hk' E' w' _ hr' (ha.put hx hm hv o.dst)
        rw [fen_ext hx] at this
        exact wpOpsIn_mono (fun _ _ _ h => h.ext hx hm) _ _ _ this
      · intro E' h' v u w' hx hm hr' hv hk'
        exact ⟨E', t, h', .pan v, hx, hm, hr', ha.mono hx hm, ⟨u, rfl, hv⟩, hk'⟩
    have hskip : setD t o.dst (.tup []) (fun t' => opsK S ops.toList r t' h k) →
        (∀ f, o.about S.P w a.eval = some f → (fen E).fn f) ∧ wpOpsIn (fen E) 0 S.P ops (PostM S B E k) (List.range' (i + 1) r.length) (a.put o.dst undef) w := by
      intro hk
      rw [setD_eq] at hk
      exact ⟨fun f _ => fen_fn E f, opsM_sound hS ops r (i + 1) hd' _ h hk E w _ hr (ha.put (Ext.refl E) rfl (VR.dead E) o.dst)⟩
    unfold opsK at hk
    split at hk
    · rename_i hg
      simp only [Region.wanted, hg, if_true]
      exact hgo hk
    · rename_i j want hg
      split at hk
      · rename_i oj hoj
        rw [getO_eq] at hoj
        have hoj : ops[j]? = some oj := by simpa using hoj
        split at hk
        · rename_i d hdst
          have hb : ∀ b, getT t d = .bool b → yielded ops a.tmps j = some b := by
            intro b hb
            rw [getT_eq] at hb
            cases hi : t[d]? with
            | none => simp [hi] at hb
            | some c =>
              simp [hi] at hb
              obtain ⟨u, hu, hv⟩ := ha.1.get d c hi
              rw [hb] at hv; simp only [VR] at hv; subst hv
              have : a.tmps[d]? = some (.bool b) := by simpa using hu
              unfold yielded; rw [hoj]; simp [hdst, this]
          split at hk
          · rename_i b hbe
            have hyb := hb b hbe
            simp only [Region.wanted, hg, hyb]
            cases b with
            | true => simpa using hgo hk
            | false => simpa using hskip hk
          · rename_i b hbe
            have hyb := hb b hbe
            simp only [Region.wanted, hg, hyb]
            cases b with
            | true => simpa using hskip hk
            | false => simpa using hgo hk
          · rename_i hbe
            have hyb : yielded ops a.tmps j = none := by
              rw [getT_eq] at hbe
              cases hi : t[d]? with
              | none => simp [hi] at hbe
              | some c =>
                simp [hi] at hbe
                obtain ⟨u, hu, hv⟩ := ha.1.get d c hi
                rw [hbe] at hv
                have := hv.toDead; subst this
                have : a.tmps[d]? = some undef := by simpa using hu
                unfold yielded; rw [hoj]; simp [hdst, this, undef]
            simp only [Region.wanted, hg, hyb]
            simpa using hskip hk
          · exact hk.elim
        · exact hk.elim
      · exact hk.elim


/-- code without loops -/
def simpleC : Code → Bool
  | .skip => true
  | .region _ _ draw => !draw
  | .seq a b => simpleC a && simpleC b
  | .cond _ a b => simpleC a && simpleC b
  | .ret => true
  | _ => false
theorem codeM_sound (hS : SeatOK S) : ∀ (c : Code), simpleC c = true → ∀ (t : List AV) (h : Heap) (k : ExK), codeK S c t h k → ∀ (E : Env) (w : World) (a : Act), R S E h w → ActR B E t a → c.wpIn (fen E) 0 S.P (PostM S B E k) a w
  | .skip, _, t, h, k, hk, E, w, a, hr, ha => wpIn_skip ⟨E, t, h, .normal, Ext.refl E, rfl, hr, ha, rfl, hk⟩
  | .ret, _, t, h, k, hk, E, w, a, hr, ha => wpIn_ret ⟨E, t, h, .ret, Ext.refl E, rfl, hr, ha, rfl, hk⟩
  | .region id ops draw, hs, t, h, k, hk, E, w, a, hr, ha => by
    cases draw with
    | false =>
      refine wpIn_region ?_
      have := opsM_sound hS ops ops.toList 0 rfl t h hk E w a hr ha
      rwa [Array.length_toList, ← List.range_eq_range'] at this
    | true => cases hs
  | .seq x y, hs, t, h, k, hk, E, w, a, hr, ha => by
    simp only [simpleC, Bool.and_eq_true] at hs
    refine wpIn_seq (wpIn_mono (codeM_sound hS x hs.1 t h _ hk E w a hr ha) ?_)
    rintro e a' w' ⟨E', t', h', z, h1, h1', h2, h3, h4, h5⟩
    cases z with
    | normal =>
      simp only [ExitR] at h4; subst h4
      have := codeM_sound hS y hs.2 t' h' k h5 E' w' a' h2 h3
      rw [fen_ext h1] at this
      exact wpIn_mono this fun _ _ _ h => h.ext h1 h1'
    | exit i => simp only [ExitR] at h4; subst h4; exact ⟨E', t', h', .exit i, h1, h1', h2, h3, rfl, h5⟩
    | goto i => simp only [ExitR] at h4; subst h4; exact ⟨E', t', h', .goto i, h1, h1', h2, h3, rfl, h5⟩
    | ret => simp only [ExitR] at h4; subst h4; exact ⟨E', t', h', .ret, h1, h1', h2, h3, rfl, h5⟩
    | pan v => obtain ⟨u, rfl, hu⟩ := h4; exact ⟨E', t', h', .pan v, h1, h1', h2, h3, ⟨u, rfl, hu⟩, h5⟩
  | .cond c x y, hs, t, h, k, hk, E, w, a, hr, ha => by
    simp only [simpleC, Bool.and_eq_true] at hs
    unfold codeK at hk
    split at hk
    · rename_i b hc
      have hv := ev_VR hr ha c
      rw [hc] at hv; simp only [VR] at hv
      cases b with
      | true => exact wpIn_cond_true hv (codeM_sound hS x hs.1 t h k hk E w a hr ha)
      | false => exact wpIn_cond_false hv (codeM_sound hS y hs.2 t h k hk E w a hr ha)
    · exact hk.elim

/-- the mode in which a frame leaves -/
def ModeR (E : Env) : Option AV → FrameMode → Prop
  | none, u => u = .returning
  | some v, u => ∃ p, u = .panicking [{ v := p, recovered := false }] ∧ VR E v p
/-- what a deferred call comes to: behind it the frame leaves in this mode -/
def DCalls (S : Seat) (g : Nat) (caps : List AV) (h : Heap) (m : Option AV) (K : Option AV → Heap → Prop) : Prop :=
  ∀ (E : Env) (w : World) (caps' : List Value) (u : FrameMode), E.marks = [] → E.rnd = none → R S E h w → VRL E caps caps' → ModeR E m u →
    CallsDIn Fence.wide 0 S.P g caps'.toArray u w fun e u' w' => (∃ v, e = .returned v) ∧ ∃ E' h' m', Ext E E' ∧ E'.marks = [] ∧ R S E' h' w' ∧ ModeR E' m' (settle u') ∧ K m' h'

theorem callsDIn_of_wpS {P : Program} {f : FuncId} {fn : Func} {c : Code} {args : Array Value} {u : FrameMode} {w : World} {n : Nat} {R : Ending → FrameMode → World → Prop}
    (hf : P.funcs[f]? = some fn) (hb : fn.body = some c)
    (h : ∀ (c₀ : Frame) (cs : List Frame), c₀.mode = u →
      c.wpS P (bodyPostS P fn c₀ cs R) { tmps := args ++ Array.replicate (fn.ntmps - args.size) undef, defers := [] } (c₀ :: cs) w) :
    CallsDIn Fence.wide n P f args u w R := by
  refine ⟨trivial, fun c₀ cs hu _ => ?_⟩
  let b : Frame := { (default : Frame) with fn := f, kind := .deferred }
  have henter : Frame.enter P f args .deferred =
      b.at { tmps := args ++ Array.replicate (fn.ntmps - args.size) undef, defers := [] } [.code c] := by
    simp [Frame.enter, Frame.at, hf, hb, b]
  obtain ⟨e, a', cs', w', hq, harr⟩ := h c₀ cs hu b [] rfl rfl
  rw [← henter] at harr
  cases e with
  | normal =>
    obtain ⟨hd, u', rfl, v, hr, hR⟩ := hq
    exact ⟨.returned v, u', w', _, hR, comesIn_wide.2 (Steps.trans harr (.one step_end)), rfl, rfl, rfl, hd, fn, hf, hr⟩
  | ret =>
    obtain ⟨hd, u', rfl, v, hr, hR⟩ := hq
    obtain ⟨todo, hs⟩ := harr
    exact ⟨.returned v, u', w', _, hR, comesIn_wide.2 hs, rfl, rfl, rfl, hd, fn, hf, hr⟩
  | panic chain =>
    obtain ⟨hd, u', rfl, hR⟩ := hq
    obtain ⟨todo, hs⟩ := harr
    exact ⟨.panicked chain, u', w', _, hR, comesIn_wide.2 hs, rfl, rfl, rfl, hd, fn, hf⟩
  | exit id => exact hq.elim
  | goto l => exact hq.elim
  | outgrown =>
    obtain ⟨u', hR⟩ := hq
    exact ⟨.outgrown, u', w', b, hR, comesIn_wide.2 (harr.resolve_left (by simp [b])), rfl, rfl, trivial⟩
theorem run_static (hS : SeatOK S) {cl : Oper} {c : Call} {fc : Nat} {fnc : Func} {cc : Code} (hop : cl.op = .call c) (hcal : c.callee = .value (.func fc)) (hf : S.P.funcs[fc]? = some fnc) (hb : fnc.body = some cc) (hn : (fnc.name == "runtime.NumGoroutine") = false) (a : Act) (w : World) :
    (execOp a.eval cl).run S.P w = .ok (.enter fc (c.args.map a.eval)) w := by
  have h1 : (callFunc fc (c.args.map a.eval)).run S.P w = .ok (.enter fc (c.args.map a.eval)) w := by
    unfold callFunc
    simp only [beq_eq_false_iff_ne, ne_eq] at hn
    simp [Sem.run_bind, go_sem, hf, hn, hb]
  rw [← h1]
  simp [execOp, hop, resolve, hcal, Act.eval, Deferred.ofValue, invoke]

/-- **A deferred closure that recovers, and hands what it got to a function.** -/
theorem DCalls.recover (hS : SeatOK S) {g : Nat} {fn : Func} {id : Nat} {rc cl : Oper} {rest : Code} {d0 : Nat} {c : Call} {fc : Nat} {fnc : Func} {cc : Code}
    (hf : S.P.funcs[g]? = some fn) (hb : fn.body = some (.seq (.region id #[rc, cl] false) rest)) (hrc : ∀ (a : Act) (w : World), (execOp a.eval rc).run S.P w = .ok .recover w) (hrd : rc.dst = some d0) (hrg : rc.guard = none) (hcg : cl.guard = none)
    (hop : cl.op = .call c) (hcal : c.callee = .value (.func fc)) (hfc : S.P.funcs[fc]? = some fnc) (hbc : fnc.body = some cc) (hnc : (fnc.name == "runtime.NumGoroutine") = false) (hsim : simpleC rest = true) (hres : fn.results = #[])
    {caps : List AV} {h : Heap} {m : Option AV} {K : Option AV → Heap → Prop}
    (hk : ∀ v0, (m = none ∧ v0 = .nili) ∨ m = some v0 → opsR S [rc, cl] [cl] ((appL caps (undefs (fn.ntmps - lenN caps))).set d0 v0) h (fun x t1 h1 => x = .normal ∧ codeR S rest t1 h1 (fun x _ h2 => (x = .normal ∨ x = .ret) ∧ K none h2))) : DCalls S g caps h m K := by
  intro E w caps' u hm hrn hr hcaps hu
  refine callsDIn_of_wpS hf hb fun c₀ cs hc0 => ?_
  have hfen : ∀ E', Ext E E' → fen E' = Fence.wide := fun E' hx => by unfold fen; rw [hx.rnd, hrn]
  have hact : ActR [] E (appL caps (undefs (fn.ntmps - lenN caps))) { tmps := caps'.toArray ++ Array.replicate (fn.ntmps - caps'.toArray.size) undef, defers := [] } := by
    refine ⟨?_, by rw [hm]; exact ⟨rfl, List.nodup_nil⟩⟩
    rw [appL_eq, undefs_eq, lenN_eq, hcaps.length]
    simp only [Array.toList_append, Array.toList_replicate, List.size_toArray]
    exact hcaps.append (VRL.replicate_undef _ _ (by simp))
  generalize appL caps (undefs (fn.ntmps - lenN caps)) = t at *
  generalize ({ tmps := caps'.toArray ++ Array.replicate (fn.ntmps - caps'.toArray.size) undef, defers := [] } : Act) = a at *
  -- behind the recovering
  have main : ∀ (v0 : AV) (p : Value) (u1 : FrameMode), ((m = none ∧ v0 = .nili) ∨ m = some v0) → VR E v0 p → settle u1 = .returning →
      wpOpsS S.P #[rc, cl] (Exit.thenS (rest.wpS S.P (bodyPostS S.P fn c₀ cs fun e u' w' => (∃ v, e = .returned v) ∧ ∃ E' h' m', Ext E E' ∧ E'.marks = [] ∧ R S E' h' w' ∧ ModeR E' m' (settle u') ∧ K m' h')) (bodyPostS S.P fn c₀ cs fun e u' w' => (∃ v, e = .returned v) ∧ ∃ E' h' m', Ext E E' ∧ E'.marks = [] ∧ R S E' h' w' ∧ ModeR E' m' (settle u') ∧ K m' h')) [1] (a.put rc.dst p) ({ c₀ with mode := u1 } :: cs) w := by
    intro v0 p u1 hv0 hvp hu1
    have ha1 : ActR [] E (t.set d0 v0) (a.put rc.dst p) := by
      have := hact.put (Ext.refl E) rfl hvp rc.dst
      rw [hrd] at this ⊢; exact this
    have hkk := hk v0 hv0
    rw [opsR_eq] at hkk
    have h1 := opsM_sound hS #[rc, cl] [cl] 1 rfl _ h hkk E w _ hr ha1
    rw [hfen E (Ext.refl E)] at h1
    have hget : (#[rc, cl] : Array Oper)[1]? = some cl := rfl
    have hwant : ∀ y, Region.wanted cl y = true := fun y => by simp [Region.wanted, hcg]
    simp only [List.length_singleton, List.range'_one, wpOpsIn, hget, hwant, if_true] at h1
    have hsem : cl.semAt Fence.wide.round (a.put rc.dst p).eval = execOp (a.put rc.dst p).eval cl := Oper.semAt_eq _ _ _ (by rw [hop]; intro c h; cases h)
    have h2 := h1.2
    rw [hsem, run_static hS hop hcal hfc hbc hnc, Oper.uponIn_enter] at h2
    simp only [wpOpsS, hget, hwant, if_true]
    rw [run_static hS hop hcal hfc hbc hnc]
    simp only [Oper.upon_enter]
    refine (callsIn_wide.1 h2.2).mono ?_
    rintro e w1 he
    have post : ∀ (e : Exit) (a2 : Act) (w2 : World), PostM S [] E (fun x t1 h1 => x = .normal ∧ codeR S rest t1 h1 (fun x _ h2 => (x = .normal ∨ x = .ret) ∧ K none h2)) e a2 w2 → e = .normal ∧ rest.wp S.P (fun e a3 w3 => bodyPostS S.P fn c₀ cs (fun e u' w' => (∃ v, e = .returned v) ∧ ∃ E' h' m', Ext E E' ∧ E'.marks = [] ∧ R S E' h' w' ∧ ModeR E' m' (settle u') ∧ K m' h') e a3 ({ c₀ with mode := u1 } :: cs) w3) a2 w2 := by
      rintro e a2 w2 ⟨E1, t1, h1, x, hx1, hm1, hr1, ha2, hex, rfl, hk1⟩
      simp only [ExitR] at hex; subst hex
      refine ⟨rfl, ?_⟩
      rw [codeR_eq] at hk1
      have h3 := codeM_sound hS rest hsim t1 h1 _ hk1 E1 w2 a2 hr1 ha2
      rw [hfen E1 hx1] at h3
      have h3 := wpIn_wide.1 h3
      refine wp_mono h3 ?_
      rintro e a3 w3 ⟨E2, t2, h2, x, hx2, hm2, hr2, ha3, hex, hxx, hK⟩
      have hmk : E2.marks = [] := hm2.trans (hm1.trans hm)
      have hdef : a3.defers = [] := by rw [ha3.2.1, hmk]; rfl
      have hresr : (results fn a3.tmps).run S.P w3 = .ok (.tuple #[]) w3 := by
        rw [results_eq, hres]; simp [go_sem]
      have fin : bodyPostS S.P fn c₀ cs (fun e u' w' => (∃ v, e = .returned v) ∧ ∃ E' h' m', Ext E E' ∧ E'.marks = [] ∧ R S E' h' w' ∧ ModeR E' m' (settle u') ∧ K m' h') .normal a3 ({ c₀ with mode := u1 } :: cs) w3 :=
        ⟨hdef, u1, rfl, _, hresr, ⟨_, rfl⟩, E2, h2, none, hx1.trans hx2, hmk, hr2, hu1, hK⟩
      rcases hxx with rfl | rfl
      · simp only [ExitR] at hex; subst hex; exact fin
      · simp only [ExitR] at hex; subst hex; exact fin
    cases e with
    | returned v =>
      obtain ⟨h3, h4⟩ := post _ _ _ he
      exact wpS_of_wp h4
    | panicked chain => exact absurd (post _ _ _ he).1 (by simp)
    | outgrown =>
      obtain ⟨a0, w0, h3⟩ := he
      exact absurd (post _ _ _ h3).1 (by simp)
  refine wpS_seq (wpS_region ?_)
  have hr2 : List.range (#[rc, cl] : Array Oper).size = [0, 1] := rfl
  rw [hr2]
  have hget : (#[rc, cl] : Array Oper)[0]? = some rc := rfl
  have hwant : ∀ y, Region.wanted rc y = true := fun y => by simp [Region.wanted, hrg]
  rw [wpOpsS]
  simp only [hget, hwant, if_true, hrc]
  cases m with
  | none =>
    have hu : u = .returning := hu
    have : recoverD (c₀ :: cs) = none := by simp [recoverD, hc0, hu]
    rw [this]
    have := main .nili .nilIface .returning (.inl ⟨rfl, rfl⟩) (by simp only [VR]) rfl
    have hcc : ({ c₀ with mode := .returning } : Frame) = c₀ := by cases c₀; simp only at hc0; rw [hc0, hu]
    rw [hcc] at this; exact this
  | some v =>
    obtain ⟨p, hp, hv⟩ := hu
    have : recoverD (c₀ :: cs) = some (p, { c₀ with mode := .panicking [{ v := p, recovered := true }] } :: cs) := by simp [recoverD, hc0, hp]
    rw [this]
    exact main v p _ (.inr rfl) hv (by simp [settle])

/-- The same, with nothing behind. -/
theorem DCalls.recover0 (hS : SeatOK S) {g : Nat} {fn : Func} {id : Nat} {rc cl : Oper} {d0 : Nat} {c : Call} {fc : Nat} {fnc : Func} {cc : Code}
    (hf : S.P.funcs[g]? = some fn) (hb : fn.body = some (.region id #[rc, cl] false)) (hrc : ∀ (a : Act) (w : World), (execOp a.eval rc).run S.P w = .ok .recover w) (hrd : rc.dst = some d0) (hrg : rc.guard = none) (hcg : cl.guard = none)
    (hop : cl.op = .call c) (hcal : c.callee = .value (.func fc)) (hfc : S.P.funcs[fc]? = some fnc) (hbc : fnc.body = some cc) (hnc : (fnc.name == "runtime.NumGoroutine") = false) (hres : fn.results = #[])
    {caps : List AV} {h : Heap} {m : Option AV} {K : Option AV → Heap → Prop}
    (hk : ∀ v0, (m = none ∧ v0 = .nili) ∨ m = some v0 → opsR S [rc, cl] [cl] ((appL caps (undefs (fn.ntmps - lenN caps))).set d0 v0) h (fun x _ h1 => x = .normal ∧ K none h1)) : DCalls S g caps h m K := by
  intro E w caps' u hm hrn hr hcaps hu
  refine callsDIn_of_wpS hf hb fun c₀ cs hc0 => ?_
  have hfen : ∀ E', Ext E E' → fen E' = Fence.wide := fun E' hx => by unfold fen; rw [hx.rnd, hrn]
  have hact : ActR [] E (appL caps (undefs (fn.ntmps - lenN caps))) { tmps := caps'.toArray ++ Array.replicate (fn.ntmps - caps'.toArray.size) undef, defers := [] } := by
    refine ⟨?_, by rw [hm]; exact ⟨rfl, List.nodup_nil⟩⟩
    rw [appL_eq, undefs_eq, lenN_eq, hcaps.length]
    simp only [Array.toList_append, Array.toList_replicate, List.size_toArray]
    exact hcaps.append (VRL.replicate_undef _ _ (by simp))
  generalize appL caps (undefs (fn.ntmps - lenN caps)) = t at *
  generalize ({ tmps := caps'.toArray ++ Array.replicate (fn.ntmps - caps'.toArray.size) undef, defers := [] } : Act) = a at *
  -- behind the recovering
  have main : ∀ (v0 : AV) (p : Value) (u1 : FrameMode), ((m = none ∧ v0 = .nili) ∨ m = some v0) → VR E v0 p → settle u1 = .returning →
      wpOpsS S.P #[rc, cl] (bodyPostS S.P fn c₀ cs fun e u' w' => (∃ v, e = .returned v) ∧ ∃ E' h' m', Ext E E' ∧ E'.marks = [] ∧ R S E' h' w' ∧ ModeR E' m' (settle u') ∧ K m' h') [1] (a.put rc.dst p) ({ c₀ with mode := u1 } :: cs) w := by
    intro v0 p u1 hv0 hvp hu1
    have ha1 : ActR [] E (t.set d0 v0) (a.put rc.dst p) := by
      have := hact.put (Ext.refl E) rfl hvp rc.dst
      rw [hrd] at this ⊢; exact this
    have hkk := hk v0 hv0
    rw [opsR_eq] at hkk
    have h1 := opsM_sound hS #[rc, cl] [cl] 1 rfl _ h hkk E w _ hr ha1
    rw [hfen E (Ext.refl E)] at h1
    have hget : (#[rc, cl] : Array Oper)[1]? = some cl := rfl
    have hwant : ∀ y, Region.wanted cl y = true := fun y => by simp [Region.wanted, hcg]
    simp only [List.length_singleton, List.range'_one, wpOpsIn, hget, hwant, if_true] at h1
    have hsem : cl.semAt Fence.wide.round (a.put rc.dst p).eval = execOp (a.put rc.dst p).eval cl := Oper.semAt_eq _ _ _ (by rw [hop]; intro c h; cases h)
    have h2 := h1.2
    rw [hsem, run_static hS hop hcal hfc hbc hnc, Oper.uponIn_enter] at h2
    simp only [wpOpsS, hget, hwant, if_true]
    rw [run_static hS hop hcal hfc hbc hnc]
    simp only [Oper.upon_enter]
    refine (callsIn_wide.1 h2.2).mono ?_
    rintro e w1 he
    have post : ∀ (e : Exit) (a2 : Act) (w2 : World), PostM S [] E (fun x _ h1 => x = .normal ∧ K none h1) e a2 w2 → e = .normal ∧ bodyPostS S.P fn c₀ cs (fun e u' w' => (∃ v, e = .returned v) ∧ ∃ E' h' m', Ext E E' ∧ E'.marks = [] ∧ R S E' h' w' ∧ ModeR E' m' (settle u') ∧ K m' h') .normal a2 ({ c₀ with mode := u1 } :: cs) w2 := by
      rintro e a2 w2 ⟨E1, t1, h1, x, hx1, hm1, hr1, ha2, hex, rfl, hK⟩
      simp only [ExitR] at hex; subst hex
      have hmk : E1.marks = [] := hm1.trans hm
      have hdef : a2.defers = [] := by rw [ha2.2.1, hmk]; rfl
      have hresr : (results fn a2.tmps).run S.P w2 = .ok (.tuple #[]) w2 := by
        rw [results_eq, hres]; simp [go_sem]
      exact ⟨rfl, hdef, u1, rfl, _, hresr, ⟨_, rfl⟩, E1, h1, none, hx1, hmk, hr1, hu1, hK⟩
    cases e with
    | returned v =>
      exact (post _ _ _ he).2
    | panicked chain => exact absurd (post _ _ _ he).1 (by simp)
    | outgrown =>
      obtain ⟨a0, w0, h3⟩ := he
      exact absurd (post _ _ _ h3).1 (by simp)
  refine wpS_region ?_
  have hr2 : List.range (#[rc, cl] : Array Oper).size = [0, 1] := rfl
  rw [hr2]
  have hget : (#[rc, cl] : Array Oper)[0]? = some rc := rfl
  have hwant : ∀ y, Region.wanted rc y = true := fun y => by simp [Region.wanted, hrg]
  rw [wpOpsS]
  simp only [hget, hwant, if_true, hrc]
  cases m with
  | none =>
    have hu : u = .returning := hu
    have : recoverD (c₀ :: cs) = none := by simp [recoverD, hc0, hu]
    rw [this]
    have := main .nili .nilIface .returning (.inl ⟨rfl, rfl⟩) (by simp only [VR]) rfl
    have hcc : ({ c₀ with mode := .returning } : Frame) = c₀ := by cases c₀; simp only at hc0; rw [hc0, hu]
    rw [hcc] at this; exact this
  | some v =>
    obtain ⟨p, hp, hv⟩ := hu
    have : recoverD (c₀ :: cs) = some (p, { c₀ with mode := .panicking [{ v := p, recovered := true }] } :: cs) := by simp [recoverD, hc0, hp]
    rw [this]
    exact main v p _ (.inr rfl) hv (by simp [settle])

theorem leaves_ofD {fn : Func} {tmps : Array Value} {Rr : Ending → World → Prop} {u : FrameMode} {ds : List Deferred} (hu : u ≠ .run) {h : Heap} :
    ∀ (ms : List Nat) (E : Env) (w : World), E.marks = ms → E.marks.Nodup → R S E h w →
    (∀ w', R S { E with marks := [] } h w' → LeavesInM Fence.wide 0 S.P fn tmps Rr ds u w') → LeavesInM Fence.wide 0 S.P fn tmps Rr (ms.map markOf ++ ds) u w
  | [], E, w, hm, _, hr, hk => hk w (by
      have : E = { E with marks := [] } := by cases E; simp_all
      rw [← this]; exact hr)
  | D :: ms, E, w, hm, hnd, hr, hk => by
    obtain ⟨h1, h2⟩ := takeMark hr hm hnd
    refine ⟨hu, .inl ⟨D, _, rfl, h1, leaves_ofD hu ms { E with marks := ms } _ rfl (by rw [hm] at hnd; exact (List.nodup_cons.1 hnd).2) h2 hk⟩⟩

/-- a deferred call, where the prover has his say -/
structure DCallH (S : Seat) (g : Nat) (caps : List AV) (h : Heap) (m : Option AV) (K : Option AV → Heap → Prop) : Prop where
  out : DCalls S g caps h m K
/-- a frame that has no deferred call left goes -/
def leaveK (S : Seat) (fn : Func) (t : List AV) (Q : AEnd → Heap → Prop) (m : Option AV) (h : Heap) : Prop :=
  match m with
  | none => resK S t h fn.results.toList (fun vs => Q (.ret (retK vs)) h)
  | some v => Q (.pan v) h

theorem run_defer {mk df : Oper} {g d : Nat} {cps : Array Operand} {c : Call} (hmk : mk.op = .makeFunc (.func g) #[] cps) (hdo : df.op = .defer c) (hdc : c.callee = .value (.tmp d)) (hda : c.args = #[]) {P : Program} :
    (∀ (a : Act) (w : World), (execOp a.eval mk).run P w = .ok (.value (.func (.func g) #[] (cps.map a.eval))) w) ∧
    (∀ (a : Act) (w : World) (x : Array Value), a.eval (.tmp d) = .func (.func g) #[] x → (execOp a.eval df).run P w = .ok (.defer { target := .fn (.func g) x, args := #[] }) w) := by
  refine ⟨fun a w => ?_, fun a w x hx => ?_⟩
  · simp [execOp, hmk, Instr.makeFunc]
  · simp [execOp, hdo, resolve, hdc, hda, hx, Deferred.ofValue]

/-- **A function that defers one closure, ahead of the rest.** -/
theorem ACalls.bodyD (hS : SeatOK S) {f : Nat} {fn : Func} {c0 rest : Code} {id d g : Nat} {fng : Func} {cg : Code} {mk df : Oper} {cps : Array Operand} {c : Call}
    (hf : S.P.funcs[f]? = some fn) (hb : fn.body = some (.seq c0 (.seq (.region id #[mk, df] false) rest))) (hn : (fn.name == "runtime.NumGoroutine") = false)
    (hmk : mk.op = .makeFunc (.func g) #[] cps) (hmd : mk.dst = some d) (hmg : mk.guard = none) (hdo : df.op = .defer c) (hdc : c.callee = .value (.tmp d)) (hda : c.args = #[]) (hdd : df.dst = none) (hdg : df.guard = none)
    (hfg : S.P.funcs[g]? = some fng) (hbg : fng.body = some cg) (hng : (fng.name == "runtime.NumGoroutine") = false) (hs0 : simpleC c0 = true)
    {args : List AV} {h : Heap} {Q : AEnd → Heap → Prop}
    (hk : codeR S c0 (appL args (undefs (fn.ntmps - lenN args))) h (fun x t1 h1 => x = .normal ∧ d < t1.length ∧ codeR S rest (t1.set d (.fn g [] (cps.toList.map (ev S.G t1)))) h1 (fun x t2 h2 => match x with
      | .normal => DCallH S g (cps.toList.map (ev S.G t1)) h2 none (leaveK S fn t2 Q)
      | .ret => DCallH S g (cps.toList.map (ev S.G t1)) h2 none (leaveK S fn t2 Q)
      | .pan v => DCallH S g (cps.toList.map (ev S.G t1)) h2 (some v) (leaveK S fn t2 Q)
      | _ => False))) : ACalls S f args h Q := by
  intro E w args' hm hrn hr ha
  refine .inl ⟨?_, ?_⟩
  · unfold callFunc
    simp only [beq_eq_false_iff_ne, ne_eq] at hn
    simp [Sem.run_bind, go_sem, hf, hn, hb]
  rw [← callsIn_wide (n := 0)]
  refine callsIn_of_wp_marks hf hb trivial ?_
  have hact : ActR [] E (appL args (undefs (fn.ntmps - lenN args))) { tmps := args'.toArray ++ Array.replicate (fn.ntmps - args'.toArray.size) undef, defers := [] } := by
    refine ⟨?_, by rw [hm]; exact ⟨rfl, List.nodup_nil⟩⟩
    rw [appL_eq, undefs_eq, lenN_eq, ha.length]
    simp only [Array.toList_append, Array.toList_replicate, List.size_toArray]
    exact ha.append (VRL.replicate_undef _ _ (by simp))
  have hfen : ∀ E', Ext E E' → fen E' = Fence.wide := fun E' hx => by unfold fen; rw [hx.rnd, hrn]
  rw [codeR_eq] at hk
  have h1 := codeM_sound hS c0 hs0 _ _ _ hk E w _ hr hact
  rw [hfen E (Ext.refl E)] at h1
  refine wpIn_seq (wpIn_mono h1 ?_)
  rintro e a1 w1 ⟨E1, t1, h1, x, hx1, hm1, hr1, ha1, hex, rfl, hlt, hk1⟩
  have hm1 : E1.marks = [] := hm1.trans hm
  simp only [ExitR] at hex; subst hex
  -- the closure is made and deferred
  obtain ⟨rmk, rdf⟩ := run_defer hmk hdo hdc hda (P := S.P)
  have hval := mapF_run (ev_VR hr1 ha1) cps.toList
  have htl : (cps.toList.map a1.eval).toArray = cps.map a1.eval := by cases cps; simp
  have hvf : VR E1 (.fn g [] (cps.toList.map (ev S.G t1))) (.func (.func g) #[] (cps.map a1.eval)) := by
    simp only [VR]
    exact ⟨[], _, by rw [← htl], VRL.nil, hval⟩
  have ha2 := ha1.put (Ext.refl E1) rfl hvf mk.dst
  rw [hmd] at ha2
  have hsz : d < a1.tmps.size := by have := ha1.1.length; simp at this; omega
  have hev : (a1.put (some d) (.func (.func g) #[] (cps.map a1.eval))).eval (.tmp d) = .func (.func g) #[] (cps.map a1.eval) := by
    simp [Act.eval, Act.put, hsz]
  show Code.wpIn Fence.wide 0 S.P (.seq (.region id #[mk, df] false) rest) _ a1 w1
  refine wpIn_seq (wpIn_region ?_)
  have hr2 : List.range (#[mk, df] : Array Oper).size = [0, 1] := rfl
  rw [hr2]
  have hw0 : ∀ y, Region.wanted mk y = true := fun y => by simp [Region.wanted, hmg]
  have hw1 : ∀ y, Region.wanted df y = true := fun y => by simp [Region.wanted, hdg]
  simp only [wpOpsIn, List.getElem?_toArray, List.getElem?_cons_zero, List.getElem?_cons_succ, hw0, hw1, if_true]
  refine ⟨fun _ _ => trivial, ?_⟩
  rw [show mk.semAt Fence.wide.round a1.eval = execOp a1.eval mk from Oper.semAt_eq _ _ _ (by rw [hmk]; intro c h; cases h), rmk, Oper.uponIn_value, hmd]
  refine ⟨fun _ _ => trivial, ?_⟩
  have hsd : (df.semAt Fence.wide.round (a1.put (some d) (.func (.func g) #[] (cps.map a1.eval))).eval) = execOp (a1.put (some d) (.func (.func g) #[] (cps.map a1.eval))).eval df := by
    unfold Oper.semAt; simp [Fence.wide, hdo]
  rw [hsd, rdf _ _ _ hev, Oper.uponIn_defer, hdd]
  -- the rest
  generalize hdef : ({ target := .fn (.func g) (cps.map a1.eval), args := #[] } : Deferred) = dd
  have ha3 : ActR [dd] E1 (t1.set d (.fn g [] (cps.toList.map (ev S.G t1)))) (({ a1.put (some d) (.func (.func g) #[] (cps.map a1.eval)) with defers := dd :: (a1.put (some d) (.func (.func g) #[] (cps.map a1.eval))).defers } : Act).put none undef) := by
    refine ⟨ha2.1, ?_, by rw [hm1]; exact List.nodup_nil⟩
    have := ha2.2.1
    rw [hm1] at this ⊢
    show dd :: (a1.put (some d) (.func (.func g) #[] (cps.map a1.eval))).defers = _
    rw [this]; rfl
  have h2 := (codeR_sound hS rest _ _ _ hk1).out [dd] E1 w1 _ hr1 ha3
  rw [hfen E1 hx1] at h2
  refine wpIn_mono h2 ?_
  rintro e a2 w2 ⟨E2, t2, h2, x, hx2, hr2, ha2', hex, hx⟩
  -- how the frame leaves
  have go : ∀ (m : Option AV) (u : FrameMode), u ≠ .run → (∀ E', Ext E2 E' → ModeR E' m u) → DCalls S g (cps.toList.map (ev S.G t1)) h2 m (leaveK S fn t2 Q) →
      LeavesInM Fence.wide 0 S.P fn a2.tmps (fun e w' => ∃ E' h' r, Ext E E' ∧ E'.marks = [] ∧ R S E' h' w' ∧ EndR E' r e ∧ Q r h') a2.defers u w2 := by
    intro m u hu hmode hD
    rw [ha2'.2.1]
    refine leaves_ofD hu E2.marks E2 w2 rfl ha2'.2.2 hr2 fun w3 hr3 => ?_
    have hxm : Ext E2 { E2 with marks := [] } := ⟨fun _ _ h => h, fun _ F v h => ⟨F, v, h, .inr ⟨rfl, rfl⟩⟩, fun _ _ h => ⟨h, rfl⟩, fun _ _ _ h => h, fun _ _ _ => rfl, rfl, rfl, rfl⟩
    have hcaps : VRL { E2 with marks := [] } (cps.toList.map (ev S.G t1)) (cps.toList.map a1.eval) := VRL.mono (hx2.trans hxm).v _ _ hval
    have hinv : (invoke (.fn (.func g) (cps.map a1.eval)) #[]).run S.P w3 = .ok (.enter g (cps.map a1.eval)) w3 := by
      have h1 : (callFunc g (cps.map a1.eval)).run S.P w3 = .ok (.enter g (cps.map a1.eval)) w3 := by
        unfold callFunc
        simp only [beq_eq_false_iff_ne, ne_eq] at hng
        simp [Sem.run_bind, go_sem, hfg, hng, hbg]
      rw [← h1]
      simp [invoke]
    have hC := hD { E2 with marks := [] } w3 (cps.toList.map a1.eval) u rfl (by show E2.rnd = none; rw [hx2.rnd, hx1.rnd, hrn]) hr3 hcaps (hmode _ hxm)
    rw [htl] at hC
    subst hdef
    refine ⟨hu, .inr ⟨fun h => (by cases h), _, _, _, _, rfl, hinv, fun _ _ => trivial, hC.mono ?_⟩⟩
    rintro e u' w4 ⟨⟨v, rfl⟩, E3, h3, m', hx3, hm3, hr4, hmode', hK⟩
    have hxE : Ext E E3 := hx1.trans (hx2.trans (hxm.trans hx3))
    show LeavesIn Fence.wide 0 S.P fn a2.tmps _ [] (settle u') w4
    cases m' with
    | none =>
      have hs : settle u' = .returning := hmode'
      rw [hs]
      have ht : VRL E3 t2 a2.tmps.toList := VRL.mono (hxm.trans hx3).v _ _ ha2'.1
      obtain ⟨vs, us, hq, hvs, hrun⟩ := resK_run hS hr4 ht _ _ hK
      have hrun2 : (results fn a2.tmps).run S.P w4 = .ok (if h : us.toArray.size = 1 then us.toArray[0] else .tuple us.toArray) w4 := by
        rw [results_eq, Sem.run_bind, Array.mapM_eq_mapM_toList, map_eq_pure_bind, Sem.run_bind, hrun]
        rfl
      refine ⟨_, hrun2, E3, h3, .ret (retK vs), hxE, hm3, hr4, ⟨_, rfl, ?_⟩, hq⟩
      have hl := hvs.length
      match vs, us, hvs, hl with
      | [], [], hvs, _ => simpa [retK, VR] using hvs
      | [v], [u], hvs, _ => obtain ⟨_, _, e, h1, _⟩ := hvs.uncons; cases e; simpa [retK] using h1
      | v1 :: v2 :: vs, u1 :: u2 :: us, hvs, _ =>
        have : ¬ (u1 :: u2 :: us).toArray.size = 1 := by simp
        rw [dif_neg this]
        simp only [retK, VR]
        exact ⟨_, rfl, hvs⟩
    | some v =>
      obtain ⟨p, hp, hv⟩ := hmode'
      rw [hp]
      exact ⟨E3, h3, .pan v, hxE, hm3, hr4, ⟨p, rfl, hv⟩, hK⟩
  cases x with
  | normal => simp only [ExitR] at hex; subst hex; exact go none .returning (by simp) (fun _ _ => rfl) hx.out
  | ret => simp only [ExitR] at hex; subst hex; exact go none .returning (by simp) (fun _ _ => rfl) hx.out
  | pan v =>
    obtain ⟨p, rfl, hv⟩ := hex
    exact go (some v) _ (by simp) (fun E' hxx => ⟨p, rfl, VR.mono hxx.v _ _ hv⟩) hx.out
  | exit i => exact hx.elim
  | goto i => exact hx.elim
end Go.Abs

/- A scope that holds a label to which nothing jumps. No condition: lemmas. -/
namespace Go.Abs
open Go.RowKit
variable {S : Seat}
section
variable {F : Fence} {n : Nat} {P : Program} {a : Act} {w : World} {Q : Exit → Act → World → Prop}
theorem stepR_scope {b : Frame} {k : List Item} {cs : List Frame} {c : Code} : step P (lone (b.atR a (.code (.scope c) :: k)) cs w) = .next (lone (b.atR a (.code c :: .inScope c :: k)) cs w) :=
  step_lone_go (by simp [stepG, stepG.exec, Frame.atR])
theorem stepR_inScope {b : Frame} {k : List Item} {cs : List Frame} {c : Code} : step P (lone (b.atR a (.inScope c :: k)) cs w) = .next (lone (b.atR a k) cs w) :=
  step_lone_go (by simp [stepG, stepG.exec, Frame.atR])
theorem wpIn_scope_straight {c : Code} (h : c.wpIn F n P (Exit.noGoto Q) a w) : (Code.scope c).wpIn F n P Q a w := by
  intro b k cs hro hb hr
  have h0 : (lone (b.atR a (.code (.scope c) :: k)) cs w).fenced P F := fenced_calm hb hr rfl
  obtain ⟨e, a₁, w₁, hq, harr⟩ := h b (.inScope c :: k) cs hro hb hr
  cases e with
  | normal => exact ⟨.normal, a₁, w₁, hq, .head h0 stepR_scope (StepsIn.trans harr (.one (fenced_calm hb hr rfl) stepR_inScope))⟩
  | exit id =>
    have hx : exitTo id (.inScope c :: k) = exitTo id k := by simp [exitTo]
    exact ⟨.exit id, a₁, w₁, hq, fun k' hk => .head h0 stepR_scope (harr.1 k' (by rw [hx]; exact hk)),
      fun hr' hk => let ⟨k₁, h1, h2⟩ := harr.2 hr' (by rw [hx]; exact hk); ⟨k₁, h1, .head h0 stepR_scope h2⟩⟩
  | goto l => exact hq.elim
  | ret => exact ⟨_, a₁, w₁, hq, .of_steps (.one h0 stepR_scope) harr⟩
  | panic ch => exact ⟨_, a₁, w₁, hq, .of_steps (.one h0 stepR_scope) harr⟩
  | outgrown => exact ⟨_, a₁, w₁, hq, .of_steps (.one h0 stepR_scope) harr⟩
end
theorem Sat.scope (hS : SeatOK S) {b : Code} {t : List AV} {h : Heap} {k : ExK} (hb : codeR S b t h (fun x t' h' => match x with
      | .normal => k .normal t' h'
      | .exit j => k (.exit j) t' h'
      | .goto _ => False
      | .ret => k .ret t' h'
      | .pan v => k (.pan v) t' h')) : Sat S (.scope b) t h k := by
  refine ⟨fun B E w a hr ha => wpIn_scope_straight (wpIn_mono ((codeR_sound hS b t h _ hb).out B E w a hr ha) ?_)⟩
  rintro e a' w' ⟨E', t', h', x, g1, g2, g3, g4, g5⟩
  cases x with
  | goto l => exact g5.elim
  | normal => cases e <;> first | exact ⟨E', t', h', _, g1, g2, g3, g4, g5⟩ | (simp [ExitR] at g4)
  | exit j => cases e <;> first | exact ⟨E', t', h', _, g1, g2, g3, g4, g5⟩ | (simp [ExitR] at g4)
  | ret => cases e <;> first | exact ⟨E', t', h', _, g1, g2, g3, g4, g5⟩ | (simp [ExitR] at g4)
  | pan v => cases e <;> first | exact ⟨E', t', h', _, g1, g2, g3, g4, g5⟩ | (simp [ExitR] at g4)
end Go.Abs

/- Code that is walked in parts. No condition: lemmas. -/
namespace Go.Abs
open Go.RowKit
variable {S : Seat}
theorem ACalls.bodyS (hS : SeatOK S) {f : Nat} {fn : Func} {c : Code} (hf : S.P.funcs[f]? = some fn) (hb : fn.body = some c) (hn : (fn.name == "runtime.NumGoroutine") = false) {args : List AV} {h : Heap} {Q : AEnd → Heap → Prop}
    (hk : Sat S c (appL args (undefs (fn.ntmps - lenN args))) h (fun x t h' => match x with
    | .normal => resK S t h' fn.results.toList (fun vs => Q (.ret (retK vs)) h')
    | .ret => resK S t h' fn.results.toList (fun vs => Q (.ret (retK vs)) h')
    | .pan v => Q (.pan v) h'
    | _ => False)) : ACalls S f args h Q := by
  intro E w args' hm hrn hr ha
  refine .inl ⟨?_, ?_⟩
  · unfold callFunc
    simp only [beq_eq_false_iff_ne, ne_eq] at hn
    simp [Sem.run_bind, go_sem, hf, hn, hb]
  · rw [← callsIn_wide (n := 0)]
    refine callsIn_of_wp_marks hf hb trivial ?_
    have hact : ActR [] E (appL args (undefs (fn.ntmps - lenN args))) { tmps := args'.toArray ++ Array.replicate (fn.ntmps - args'.toArray.size) undef, defers := [] } := by
      refine ⟨?_, by rw [hm]; exact ⟨rfl, List.nodup_nil⟩⟩
      rw [appL_eq, undefs_eq, lenN_eq, ha.length]
      simp only [Array.toList_append, Array.toList_replicate, List.size_toArray]
      exact ha.append (VRL.replicate_undef _ _ (by simp))
    have := hk.out [] E w _ hr hact
    have hfen : fen E = Fence.wide := by unfold fen; rw [hrn]
    rw [hfen] at this
    refine wpIn_mono this ?_
    rintro e a' w' ⟨E', t', h', x, h1, h2, h3, h4, h5⟩
    have hres : ∀ (w' : World), R S { E' with marks := [] } h' w' → resK S t' h' fn.results.toList (fun vs => Q (.ret (retK vs)) h') → LeavesIn Fence.wide 0 S.P fn a'.tmps (fun e w' => ∃ E' h' r, Ext E E' ∧ E'.marks = [] ∧ R S E' h' w' ∧ EndR E' r e ∧ Q r h') [] .returning w' := by
      intro w' hr' hk
      have ht : VRL { E' with marks := [] } t' a'.tmps.toList := VRL.mono (VExt.of_eq (E := E') (E' := { E' with marks := [] }) rfl rfl rfl rfl) _ _ h3.1
      obtain ⟨vs, us, hq, hvs, hrun⟩ := resK_run hS hr' ht _ _ hk
      have hrun2 : (results fn a'.tmps).run S.P w' = .ok (if h : us.toArray.size = 1 then us.toArray[0] else .tuple us.toArray) w' := by
        rw [results_eq, Sem.run_bind, Array.mapM_eq_mapM_toList, map_eq_pure_bind, Sem.run_bind, hrun]
        rfl
      refine ⟨_, hrun2, { E' with marks := [] }, h', .ret (retK vs), ⟨h1.blk, h1.tok, h1.cbv, h1.imm, h1.new, h1.keep, h1.base, h1.rnd⟩, rfl, hr', ⟨_, rfl, ?_⟩, hq⟩
      have hl := hvs.length
      match vs, us, hvs, hl with
      | [], [], hvs, _ => simpa [retK, VR] using hvs
      | [v], [u], hvs, _ => obtain ⟨_, _, e, h1, _⟩ := hvs.uncons; cases e; simpa [retK] using h1
      | v1 :: v2 :: vs, u1 :: u2 :: us, hvs, _ =>
        have : ¬ (u1 :: u2 :: us).toArray.size = 1 := by simp
        rw [dif_neg this]
        simp only [retK, VR]
        exact ⟨_, rfl, hvs⟩
    cases x with
    | normal =>
      simp only [ExitR] at h4; subst h4
      show LeavesInM _ _ _ _ _ _ _ _ _
      rw [h3.2.1, List.append_nil]
      exact leaves_of (by simp) E'.marks E' w' rfl h3.2.2 h2 fun w' hr' => hres w' hr' h5
    | ret =>
      simp only [ExitR] at h4; subst h4
      show LeavesInM _ _ _ _ _ _ _ _ _
      rw [h3.2.1, List.append_nil]
      exact leaves_of (by simp) E'.marks E' w' rfl h3.2.2 h2 fun w' hr' => hres w' hr' h5
    | pan v =>
      obtain ⟨u, rfl, hu⟩ := h4
      show LeavesInM _ _ _ _ _ _ _ _ _
      rw [h3.2.1, List.append_nil]
      exact leaves_of (by simp) E'.marks E' w' rfl h3.2.2 h2 fun w' hr' => ⟨{ E' with marks := [] }, h', .pan v, ⟨h1.blk, h1.tok, h1.cbv, h1.imm, h1.new, h1.keep, h1.base, h1.rnd⟩, rfl, hr', ⟨u, rfl, VR.mono (VExt.of_eq (E := E') (E' := { E' with marks := [] }) rfl rfl rfl rfl) _ _ hu⟩, h5⟩
    | exit i => exact h5.elim
    | goto i => exact h5.elim


def splitC : Nat → Code → Code × Code
  | 0, c => (.skip, c)
  | n + 1, .seq x y => (.seq x (splitC n y).1, (splitC n y).2)
  | _ + 1, c => (.skip, c)
theorem Sat.weakT {c : Code} {t t2 : List AV} {h : Heap} {k : ExK} (hw : WeakL t t2) (hs : Sat S c t2 h k) : Sat S c t h k :=
  ⟨fun B E w a hr ha => hs.out B E w a hr ⟨WeakL.run hw ha.1, ha.2⟩⟩
theorem Sat.seq {x y : Code} {t : List AV} {h : Heap} {k : ExK} (hx : Sat S x t h (fun e t' h' => match e with
      | .normal => Sat S y t' h' k
      | .exit i => k (.exit i) t' h'
      | .goto i => k (.goto i) t' h'
      | .ret => k .ret t' h'
      | .pan v => k (.pan v) t' h')) : Sat S (.seq x y) t h k := by
  refine ⟨fun B E w a hr ha => wpIn_seq (wpIn_mono (hx.out B E w a hr ha) ?_)⟩
  rintro e a' w' ⟨E', t', h', z, h1, h2, h3, h4, h5⟩
  cases z with
  | normal =>
    simp only [ExitR] at h4; subst h4
    have := h5.out B E' w' a' h2 h3
    rw [fen_ext h1] at this
    exact wpIn_mono this fun _ _ _ h => h.ext h1
  | exit i => simp only [ExitR] at h4; subst h4; exact ⟨E', t', h', .exit i, h1, h2, h3, rfl, h5⟩
  | goto i => simp only [ExitR] at h4; subst h4; exact ⟨E', t', h', .goto i, h1, h2, h3, rfl, h5⟩
  | ret => simp only [ExitR] at h4; subst h4; exact ⟨E', t', h', .ret, h1, h2, h3, rfl, h5⟩
  | pan v => obtain ⟨u, rfl, hu⟩ := h4; exact ⟨E', t', h', .pan v, h1, h2, h3, ⟨u, rfl, hu⟩, h5⟩
/-- the first n parts, then the rest -/
theorem Sat.splitAt (hS : SeatOK S) (P : List AV → Heap → Prop) {k : ExK} : ∀ (n : Nat) {c : Code} {t : List AV} {h : Heap}
    (h1 : codeR S (splitC n c).1 t h (fun x t' h' => match x with
      | .normal => ∃ t2, WeakL t' t2 ∧ P t2 h'
      | .exit i => k (.exit i) t' h'
      | .goto i => k (.goto i) t' h'
      | .ret => k .ret t' h'
      | .pan v => k (.pan v) t' h'))
    (h2 : ∀ t h, P t h → Sat S (splitC n c).2 t h k), Sat S c t h k
  | 0, c, t, h, h1, h2 => by
    obtain ⟨t2, hw, hp⟩ := h1
    exact (h2 t2 h hp).weakT hw
  | n + 1, c, t, h, h1, h2 => by
    cases c with
    | seq x y =>
      refine Sat.seq ((codeR_sound hS x t h _ h1).mono fun e t' h' he => ?_)
      cases e with
      | normal => exact Sat.splitAt hS P n he h2
      | exit i => exact he
      | goto i => exact he
      | ret => exact he
      | pan v => exact he
    | _ =>
      obtain ⟨t2, hw, hp⟩ := h1
      exact (h2 t2 h hp).weakT hw
end Go.Abs

/- A deferred closure that does not recover. No condition: a lemma. -/
namespace Go.Abs
open Go.RowKit
variable {S : Seat}
theorem DCalls.plain (hS : SeatOK S) {g : Nat} {fn : Func} {c : Code} (hf : S.P.funcs[g]? = some fn) (hb : fn.body = some c) (hsim : simpleC c = true) (hres : fn.results = #[])
    {caps : List AV} {h : Heap} {m : Option AV} {K : Option AV → Heap → Prop}
    (hk : codeR S c (appL caps (undefs (fn.ntmps - lenN caps))) h (fun x _ h2 => (x = .normal ∨ x = .ret) ∧ K m h2)) : DCalls S g caps h m K := by
  intro E w caps' u hm hrn hr hcaps hu
  refine callsDIn_of_wpS hf hb fun c₀ cs hc0 => ?_
  have hfen : fen E = Fence.wide := by unfold fen; rw [hrn]
  have hact : ActR [] E (appL caps (undefs (fn.ntmps - lenN caps))) { tmps := caps'.toArray ++ Array.replicate (fn.ntmps - caps'.toArray.size) undef, defers := [] } := by
    refine ⟨?_, by rw [hm]; exact ⟨rfl, List.nodup_nil⟩⟩
    rw [appL_eq, undefs_eq, lenN_eq, hcaps.length]
    simp only [Array.toList_append, Array.toList_replicate, List.size_toArray]
    exact hcaps.append (VRL.replicate_undef _ _ (by simp))
  rw [codeR_eq] at hk
  have h3 := codeM_sound hS c hsim _ h _ hk E w _ hr hact
  rw [hfen] at h3
  refine wpS_of_wp (wp_mono (wpIn_wide.1 h3) ?_)
  rintro e a3 w3 ⟨E2, t2, h2, x, hx2, hm2, hr2, ha3, hex, hxx, hK⟩
  have hmk : E2.marks = [] := hm2.trans hm
  have hdef : a3.defers = [] := by rw [ha3.2.1, hmk]; rfl
  have hresr : (results fn a3.tmps).run S.P w3 = .ok (.tuple #[]) w3 := by
    rw [results_eq, hres]; simp [go_sem]
  have hmode : ModeR E2 m (settle u) := by
    cases m with
    | none => have hu : u = .returning := hu; rw [hu]; rfl
    | some v => obtain ⟨p, rfl, hv⟩ := hu; exact ⟨p, by simp [settle], VR.mono hx2.v _ _ hv⟩
  have hcc : c₀ :: cs = { c₀ with mode := u } :: cs := by rw [← hc0]
  have fin : bodyPostS S.P fn c₀ cs (fun e u' w' => (∃ v, e = .returned v) ∧ ∃ E' h' m', Ext E E' ∧ E'.marks = [] ∧ R S E' h' w' ∧ ModeR E' m' (settle u') ∧ K m' h') .normal a3 (c₀ :: cs) w3 :=
    ⟨hdef, u, hcc, _, hresr, ⟨_, rfl⟩, E2, h2, m, hx2, hmk, hr2, hmode, hK⟩
  rcases hxx with rfl | rfl
  · simp only [ExitR] at hex; subst hex; exact fin
  · simp only [ExitR] at hex; subst hex; exact fin
end Go.Abs

/- A function that defers one closure, behind two pieces of code. No condition: a lemma. -/
namespace Go.Abs
open Go.RowKit
variable {S : Seat} {B : List Deferred}
/-- **The same, behind two pieces of code.** -/
theorem ACalls.bodyD2 (hS : SeatOK S) {f : Nat} {fn : Func} {c0 c1 rest : Code} {id d g : Nat} {fng : Func} {cg : Code} {mk df : Oper} {cps : Array Operand} {c : Call}
    (hf : S.P.funcs[f]? = some fn) (hb : fn.body = some (.seq c0 (.seq c1 (.seq (.region id #[mk, df] false) rest)))) (hn : (fn.name == "runtime.NumGoroutine") = false)
    (hmk : mk.op = .makeFunc (.func g) #[] cps) (hmd : mk.dst = some d) (hmg : mk.guard = none) (hdo : df.op = .defer c) (hdc : c.callee = .value (.tmp d)) (hda : c.args = #[]) (hdd : df.dst = none) (hdg : df.guard = none)
    (hfg : S.P.funcs[g]? = some fng) (hbg : fng.body = some cg) (hng : (fng.name == "runtime.NumGoroutine") = false) (hs0 : simpleC c0 = true) (hs1 : simpleC c1 = true)
    {args : List AV} {h : Heap} {Q : AEnd → Heap → Prop}
    (hk : codeR S c0 (appL args (undefs (fn.ntmps - lenN args))) h (fun x t0 h0 => x = .normal ∧ codeR S c1 t0 h0 (fun x t1 h1 => x = .normal ∧ d < t1.length ∧ codeR S rest (t1.set d (.fn g [] (cps.toList.map (ev S.G t1)))) h1 (fun x t2 h2 => match x with
      | .normal => DCallH S g (cps.toList.map (ev S.G t1)) h2 none (leaveK S fn t2 Q)
      | .ret => DCallH S g (cps.toList.map (ev S.G t1)) h2 none (leaveK S fn t2 Q)
      | .pan v => DCallH S g (cps.toList.map (ev S.G t1)) h2 (some v) (leaveK S fn t2 Q)
      | _ => False)))) : ACalls S f args h Q := by
  intro E w args' hm hrn hr ha
  refine .inl ⟨?_, ?_⟩
  · unfold callFunc
    simp only [beq_eq_false_iff_ne, ne_eq] at hn
    simp [Sem.run_bind, go_sem, hf, hn, hb]
  rw [← callsIn_wide (n := 0)]
  refine callsIn_of_wp_marks hf hb trivial ?_
  have hact : ActR [] E (appL args (undefs (fn.ntmps - lenN args))) { tmps := args'.toArray ++ Array.replicate (fn.ntmps - args'.toArray.size) undef, defers := [] } := by
    refine ⟨?_, by rw [hm]; exact ⟨rfl, List.nodup_nil⟩⟩
    rw [appL_eq, undefs_eq, lenN_eq, ha.length]
    simp only [Array.toList_append, Array.toList_replicate, List.size_toArray]
    exact ha.append (VRL.replicate_undef _ _ (by simp))
  have hfen : ∀ E', Ext E E' → fen E' = Fence.wide := fun E' hx => by unfold fen; rw [hx.rnd, hrn]
  rw [codeR_eq] at hk
  have h1 := codeM_sound hS c0 hs0 _ _ _ hk E w _ hr hact
  rw [hfen E (Ext.refl E)] at h1
  refine wpIn_seq (wpIn_mono h1 ?_)
  rintro e a0 w0 ⟨E0, t0, h0, x, hx0, hm0, hr0, ha0, hex, rfl, hk0⟩
  simp only [ExitR] at hex; subst hex
  rw [codeR_eq] at hk0
  have h1 := codeM_sound hS c1 hs1 _ _ _ hk0 E0 w0 _ hr0 ha0
  rw [hfen E0 hx0] at h1
  refine wpIn_seq (wpIn_mono h1 ?_)
  rintro e a1 w1 ⟨E1, t1, h1, x, hx01, hm01, hr1, ha1, hex, rfl, hlt, hk1⟩
  have hx1 : Ext E E1 := hx0.trans hx01
  have hm1 : E1.marks = E.marks := hm01.trans hm0
  have hm1 : E1.marks = [] := hm1.trans hm
  simp only [ExitR] at hex; subst hex
  -- the closure is made and deferred
  obtain ⟨rmk, rdf⟩ := run_defer hmk hdo hdc hda (P := S.P)
  have hval := mapF_run (ev_VR hr1 ha1) cps.toList
  have htl : (cps.toList.map a1.eval).toArray = cps.map a1.eval := by cases cps; simp
  have hvf : VR E1 (.fn g [] (cps.toList.map (ev S.G t1))) (.func (.func g) #[] (cps.map a1.eval)) := by
    simp only [VR]
    exact ⟨[], _, by rw [← htl], VRL.nil, hval⟩
  have ha2 := ha1.put (Ext.refl E1) rfl hvf mk.dst
  rw [hmd] at ha2
  have hsz : d < a1.tmps.size := by have := ha1.1.length; simp at this; omega
  have hev : (a1.put (some d) (.func (.func g) #[] (cps.map a1.eval))).eval (.tmp d) = .func (.func g) #[] (cps.map a1.eval) := by
    simp [Act.eval, Act.put, hsz]
  show Code.wpIn Fence.wide 0 S.P (.seq (.region id #[mk, df] false) rest) _ a1 w1
  refine wpIn_seq (wpIn_region ?_)
  have hr2 : List.range (#[mk, df] : Array Oper).size = [0, 1] := rfl
  rw [hr2]
  have hw0 : ∀ y, Region.wanted mk y = true := fun y => by simp [Region.wanted, hmg]
  have hw1 : ∀ y, Region.wanted df y = true := fun y => by simp [Region.wanted, hdg]
  simp only [wpOpsIn, List.getElem?_toArray, List.getElem?_cons_zero, List.getElem?_cons_succ, hw0, hw1, if_true]
  refine ⟨fun _ _ => trivial, ?_⟩
  rw [show mk.semAt Fence.wide.round a1.eval = execOp a1.eval mk from Oper.semAt_eq _ _ _ (by rw [hmk]; intro c h; cases h), rmk, Oper.uponIn_value, hmd]
  refine ⟨fun _ _ => trivial, ?_⟩
  have hsd : (df.semAt Fence.wide.round (a1.put (some d) (.func (.func g) #[] (cps.map a1.eval))).eval) = execOp (a1.put (some d) (.func (.func g) #[] (cps.map a1.eval))).eval df := by
    unfold Oper.semAt; simp [Fence.wide, hdo]
  rw [hsd, rdf _ _ _ hev, Oper.uponIn_defer, hdd]
  -- the rest
  generalize hdef : ({ target := .fn (.func g) (cps.map a1.eval), args := #[] } : Deferred) = dd
  have ha3 : ActR [dd] E1 (t1.set d (.fn g [] (cps.toList.map (ev S.G t1)))) (({ a1.put (some d) (.func (.func g) #[] (cps.map a1.eval)) with defers := dd :: (a1.put (some d) (.func (.func g) #[] (cps.map a1.eval))).defers } : Act).put none undef) := by
    refine ⟨ha2.1, ?_, by rw [hm1]; exact List.nodup_nil⟩
    have := ha2.2.1
    rw [hm1] at this ⊢
    show dd :: (a1.put (some d) (.func (.func g) #[] (cps.map a1.eval))).defers = _
    rw [this]; rfl
  have h2 := (codeR_sound hS rest _ _ _ hk1).out [dd] E1 w1 _ hr1 ha3
  rw [hfen E1 hx1] at h2
  refine wpIn_mono h2 ?_
  rintro e a2 w2 ⟨E2, t2, h2, x, hx2, hr2, ha2', hex, hx⟩
  -- how the frame leaves
  have go : ∀ (m : Option AV) (u : FrameMode), u ≠ .run → (∀ E', Ext E2 E' → ModeR E' m u) → DCalls S g (cps.toList.map (ev S.G t1)) h2 m (leaveK S fn t2 Q) →
      LeavesInM Fence.wide 0 S.P fn a2.tmps (fun e w' => ∃ E' h' r, Ext E E' ∧ E'.marks = [] ∧ R S E' h' w' ∧ EndR E' r e ∧ Q r h') a2.defers u w2 := by
    intro m u hu hmode hD
    rw [ha2'.2.1]
    refine leaves_ofD hu E2.marks E2 w2 rfl ha2'.2.2 hr2 fun w3 hr3 => ?_
    have hxm : Ext E2 { E2 with marks := [] } := ⟨fun _ _ h => h, fun _ F v h => ⟨F, v, h, .inr ⟨rfl, rfl⟩⟩, fun _ _ h => ⟨h, rfl⟩, fun _ _ _ h => h, fun _ _ _ => rfl, rfl, rfl, rfl⟩
    have hcaps : VRL { E2 with marks := [] } (cps.toList.map (ev S.G t1)) (cps.toList.map a1.eval) := VRL.mono (hx2.trans hxm).v _ _ hval
    have hinv : (invoke (.fn (.func g) (cps.map a1.eval)) #[]).run S.P w3 = .ok (.enter g (cps.map a1.eval)) w3 := by
      have h1 : (callFunc g (cps.map a1.eval)).run S.P w3 = .ok (.enter g (cps.map a1.eval)) w3 := by
        unfold callFunc
        simp only [beq_eq_false_iff_ne, ne_eq] at hng
        simp [Sem.run_bind, go_sem, hfg, hng, hbg]
      rw [← h1]
      simp [invoke]
    have hC := hD { E2 with marks := [] } w3 (cps.toList.map a1.eval) u rfl (by show E2.rnd = none; rw [hx2.rnd, hx1.rnd, hrn]) hr3 hcaps (hmode _ hxm)
    rw [htl] at hC
    subst hdef
    refine ⟨hu, .inr ⟨fun h => (by cases h), _, _, _, _, rfl, hinv, fun _ _ => trivial, hC.mono ?_⟩⟩
    rintro e u' w4 ⟨⟨v, rfl⟩, E3, h3, m', hx3, hm3, hr4, hmode', hK⟩
    have hxE : Ext E E3 := hx1.trans (hx2.trans (hxm.trans hx3))
    show LeavesIn Fence.wide 0 S.P fn a2.tmps _ [] (settle u') w4
    cases m' with
    | none =>
      have hs : settle u' = .returning := hmode'
      rw [hs]
      have ht : VRL E3 t2 a2.tmps.toList := VRL.mono (hxm.trans hx3).v _ _ ha2'.1
      obtain ⟨vs, us, hq, hvs, hrun⟩ := resK_run hS hr4 ht _ _ hK
      have hrun2 : (results fn a2.tmps).run S.P w4 = .ok (if h : us.toArray.size = 1 then us.toArray[0] else .tuple us.toArray) w4 := by
        rw [results_eq, Sem.run_bind, Array.mapM_eq_mapM_toList, map_eq_pure_bind, Sem.run_bind, hrun]
        rfl
      refine ⟨_, hrun2, E3, h3, .ret (retK vs), hxE, hm3, hr4, ⟨_, rfl, ?_⟩, hq⟩
      have hl := hvs.length
      match vs, us, hvs, hl with
      | [], [], hvs, _ => simpa [retK, VR] using hvs
      | [v], [u], hvs, _ => obtain ⟨_, _, e, h1, _⟩ := hvs.uncons; cases e; simpa [retK] using h1
      | v1 :: v2 :: vs, u1 :: u2 :: us, hvs, _ =>
        have : ¬ (u1 :: u2 :: us).toArray.size = 1 := by simp
        rw [dif_neg this]
        simp only [retK, VR]
        exact ⟨_, rfl, hvs⟩
    | some v =>
      obtain ⟨p, hp, hv⟩ := hmode'
      rw [hp]
      exact ⟨E3, h3, .pan v, hxE, hm3, hr4, ⟨p, rfl, hv⟩, hK⟩
  cases x with
  | normal => simp only [ExitR] at hex; subst hex; exact go none .returning (by simp) (fun _ _ => rfl) hx.out
  | ret => simp only [ExitR] at hex; subst hex; exact go none .returning (by simp) (fun _ _ => rfl) hx.out
  | pan v =>
    obtain ⟨p, rfl, hv⟩ := hex
    exact go (some v) _ (by simp) (fun E' hxx => ⟨p, rfl, VR.mono hxx.v _ _ hv⟩) hx.out
  | exit i => exact hx.elim
  | goto i => exact hx.elim
end Go.Abs
