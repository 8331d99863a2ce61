/- A function's contract from its body, evaluated. No condition: definitions and lemmas. -/
import Derived.Test.YtflibnlbkffilaaAbs15
import Derived.RangeFuncLeaves
set_option linter.unusedSimpArgs false
set_option linter.unusedVariables false
set_option linter.deprecated false
namespace Go.Abs
open Go.RowKit
variable {S : Seat}

def undefs (n : Nat) : List AV := @Nat.rec (fun _ => List AV) [] (fun _ ih => .undef :: ih) n
theorem undefs_eq : ∀ n, undefs n = List.replicate n .undef
  | 0 => rfl
  | n + 1 => by
    show AV.undef :: undefs n = _
    rw [undefs_eq n, List.replicate_succ]

/-- the results of a function -/
def resK (S : Seat) (t : List AV) (h : Heap) : List ResultVar → (List AV → Prop) → Prop
  | [], k => k []
  | .tmp i :: r, k => forceK (getT t i) (fun v => resK S t h r (fun vs => k (v :: vs)))
  | .cell a ty :: r, k =>
    match getT t a with
    | .ptr i o =>
      match S.Γ ty with
      | some ti =>
        match getO h i with
        | some (.var cs _) => LdK (partK ti.kind.agg cs o ti.size) (fun v => resK S t h r (fun vs => k (v :: vs)))
        | _ => False
      | none => False
    | _ => False

def retK : List AV → AV
  | [v] => v
  | vs => .tup vs

def resV (tmps : Array Value) : ResultVar → Sem Value
  | .tmp t => pure (tmps.getD t undef)
  | .cell a t => do loadVar t (← asAddr (tmps.getD a undef))
theorem results_eq (fn : Func) (tmps : Array Value) : results fn tmps = (do let vs ← fn.results.mapM (resV tmps); pure (if h : vs.size = 1 then vs[0] else .tuple vs)) := by
  unfold results
  congr 1

theorem resK_run (hS : SeatOK S) {E : Env} {h : Heap} {w : World} (hr : R S E h w) {t : List AV} {tmps : Array Value} (ht : VRL E t tmps.toList) : ∀ (rs : List ResultVar) (k : List AV → Prop), resK S t h rs k →
    ∃ vs us, k vs ∧ VRL E vs us ∧ (rs.mapM (resV tmps)).run S.P w = .ok us w
  | [], k, hk => ⟨[], [], hk, VRL.nil, rfl⟩
  | r :: rs, k, hk => by
    have hg : ∀ i, VR E (getT t i) (tmps.getD i undef) := by
      intro i
      rw [getT_eq]
      cases hi : t[i]? with
      | none => simp only [Option.getD_none, VR]
      | some c =>
        obtain ⟨u, hu, hv⟩ := ht.get i c hi
        have : tmps[i]? = some u := by simpa using hu
        simp [Array.getD_eq_getD_getElem?, this, hv]
    have go : ∀ (v : AV) (u : Value) (m : Sem Value), VR E v u → m.run S.P w = .ok u w → resK S t h rs (fun vs => k (v :: vs)) →
        ∃ vs us, k vs ∧ VRL E vs us ∧ ((do let x ← m; let xs ← (rs.mapM (resV tmps)); pure (x :: xs) : Sem (List Value))).run S.P w = .ok us w := by
      intro v u m hv hm hk
      obtain ⟨vs, us, h1, h2, h3⟩ := resK_run hS hr ht rs _ hk
      refine ⟨_, u :: us, h1, VRL.cons hv h2, ?_⟩
      rw [Sem.run_bind, hm]
      simp only [Result.andThen_ok]
      rw [Sem.run_bind, h3]
      rfl
    rw [List.mapM_cons]
    cases r with
    | tmp i =>
      simp only [resK, forceK_eq] at hk
      exact go _ _ _ (hg i) rfl hk
    | cell a ty =>
      simp only [resK] at hk
      split at hk
      · rename_i i o e
        have hga := hg a
        rw [e] at hga; simp only [VR] at hga
        obtain ⟨b, hb, hab⟩ := hga
        split at hk
        · rename_i ti hti
          split at hk
          · rename_i cs te hgo
            rw [getO_eq] at hgo
            obtain ⟨v, hp, hk⟩ := hk.elim
            obtain ⟨b', us, h1, h2, h3, _⟩ := hr.r0.ch i _ hgo
            rw [hb] at h1; cases h1
            obtain ⟨u, h1, h2⟩ := run_loadVar' (w := w) (b := b) (off := 0) (hS.ty _ _ hti) (fun j c hj => by
              obtain ⟨u, hu, hv⟩ := h3.get j c hj
              refine ⟨u, ?_, hv⟩
              simp only [World.cell?, h2]
              simpa using hu) hp
            refine go v u _ h2 ?_ hk
            rw [Nat.zero_add] at h1
            simpa [resV, hab, asAddr, Sem.run_bind, Result.andThen] using h1
          · exact hk.elim
        · exact hk.elim
      · exact hk.elim

/-- a function's body, evaluated -/
def bodyK (S : Seat) (fn : Func) (c : Code) (args : List AV) (h : Heap) (k : AEnd → Heap → Prop) : Prop :=
  codeR S c (appL args (undefs (fn.ntmps - lenN args))) h (fun x t h' => match x with
    | .normal => resK S t h' fn.results.toList (fun vs => k (.ret (retK vs)) h')
    | .ret => resK S t h' fn.results.toList (fun vs => k (.ret (retK vs)) h')
    | .pan v => k (.pan v) h'
    | _ => False)

theorem takeMark {E : Env} {h : Heap} {w : World} {D : Nat} {ms : List Nat} (hr : R S E h w) (hm : E.marks = D :: ms) (hnd : E.marks.Nodup) :
    (Instr.takeDeferred D).run S.P w = .ok [] (w.putObj D (.deferred none)) ∧ R S { E with marks := ms } h (w.putObj D (.deferred none)) := by
  have hD := hr.r0.mks D (by rw [hm]; simp)
  have hlt : D < w.heap.size := (Array.getElem?_eq_some_iff.1 hD.1).1
  have hne : ∀ b, b ≠ D → (w.putObj D (.deferred none)).heap[b]? = w.heap[b]? := fun b hb => World.putObj_heap_other hb
  have hcell : ∀ b o, w.cell? ⟨b, o, none⟩ = (w.putObj D (.deferred none)).cell? ⟨b, o, none⟩ := by
    intro b o
    by_cases hb : b = D
    · subst hb
      simp [World.cell?, hD.1, World.putObj_heap_same hlt]
    · simp [World.cell?, hne b hb]
  have imm : immOK E.imm (w.putObj D (.deferred none)) := fun b o u hu => by rw [← hcell]; exact hr.r0.imm b o u hu
  have hsz : (w.putObj D (.deferred none)).heap.size = w.heap.size := by simp
  have s3 : Same3 w (w.putObj D (.deferred none)) := ⟨rfl, rfl, rfl⟩
  have oc : ∀ i c b, ownsC { E with marks := ms } i c b ↔ ownsC E i c b := fun i c b => ownsC_same rfl rfl rfl i c b
  refine ⟨run_takeDeferred hD.1, ⟨⟨fun i c hi => ?_, fun g cs hg => VRI.mono (VExt.of_eq (E := E) (E' := { E with marks := ms }) rfl rfl rfl rfl) _ _ _ (hr.r0.glob g cs hg), hr.r0.non, fun i c b hi ho => ?_, fun i j c d b hi hj h1 h2 => hr.r0.disj i j c d b hi hj ((oc i c b).1 h1) ((oc j d b).1 h2), imm, fun l hl => ?_, fun D' hD' => ?_⟩,
    ⟨fun b hk => ?_, fun i c b hi ho => hr.kp.keep i c b hi ((oc i c b).1 ho), by rw [hsz]; exact hr.kp.size, hr.kp.klt, hr.kp.s3.trans s3⟩⟩⟩
  · exact (hr.r0.ch i c hi).move (E' := { E with marks := ms }) (VExt.of_eq (E := E) (E' := { E with marks := ms }) rfl rfl rfl rfl) rfl rfl rfl rfl rfl (fun b hb => hne b (fun e => hD.2.2 i c hi (e ▸ hb))) (fun _ _ _ => rfl) imm (by rw [hsz]; exact Nat.le_refl _) s3
  · rw [hsz]; exact hr.r0.lt i c b hi ((oc i c b).1 ho)
  · have := hr.r0.rnd l hl
    refine ⟨?_, fun i c hi ho => this.2 i c hi ((oc i c l).1 ho)⟩
    rw [hne l (fun e => by subst e; obtain ⟨r, e⟩ := this.1; rw [hD.1] at e; cases e)]
    exact this.1
  · have hin : D' ∈ E.marks := by rw [hm]; exact List.mem_cons_of_mem _ hD'
    have := hr.r0.mks D' hin
    refine ⟨?_, this.2.1, fun i c hi ho => this.2.2 i c hi ((oc i c D').1 ho)⟩
    rw [hne D' (fun e => by subst e; rw [hm] at hnd; exact (List.nodup_cons.1 hnd).1 hD')]
    exact this.1
  · rw [hne b (fun e => hD.2.1 (e ▸ hk))]
    exact hr.kp.same b hk

theorem leaves_of {fn : Func} {tmps : Array Value} {Rr : Ending → World → Prop} {u : FrameMode} (hu : u ≠ .run) {h : Heap} :
    ∀ (ms : List Nat) (E : Env) (w : World), E.marks = ms → E.marks.Nodup → R S E h w →
    (∀ w', R S { E with marks := [] } h w' → LeavesIn Fence.wide 0 S.P fn tmps Rr [] u w') → LeavesInM Fence.wide 0 S.P fn tmps Rr (ms.map markOf) u w
  | [], E, w, hm, _, hr, hk => hk w (by
      have : E = { E with marks := [] } := by cases E; simp_all
      rw [← this]; exact hr)
  | D :: ms, E, w, hm, hnd, hr, hk => by
    obtain ⟨h1, h2⟩ := takeMark hr hm hnd
    refine ⟨hu, .inl ⟨D, _, rfl, h1, leaves_of hu ms { E with marks := ms } _ rfl (by rw [hm] at hnd; exact (List.nodup_cons.1 hnd).2) h2 hk⟩⟩

theorem ACalls.body (hS : SeatOK S) {f : Nat} {fn : Func} {c : Code} (hf : S.P.funcs[f]? = some fn) (hb : fn.body = some c) (hn : (fn.name == "runtime.NumGoroutine") = false) {args : List AV} {h : Heap} {Q : AEnd → Heap → Prop}
    (hk : bodyK S fn c args h Q) : ACalls S f args h Q := by
  intro E w args' hm hrn hr ha
  refine .inl ⟨?_, ?_⟩
  · unfold callFunc
    simp only [beq_eq_false_iff_ne, ne_eq] at hn
    simp [Sem.run_bind, go_sem, hf, hn, hb]
  · rw [← callsIn_wide (n := 0)]
    refine callsIn_of_wp_marks hf hb trivial ?_
    have hact : ActR E (appL args (undefs (fn.ntmps - lenN args))) { tmps := args'.toArray ++ Array.replicate (fn.ntmps - args'.toArray.size) undef, defers := [] } := by
      refine ⟨?_, by rw [hm]; exact ⟨rfl, List.nodup_nil⟩⟩
      rw [appL_eq, undefs_eq, lenN_eq, ha.length]
      simp only [Array.toList_append, Array.toList_replicate, List.size_toArray]
      exact ha.append (VRL.replicate_undef _ _ (by simp))
    have := (codeR_sound hS c _ _ _ hk).out E w _ hr hact
    have hfen : fen E = Fence.wide := by unfold fen; rw [hrn]
    rw [hfen] at this
    refine wpIn_mono this ?_
    rintro e a' w' ⟨E', t', h', x, h1, h2, h3, h4, h5⟩
    have hres : ∀ (w' : World), R S { E' with marks := [] } h' w' → resK S t' h' fn.results.toList (fun vs => Q (.ret (retK vs)) h') → LeavesIn Fence.wide 0 S.P fn a'.tmps (fun e w' => ∃ E' h' r, Ext E E' ∧ E'.marks = [] ∧ R S E' h' w' ∧ EndR E' r e ∧ Q r h') [] .returning w' := by
      intro w' hr' hk
      have ht : VRL { E' with marks := [] } t' a'.tmps.toList := VRL.mono (VExt.of_eq (E := E') (E' := { E' with marks := [] }) rfl rfl rfl rfl) _ _ h3.1
      obtain ⟨vs, us, hq, hvs, hrun⟩ := resK_run hS hr' ht _ _ hk
      have hrun2 : (results fn a'.tmps).run S.P w' = .ok (if h : us.toArray.size = 1 then us.toArray[0] else .tuple us.toArray) w' := by
        rw [results_eq, Sem.run_bind, Array.mapM_eq_mapM_toList, map_eq_pure_bind, Sem.run_bind, hrun]
        rfl
      refine ⟨_, hrun2, { E' with marks := [] }, h', .ret (retK vs), ⟨h1.blk, h1.tok, h1.cbv, h1.imm, h1.new, h1.keep, h1.base, h1.rnd⟩, rfl, hr', ⟨_, rfl, ?_⟩, hq⟩
      have hl := hvs.length
      match vs, us, hvs, hl with
      | [], [], hvs, _ => simpa [retK, VR] using hvs
      | [v], [u], hvs, _ => obtain ⟨_, _, e, h1, _⟩ := hvs.uncons; cases e; simpa [retK] using h1
      | v1 :: v2 :: vs, u1 :: u2 :: us, hvs, _ =>
        have : ¬ (u1 :: u2 :: us).toArray.size = 1 := by simp
        rw [dif_neg this]
        simp only [retK, VR]
        exact ⟨_, rfl, hvs⟩
    cases x with
    | normal =>
      simp only [ExitR] at h4; subst h4
      show LeavesInM _ _ _ _ _ _ _ _ _
      rw [h3.2.1]
      exact leaves_of (by simp) E'.marks E' w' rfl h3.2.2 h2 fun w' hr' => hres w' hr' h5
    | ret =>
      simp only [ExitR] at h4; subst h4
      show LeavesInM _ _ _ _ _ _ _ _ _
      rw [h3.2.1]
      exact leaves_of (by simp) E'.marks E' w' rfl h3.2.2 h2 fun w' hr' => hres w' hr' h5
    | pan v =>
      obtain ⟨u, rfl, hu⟩ := h4
      show LeavesInM _ _ _ _ _ _ _ _ _
      rw [h3.2.1]
      exact leaves_of (by simp) E'.marks E' w' rfl h3.2.2 h2 fun w' hr' => ⟨{ E' with marks := [] }, h', .pan v, ⟨h1.blk, h1.tok, h1.cbv, h1.imm, h1.new, h1.keep, h1.base, h1.rnd⟩, rfl, hr', ⟨u, rfl, VR.mono (VExt.of_eq (E := E') (E' := { E' with marks := [] }) rfl rfl rfl rfl) _ _ hu⟩, h5⟩
    | exit i => exact h5.elim
    | goto i => exact h5.elim

theorem CallH.body (hS : SeatOK S) {f : Nat} {fn : Func} {c : Code} (hf : S.P.funcs[f]? = some fn) (hb : fn.body = some c) (hn : (fn.name == "runtime.NumGoroutine") = false) {args : List AV} {h : Heap} {k : AEnd → Heap → Prop}
    (hk : bodyK S fn c args h k) : CallH S f args h k := ⟨ACalls.body hS hf hb hn hk⟩

end Go.Abs
