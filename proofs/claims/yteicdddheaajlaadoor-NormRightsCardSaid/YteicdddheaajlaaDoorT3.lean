/- Definitions and lemmas for the law, part 3. No condition beyond those in each statement. -/
import Derived.OrdersIn
import Derived.Test.YteicdddheaajlaaDoorT2
set_option linter.unusedSimpArgs false
set_option linter.unusedVariables false
set_option linter.deprecated false
namespace Go.Abs
open Go.RowKit
inductive Plan where
  | done
  | take (i : Nat) (p : Plan)
  | perform (i : Nat) (nid : Option Nat) (p : Plan)
  | both (p q : Plan)
noncomputable def trimU (h : Heap) : Heap :=
  @List.rec Chunk (fun _ => Heap) [] (fun c _ ih => match c, ih with | .unborn, [] => [] | c, l => c :: l) h
noncomputable def unborns (n : Nat) : Heap := @Nat.rec (fun _ => Heap) [] (fun _ ih => .unborn :: ih) n
structure Pend where
  i : Nat
  snap : List (Nat × Chunk)
def snapK (h : Heap) : List Nat → (List (Nat × Chunk) → Prop) → Prop
  | [], k => k []
  | i :: r, k => match getO h i with | some c => snapK h r (fun l => k ((i, c) :: l)) | none => False
def snapP (h : Heap) : List (Nat × Chunk) → Prop
  | [] => True
  | (i, c) :: r => getO h i = some c ∧ snapP h r
def pendP (h : Heap) : List Pend → Prop
  | [] => True
  | p :: r => snapP h p.snap ∧ pendP h r
def waits (o : Oper) (i : Nat) : Bool := o.after.toList.any fun e => Region.binds .any e && Nat.beq e.on i
def dropP (o : Oper) : List Pend → List Pend
  | [] => []
  | p :: r => match waits o p.i with | true => dropP o r | false => p :: dropP o r
def readK (S : Seat) (o : Oper) (t : List AV) (h : Heap) (k : AV → List Nat → Prop) : Prop :=
  match o.op with
  | .call c =>
    match c.callee with
    | .builtin .len =>
      match c.args.toList, c.argTypes.toList with
      | x :: _, ty :: _ => match S.Γ ty with
        | some ti => LdK (lenAV ti.kind (ev S.G t x)) (fun n => k (.int .i64 n) [])
        | none => False
      | _, _ => False
    | .builtin .min => mapF (ev S.G t) c.args.toList (fun l => match l with | x :: r => foldK min2A x r (fun v => k v []) | [] => False)
    | .builtin .max => mapF (ev S.G t) c.args.toList (fun l => match l with | x :: r => foldK max2A x r (fun v => k v []) | [] => False)
    | _ => False
  | op => opK S.flat S.Γ (ev S.G t) h (lenN h) op (fun v ups rds => match ups with | [] => k v rds | _ :: _ => False)
def guardK (ops : List Oper) (o : Oper) (t : List AV) (run skip : Prop) : Prop :=
  match o.guard with
  | none => run
  | some (j, want) =>
    match getO ops j with
    | some oj =>
      match oj.dst with
      | some d =>
        match getT t d, want with
        | .bool b, true => Br b run skip
        | .bool b, false => Br b skip run
        | .tup [], _ => skip
        | _, _ => False
      | none => False
    | none => False
def takeR (S : Seat) (ops : List Oper) (i : Nat) (ih : List Pend → List AV → Heap → Prop) (pend : List Pend) (t : List AV) (h : Heap) : Prop :=
  match getO ops i with
  | some o => guardK ops o t
      (readK S o t h (fun v rds => snapK h rds (fun sn => setD t o.dst v (fun t' => ih (⟨i, sn⟩ :: pend) t' h))))
      (setD t o.dst (.tup []) (fun t' => ih (⟨i, []⟩ :: pend) t' h))
  | none => False
def performN (S : Seat) (nid : Option Nat) (o : Oper) (t : List AV) (h : Heap) (k : AEnd → Heap → Prop) : Prop :=
  match nid with
  | none => operN S (lenN h) o t h k
  | some n => match getO h n with | some .unborn => operN S n o t h k | _ => False
def pendReq (h : Heap) (l : List Pend) (A : Prop) : Prop :=
  match l with
  | [] => A
  | p :: r => Req (pendP h (p :: r)) A
def dstsOf : List Oper → Nat → Bool
  | [], _ => false
  | o :: r, d => match o.dst with
    | some e => (match Nat.beq e d with | true => true | false => dstsOf r d)
    | none => dstsOf r d
def freeT (ops : List Oper) : Nat → List AV → List AV
  | _, [] => []
  | i, v :: l => (match dstsOf ops i with | true => .undef | false => v) :: freeT ops (i + 1) l
def performR (S : Seat) (ops : List Oper) (i : Nat) (nid : Option Nat) (k : ExK) (ih : List Pend → List AV → Heap → Prop) (pend : List Pend) (t : List AV) (h : Heap) : Prop :=
  match getO ops i with
  | some o => guardK ops o t
      (performN S nid o t h (fun e h' => match e with
        | .ret v => pendReq h' (dropP o pend) (setD t o.dst v (fun t' => ih (dropP o pend) t' h'))
        | .pan v => k (.pan v) (freeT ops 0 t) h'))
      (setD t o.dst (.tup []) (fun t' => ih (dropP o pend) t' h))
  | none => False
def planR (S : Seat) (ops : List Oper) (k : ExK) (p : Plan) : List Pend → List AV → Heap → Prop :=
  @Plan.rec (fun _ => List Pend → List AV → Heap → Prop)
    (fun _ t h => k .normal t (trimU h))
    (fun i _ ih => takeR S ops i ih)
    (fun i nid _ ih => performR S ops i nid k ih)
    (fun _ _ ip iq pend t h => ip pend t h ∧ iq pend t h) p
def headsOf : Plan → List Nat
  | .done => []
  | .take _ _ => []
  | .perform i _ _ => [i]
  | .both p q => headsOf p ++ headsOf q
def restOf (n : Nat) (L : List Nat) : List Nat := (List.range n).filter fun j => !L.contains j
def readyOf (ops : List Oper) (L : List Nat) : List Nat :=
  (restOf ops.length L).filter fun j => match ops[j]? with | some o => o.after.toList.all fun e => !Region.binds .any e || L.contains e.on | none => false
def sameSet (a b : List Nat) : Bool := a.all b.contains && b.all a.contains
def planOK (ops : List Oper) : Plan → Bool → List Nat → List Nat → Bool
  | .done, b, L, _ => b && (readyOf ops L).isEmpty
  | .take i p, b, L, U =>
    match ops[i]? with
    | some o => b && !L.contains i && (o.after.toList.all fun e => !Region.binds .any e || L.contains e.on) &&
        ((restOf ops.length (i :: L)).all fun j => match ops[j]? with | some oj => waits oj i || o.apart ops.toArray oj | none => true) &&
        (U.all fun p => match ops[p]? with | some op => (waits o p || op.apart ops.toArray o) && (match o.dst with | some d => !(op.looksAt ops.toArray).contains d && op.dst != some d | none => true) | none => false) &&
        (match o.dst with | some d => !(o.looksAt ops.toArray).contains d | none => true) &&
        planOK ops p true (i :: L) (i :: U)
    | none => false
  | .perform i _ p, b, L, U =>
    match ops[i]? with
    | some o => (!b || sameSet (readyOf ops L) [i]) && !L.contains i && planOK ops p true (i :: L) (U.filter fun j => !waits o j)
    | none => false
  | .both p q, b, L, U => (!b || sameSet (readyOf ops L) (headsOf p ++ headsOf q)) && planOK ops p false L U && planOK ops q false L U
end Go.Abs
namespace Go.Abs
open Go.RowKit
variable {S : Seat}
def ReadOK (S : Seat) (o : Oper) (t : List AV) (v : AV) (P : Heap → Prop) : Prop :=
  ∀ (h' : Heap) (E : Env) (w : World) (a : Act), P h' → R S E h' w → VRL E t a.tmps.toList →
    ∃ u, ((execOp a.eval o).run S.P w = .ok (.value u) w ∨ ((execOp a.eval o).run S.P w = .ok .skip w ∧ u = undef)) ∧ VR E v u
theorem ev_VRL {E : Env} {h : Heap} {w : World} (hr : R S E h w) {t : List AV} {a : Act} (ha : VRL E t a.tmps.toList) (x : Operand) : VR E (ev S.G t x) (a.eval x) := by
  cases x with
  | tmp i =>
    simp only [ev, Act.eval, getT_eq]
    cases hi : t[i]? with
    | none => simp only [Option.getD_none, VR]
    | some c =>
      obtain ⟨u, hu, hv⟩ := ha.get i c hi
      have : a.tmps.getD i undef = u := by
        have : a.tmps[i]? = some u := by simpa using hu
        simp [Array.getD_eq_getD_getElem?, this]
      rw [this]; exact hv
  | const v => exact ofV_VR E v
  | global g =>
    simp only [ev, Act.eval]
    cases hg : S.G g with
    | none => simp only [VR]
    | some cs => simp only [VR]; exact ⟨g, 0, rfl, hr.r0.glob g cs hg⟩
  | func f => simp only [ev, Act.eval, VR]; exact ⟨[], [], rfl, VRL.nil, VRL.nil⟩
theorem foldK_all {f : AV → AV → Option AV} {g : Value → Value → Sem Value} (hf : ∀ {E : Env} {P : Program} x y z u v, f x y = some z → VR E x u → VR E y v → ∃ r, (∀ w, (g u v).run P w = .ok r w) ∧ VR E z r) {k : AV → Prop} :
    ∀ {r : List AV} {x : AV}, foldK f x r k → ∃ v, k v ∧ ∀ (E : Env) (P : Program) (u : Value) (us : List Value), VR E x u → VRL E r us → ∃ v', (∀ w, (us.foldlM g u).run P w = .ok v' w) ∧ VR E v v'
  | [], x, hk => ⟨x, hk, fun E P u us hu hus => by simp only [VRL] at hus; subst hus; exact ⟨u, fun w => rfl, hu⟩⟩
  | y :: r, x, hk => by
    obtain ⟨z, hz, hk⟩ := hk.elim
    obtain ⟨v, hkv, hv⟩ := foldK_all hf hk
    refine ⟨v, hkv, fun E P u us hu hus => ?_⟩
    obtain ⟨u1, us', rfl, h1, h2⟩ := hus.uncons
    obtain ⟨r1, hr1, hz'⟩ := hf _ _ _ _ _ hz hu h1
    obtain ⟨v', hrun, hv'⟩ := hv E P r1 us' hz' h2
    refine ⟨v', fun w => ?_, hv'⟩
    rw [List.foldlM_cons, Sem.run_bind, hr1 w]
    exact hrun w
theorem readK_sound (hS : SeatOK S) {o : Oper} {t : List AV} {h : Heap} {k : AV → List Nat → Prop} (hk : readK S o t h k) :
    ∃ v rds, k v rds ∧ ReadOK S o t v (fun h' => ∀ i ∈ rds, h'[i]? = h[i]?) ∧ (∀ c, o.op ≠ .defer c) := by
  unfold readK at hk
  split at hk
  · rename_i c hop
    have hnd : ∀ c, o.op ≠ .defer c := by rw [hop]; intro c h; cases h
    split at hk
    ·
      rename_i hcal
      split at hk
      · rename_i x rx ty rty hax haty
        split at hk
        · rename_i ti hti
          obtain ⟨n, hn, hk⟩ := hk.elim
          obtain ⟨l, hargs⟩ : ∃ l, c.args = (x :: l).toArray := ⟨rx, by rw [← hax]⟩
          obtain ⟨l2, htys⟩ : ∃ l, c.argTypes = (ty :: l).toArray := ⟨rty, by rw [← haty]⟩
          refine ⟨_, _, hk, fun h' E w a _ hr ha => ?_, hnd⟩
          have hvx := ev_VRL hr ha x
          refine ⟨.int .i64 n, .inl ?_, by simp only [VR]⟩
          simp only [execOp, hop, resolve, hcal, Sem.run_bind, Sem.run_pure, Result.andThen, invoke, builtin]
          rw [len_run hS hti hn hvx c.args c.argTypes (by rw [hargs]; simp) (by rw [htys]; simp)]
        · exact hk.elim
      · exact hk.elim
    ·
      rename_i hcal
      rw [mapF_eq] at hk
      split at hk
      · rename_i x r hl
        obtain ⟨v, hkv, hv⟩ := foldK_all min2_run hk
        refine ⟨v, [], hkv, fun h' E w a _ hr ha => ?_, hnd⟩
        have hmap := mapF_run (ev_VRL hr ha) c.args.toList
        rw [hl] at hmap
        obtain ⟨u, us, e, hu, hus⟩ := hmap.uncons
        obtain ⟨v', hrun, hv'⟩ := hv E S.P u us hu hus
        refine ⟨v', .inl ?_, hv'⟩
        simp only [execOp, hop, resolve, hcal, Sem.run_bind, Sem.run_pure, Result.andThen, invoke, builtin, Builtin.min_, Array.toList_map, e]
        rw [hrun w]
      · exact hk.elim
    ·
      rename_i hcal
      rw [mapF_eq] at hk
      split at hk
      · rename_i x r hl
        obtain ⟨v, hkv, hv⟩ := foldK_all max2_run hk
        refine ⟨v, [], hkv, fun h' E w a _ hr ha => ?_, hnd⟩
        have hmap := mapF_run (ev_VRL hr ha) c.args.toList
        rw [hl] at hmap
        obtain ⟨u, us, e, hu, hus⟩ := hmap.uncons
        obtain ⟨v', hrun, hv'⟩ := hv E S.P u us hu hus
        refine ⟨v', .inl ?_, hv'⟩
        simp only [execOp, hop, resolve, hcal, Sem.run_bind, Sem.run_pure, Result.andThen, invoke, builtin, Builtin.max_, Array.toList_map, e]
        rw [hrun w]
      · exact hk.elim
    · exact hk.elim
  · rename_i op h1
    have hnd : ∀ c, o.op ≠ .defer c := by intro c h; rw [h] at hk; simp only [opK] at hk
    obtain ⟨v, ups, rds, hkv, _, h3⟩ := opK_sound hS hk
    match ups, hkv with
    | [], hkv =>
      refine ⟨v, rds, hkv, fun h' E w a hp hr ha => ?_, hnd⟩
      obtain ⟨E', w', u, h4, h5, _, _, _, h6⟩ := h3 h' hp E w a.eval hr (fun h => (h rfl).elim) (fun h => (h rfl).elim) (fun h => (h rfl).elim) (fun h => (h rfl).elim) (ev_VRL hr ha) o rfl
      obtain ⟨rfl, rfl⟩ := h6 rfl
      exact ⟨u, h4, h5⟩
end Go.Abs
namespace Go.Abs
open Go.RowKit
variable {S : Seat}
def maskT (p : Nat → Bool) : Nat → List AV → List AV
  | _, [] => []
  | i, v :: l => (if p i = true then v else .undef) :: maskT p (i + 1) l
theorem maskT_get (p : Nat → Bool) : ∀ (t : List AV) (i j : Nat), (maskT p i t)[j]? = (t[j]?).map fun v => if p (i + j) = true then v else .undef
  | [], i, j => by simp [maskT]
  | v :: l, i, 0 => by simp [maskT]
  | v :: l, i, j + 1 => by
    simp only [maskT, List.getElem?_cons_succ, maskT_get p l (i + 1) j]
    rw [show i + 1 + j = i + (j + 1) by omega]
theorem maskT_length (p : Nat → Bool) : ∀ (t : List AV) (i : Nat), (maskT p i t).length = t.length
  | [], i => rfl
  | v :: l, i => by simp [maskT, maskT_length p l]
theorem getT_mask (p : Nat → Bool) (t : List AV) (j : Nat) : getT (maskT p 0 t) j = if p j = true then getT t j else .undef := by
  rw [getT_eq, getT_eq, maskT_get]
  cases t[j]? with
  | none => simp
  | some v => simp
theorem VRL.mask_mono {E : Env} {p q : Nat → Bool} (hpq : ∀ j, p j = true → q j = true) {t : List AV} {us : List Value} (h : VRL E (maskT q 0 t) us) : VRL E (maskT p 0 t) us := by
  refine VRL.of_get (by rw [maskT_length]; rw [← h.length, maskT_length]) fun j c u hc hu => ?_
  rw [maskT_get, Nat.zero_add] at hc
  cases ht : t[j]? with
  | none => rw [ht] at hc; cases hc
  | some v =>
    rw [ht] at hc; simp only [Option.map_some, Option.some.injEq] at hc
    by_cases hp : p j = true
    · rw [if_pos hp] at hc; subst hc
      obtain ⟨u', hu', hv⟩ := h.get j v (by rw [maskT_get, ht]; simp [hpq j hp])
      rw [hu] at hu'; cases hu'; exact hv
    · rw [if_neg hp] at hc; subst hc; simp only [VR]
theorem maskT_all {p : Nat → Bool} (h : ∀ j, p j = true) (t : List AV) : maskT p 0 t = t := by
  apply List.ext_getElem?
  intro j
  rw [maskT_get]; cases t[j]? <;> simp [h]
theorem maskT_set_out {p : Nat → Bool} {d : Nat} (hd : p d = false) (t : List AV) (v : AV) : maskT p 0 (t.set d v) = maskT p 0 t := by
  apply List.ext_getElem?
  intro j
  rw [maskT_get, maskT_get, Nat.zero_add]
  by_cases hj : j = d
  · subst hj
    simp only [hd]
    rw [List.getElem?_set]
    by_cases hlt : j < t.length
    · rw [List.getElem?_eq_getElem hlt]; simp [hlt]
    · rw [List.getElem?_eq_none (by omega)]; simp [hlt]
  · rw [List.getElem?_set, if_neg (fun e => hj e.symm)]
theorem maskT_set_in {p : Nat → Bool} {d : Nat} (hd : p d = true) (t : List AV) (v : AV) : maskT p 0 (t.set d v) = (maskT p 0 t).set d v := by
  apply List.ext_getElem?
  intro j
  rw [maskT_get, Nat.zero_add, List.getElem?_set, List.getElem?_set, maskT_length, maskT_get, Nat.zero_add]
  by_cases hj : d = j
  · subst hj
    by_cases hlt : d < t.length <;> simp [hlt, hd]
  · rw [if_neg hj, if_neg hj]
theorem mapF_congr {ρ ρ' : Operand → AV} (l : List Operand) (h : ∀ x ∈ l, ρ x = ρ' x) (k : List AV → Prop) : mapF ρ l k = mapF ρ' l k := by
  rw [mapF_eq, mapF_eq, List.map_congr_left h]
theorem opK_congr {flat : Nat → Option (List Nat)} {Γ : TT} {ρ ρ' : Operand → AV} (hp : Heap) (nid : Nat) (op : Op) (h : ∀ x ∈ op.operands, ρ x = ρ' x) (k : OpK) :
    opK flat Γ ρ hp nid op k = opK flat Γ ρ' hp nid op k := by
  have pairs : ∀ ps : Array (Nat × Operand), (∀ x ∈ (ps.toList.map (·.2)).toArray, ρ x = ρ' x) →
      (ps.toList.map fun p => (p.1, ρ p.2)) = (ps.toList.map fun p => (p.1, ρ' p.2)) := fun ps hps =>
    List.map_congr_left fun p hm => by
      obtain ⟨i, x⟩ := p
      simp only [hps x (by simp only [List.mem_toArray, List.mem_map]; exact ⟨(i, x), hm, rfl⟩)]
  cases op <;> simp only [Op.operands] at h <;> simp only [opK]
  case build t ps => rw [pairs ps h]
  case buildSlice t n ps => rw [pairs ps h]
  case makeFunc fn first captured =>
    cases fn <;> simp only []
    rw [mapF_congr first.toList (fun x hx => h x (by rw [Array.mem_append]; left; exact Array.mem_toList_iff.1 hx))]
    congr 1
    funext l
    rw [mapF_congr captured.toList (fun x hx => h x (by rw [Array.mem_append]; right; exact Array.mem_toList_iff.1 hx))]
  case slice t x lo hi mx =>
    have hx := h x (by simp)
    have hlo : ∀ y, lo = some y → ρ y = ρ' y := fun y hy => h y (by simp [hy])
    have hhi : ∀ y, hi = some y → ρ y = ρ' y := fun y hy => h y (by simp [hy])
    have hmx : ∀ y, mx = some y → ρ y = ρ' y := fun y hy => h y (by simp [hy])
    rw [hx]
    cases lo <;> cases hi <;> cases mx <;> simp_all
  all_goals (first | rfl | (simp_all; done))
theorem operN_congr {nid : Nat} {o : Oper} {t t' : List AV} (hp : Heap) (h : ∀ x ∈ o.op.operands, ev S.G t x = ev S.G t' x) (k : AEnd → Heap → Prop) :
    operN S nid o t hp k = operN S nid o t' hp k := by
  obtain ⟨dst, op, type, pos, after, guard⟩ := o
  simp only at h
  unfold operN
  cases op with
  | call c =>
    simp only [Op.operands] at h
    have hargs : ∀ x ∈ c.args.toList, ev S.G t x = ev S.G t' x := fun x hx => h x (by
      unfold Call.operands; rw [Array.mem_append]; right; exact Array.mem_toList_iff.1 hx)
    simp only
    cases hc : c.callee with
    | value f =>
      have hf : ev S.G t f = ev S.G t' f := h f (by unfold Call.operands; simp [hc])
      simp only [hf]
      cases ev S.G t' f <;> simp only [mapF_congr c.args.toList hargs]
    | invoke r m => rfl
    | builtin b =>
      cases b <;> simp only [mapF_congr c.args.toList hargs]
      case len =>
        split
        · rename_i x l ty l2 hl hl2
          rw [hargs x (by rw [hl]; simp)]
        · rfl
      case append =>
        split
        · rename_i s x ty ty2 hl hl2
          rw [hargs s (by rw [hl]; simp), hargs x (by rw [hl]; simp)]
        · rfl
  | panic x => simp only [h x (by simp [Op.operands])]
  | _ => exact opK_congr (ρ := ev S.G t) (ρ' := ev S.G t') hp nid _ h _
theorem readK_congr {o : Oper} {t t' : List AV} (hp : Heap) (h : ∀ x ∈ o.op.operands, ev S.G t x = ev S.G t' x) (k : AV → List Nat → Prop) :
    readK S o t hp k = readK S o t' hp k := by
  obtain ⟨dst, op, type, pos, after, guard⟩ := o
  simp only at h
  unfold readK
  cases op with
  | call c =>
    simp only [Op.operands] at h
    have hargs : ∀ x ∈ c.args.toList, ev S.G t x = ev S.G t' x := fun x hx => h x (by
      unfold Call.operands; rw [Array.mem_append]; right; exact Array.mem_toList_iff.1 hx)
    simp only
    cases hc : c.callee with
    | value f => rfl
    | invoke r m => rfl
    | builtin b =>
      cases b <;> simp only [mapF_congr c.args.toList hargs]
      case len =>
        split
        · rename_i x l ty l2 hl hl2
          rw [hargs x (by rw [hl]; simp)]
        · rfl
  | _ => exact opK_congr (ρ := ev S.G t) (ρ' := ev S.G t') hp _ _ h _
theorem ev_mask {G : GT} {p : Nat → Bool} {t : List AV} {x : Operand} (h : ∀ d, x = .tmp d → p d = true) : ev G (maskT p 0 t) x = ev G t x := by
  cases x with
  | tmp d => simp only [ev, getT_mask, h d rfl, if_true]
  | _ => rfl
theorem mem_looksAt {ops : Array Oper} {o : Oper} {d : Tmp} (h : .tmp d ∈ o.op.operands) : d ∈ o.looksAt ops :=
  List.mem_append_left _ (List.mem_filterMap.2 ⟨.tmp d, by simpa using h, rfl⟩)
def vOf (o : Oper) (t : List AV) : AV := match o.dst with | some d => getT t d | none => .undef
def looks (ops : List Oper) (o : Oper) (d : Nat) : Bool := (o.looksAt ops.toArray).contains d
def Prom (S : Seat) (ops : List Oper) (o : Oper) (v : AV) (t : List AV) (h : Heap) : Prop :=
  ∀ (E : Env) (w : World) (a : Act), R S E h w → VRL E (maskT (looks ops o) 0 t) a.tmps.toList →
    (Region.wanted o (yielded ops.toArray a.tmps) = true ∧ (∀ c, o.op ≠ .defer c) ∧ ∃ u, ((execOp a.eval o).run S.P w = .ok (.value u) w ∨ ((execOp a.eval o).run S.P w = .ok .skip w ∧ u = undef)) ∧ VR E v u) ∨
    (Region.wanted o (yielded ops.toArray a.tmps) = false ∧ VR E v undef)
theorem looks_op {ops : List Oper} {o : Oper} {d : Nat} (h : .tmp d ∈ o.op.operands) : looks ops o d = true := by
  unfold looks; simpa using mem_looksAt (ops := ops.toArray) h
theorem guardK_wanted {ops : List Oper} {o : Oper} {t : List AV} {run skip : Prop} (hg : guardK ops o t run skip) {E : Env} {a : Act} {p : Nat → Bool} (hp : ∀ d, looks ops o d = true → p d = true) (ha : VRL E (maskT p 0 t) a.tmps.toList) :
    (Region.wanted o (yielded ops.toArray a.tmps) = true ∧ run) ∨ (Region.wanted o (yielded ops.toArray a.tmps) = false ∧ skip) := by
  unfold guardK at hg
  split at hg
  · rename_i hgu
    exact .inl ⟨by simp [Region.wanted, hgu], hg⟩
  · rename_i j want hgu
    split at hg
    · rename_i oj hoj
      rw [getO_eq] at hoj
      split at hg
      · rename_i d hd
        have hlk : looks ops o d = true := by
          unfold looks Oper.looksAt
          simp [hgu, hoj, hd]
        have hb : ∀ b, getT t d = .bool b → yielded ops.toArray a.tmps j = some b := by
          intro b hb
          rw [getT_eq] at hb
          cases hi : t[d]? with
          | none => simp [hi] at hb
          | some c =>
            simp [hi] at hb
            obtain ⟨u, hu, hv⟩ := ha.get d c (by rw [maskT_get, hi]; simp [hp d hlk])
            rw [hb] at hv; simp only [VR] at hv; subst hv
            have : a.tmps[d]? = some (.bool b) := by simpa using hu
            unfold yielded; simp [hoj, hd, this]
        split at hg
        · rename_i b hbe
          have hyb := hb b hbe
          cases b with
          | true => exact .inl ⟨by simp [Region.wanted, hgu, hyb], hg.elim.1 rfl⟩
          | false => exact .inr ⟨by simp [Region.wanted, hgu, hyb], hg.elim.2 rfl⟩
        · rename_i b hbe
          have hyb := hb b hbe
          cases b with
          | true => exact .inr ⟨by simp [Region.wanted, hgu, hyb], hg.elim.1 rfl⟩
          | false => exact .inl ⟨by simp [Region.wanted, hgu, hyb], hg.elim.2 rfl⟩
        · rename_i hbe
          have hyb : yielded ops.toArray a.tmps j = none := by
            rw [getT_eq] at hbe
            cases hi : t[d]? with
            | none => simp [hi] at hbe
            | some c =>
              simp [hi] at hbe
              obtain ⟨u, hu, hv⟩ := ha.get d c (by rw [maskT_get, hi]; simp [hp d hlk])
              rw [hbe] at hv
              have := hv.toDead; subst this
              have : a.tmps[d]? = some undef := by simpa using hu
              unfold yielded; simp [hoj, hd, this, undef]
          exact .inr ⟨by simp [Region.wanted, hgu, hyb], hg⟩
        · exact hg.elim
      · exact hg.elim
    · exact hg.elim
end Go.Abs
namespace Go.Abs
open Go.RowKit
variable {S : Seat}
def dstIn (ops : List Oper) (V : List Nat) (d : Nat) : Bool := V.any fun p => match ops[p]? with | some o => o.dst == some d | none => false
def vis (ops : List Oper) (V : List Nat) (d : Nat) : Bool := !dstIn ops V d
theorem vis_iff {ops : List Oper} {V : List Nat} {d : Nat} : vis ops V d = true ↔ ∀ p ∈ V, ∀ o, ops[p]? = some o → o.dst ≠ some d := by
  unfold vis dstIn
  simp only [Bool.not_eq_true', List.any_eq_false]
  constructor
  · intro h p hp o ho e
    have := h p hp
    simp [ho, e] at this
  · intro h p hp
    cases ho : ops[p]? with
    | none => simp
    | some o => simpa using h p hp o ho
def binds (e : Edge) : Bool := Region.binds .any e
theorem waits_iff {o : Oper} {i : Nat} : waits o i = true ↔ ∃ e ∈ o.after, binds e = true ∧ e.on = i := by
  unfold waits binds
  simp only [List.any_eq_true, Array.mem_toList_iff, Bool.and_eq_true, Nat.beq_eq]
structure InvS (S : Seat) (ops : List Oper) (L U : List Nat) : Prop where
  lt : ∀ j ∈ L, j < ops.length
  inL : ∀ q ∈ U, q ∈ L
  free : ∀ q ∈ U, ∀ oq, ops[q]? = some oq → ∀ (j : Nat) oj, ops[j]? = some oj → j ∉ L → waits oj q = true ∨ oq.apart ops.toArray oj = true
  deps : ∀ q ∈ U, ∀ oq, ops[q]? = some oq → ∀ i, waits oq i = true → i ∈ L
  pair : U.Pairwise fun p q => p ≠ q ∧ ∀ op oq, ops[p]? = some op → ops[q]? = some oq → waits oq p = false ∧ (waits op q = true ∨ oq.apart ops.toArray op = true) ∧ ∀ d, op.dst = some d → looks ops oq d = false ∧ oq.dst ≠ some d
  self : ∀ q ∈ U, ∀ oq, ops[q]? = some oq → waits oq q = false ∧ ∀ d, oq.dst = some d → looks ops oq d = false
def pendOK (S : Seat) (ops : List Oper) (t : List AV) : List Pend → List Nat → Prop
  | [], U => U = []
  | p :: r, U => ∃ U' o, U = p.i :: U' ∧ ops[p.i]? = some o ∧ (∀ h, snapP h p.snap → Prom S ops o (vOf o t) t h) ∧ pendOK S ops t r U'
structure Dyn (ops : List Oper) (L U V todo : List Nat) (listed : Array Bool) : Prop where
  sub : V.Sublist U
  nd : todo.Nodup
  sz : listed.size = ops.length
  mem : ∀ j, listed.getD j true = false ↔ j ∈ todo
  ch : ∀ j, j ∈ todo ↔ j < ops.length ∧ (j ∉ L ∨ j ∈ V)
theorem Dyn.listed {ops : List Oper} {L U V todo : List Nat} {listed : Array Bool} (hd : Dyn ops L U V todo listed) {j : Nat} (hj : j < ops.length) (hn : j ∉ todo) : listed.getD j false = true := by
  have hlt : j < listed.size := by rw [hd.sz]; exact hj
  cases hb : listed.getD j true with
  | false => exact absurd ((hd.mem j).1 hb) hn
  | true => simpa [hlt] using hb
theorem Dyn.notTodo {ops : List Oper} {L U V todo : List Nat} {listed : Array Bool} (hd : Dyn ops L U V todo listed) {j : Nat} (hj : listed.getD j false = true) : j ∉ todo := by
  intro hm
  have := (hd.mem j).2 hm
  rcases Nat.lt_or_ge j listed.size with h | h
  · simp [h] at this hj; rw [hj] at this; cases this
  · simp [Array.getElem?_eq_none h] at this
theorem last_ready {ops : List Oper} {L U V todo : List Nat} {listed : Array Bool} (hi : InvS S ops L U) (hd : Dyn ops L U V todo listed) (hV : V ≠ []) (hex : ∀ q ∈ U, ∃ o, ops[q]? = some o) :
    Region.ready .any ops.toArray listed ≠ [] := by
  obtain ⟨V', p, rfl⟩ : ∃ V' p, V = V' ++ [p] := ⟨V.dropLast, V.getLast hV, (List.dropLast_concat_getLast hV).symm⟩
  have hpV : p ∈ V' ++ [p] := by simp
  have hpU := hd.sub.subset hpV
  obtain ⟨op, hop⟩ := hex p hpU
  have hplt : p < ops.length := (List.getElem?_eq_some_iff.1 hop).1
  have hptodo : p ∈ todo := (hd.ch p).2 ⟨hplt, .inr hpV⟩
  have hmem : p ∈ Region.ready .any ops.toArray listed := by
    rw [mem_ready]
    refine ⟨(hd.mem p).2 hptodo, op, by simpa using hop, fun e he hb => ?_⟩
    have hw : waits op e.on = true := waits_iff.2 ⟨e, he, hb, rfl⟩
    have hL := hi.deps p hpU op hop _ hw
    have hlt := hi.lt _ hL
    refine hd.listed hlt fun ht => ?_
    rcases ((hd.ch _).1 ht).2 with h | h
    · exact h hL
    · obtain ⟨oe, hoe⟩ := hex _ (hd.sub.subset h)
      rcases List.mem_append.1 h with h | h
      · have hpw := hi.pair.sublist hd.sub
        have := (List.pairwise_append.1 hpw).2.2 _ h p (by simp)
        rw [(this.2 oe op hoe hop).1] at hw; cases hw
      · have he : e.on = p := by simpa using h
        rw [he, (hi.self p hpU op hop).1] at hw; cases hw
  intro h0; rw [h0] at hmem; cases hmem
theorem pendOK.ex {ops : List Oper} {t : List AV} : ∀ {pend : List Pend} {U : List Nat}, pendOK S ops t pend U → ∀ q ∈ U, ∃ o, ops[q]? = some o
  | [], U, h, q, hq => by simp only [pendOK] at h; subst h; cases hq
  | p :: r, U, h, q, hq => by
    obtain ⟨U', o, rfl, ho, _, hr⟩ := h
    rcases List.mem_cons.1 hq with rfl | hq
    · exact ⟨o, ho⟩
    · exact pendOK.ex hr q hq
theorem pendOK.get {ops : List Oper} {t : List AV} {h : Heap} : ∀ {pend : List Pend} {U : List Nat}, pendOK S ops t pend U → pendP h pend → ∀ q ∈ U, ∀ o, ops[q]? = some o → Prom S ops o (vOf o t) t h
  | [], U, hk, _, q, hq => by simp only [pendOK] at hk; subst hk; cases hq
  | p :: r, U, hk, hp, q, hq => by
    obtain ⟨U', o, rfl, ho, hpr, hr⟩ := hk
    intro o' ho'
    rcases List.mem_cons.1 hq with rfl | hq
    · rw [ho] at ho'; cases ho'
      exact hpr h hp.1
    · exact pendOK.get hr hp.2 q hq o' ho'
theorem Prom.set {ops : List Oper} {o : Oper} {v : AV} {t : List AV} {h : Heap} {d : Nat} {u : AV} (hp : Prom S ops o v t h) (hd : looks ops o d = false) : Prom S ops o v (t.set d u) h := fun E w a hr ha =>
  hp E w a hr (by rw [maskT_set_out hd] at ha; exact ha)
theorem vOf_set {o : Oper} {t : List AV} {d : Nat} {u : AV} (hd : o.dst ≠ some d) : vOf o (t.set d u) = vOf o t := by
  unfold vOf
  cases h : o.dst with
  | none => rfl
  | some e =>
    have : d ≠ e := fun x => hd (by rw [h, x])
    simp only [getT_eq, List.getElem?_set_ne this]
theorem pendOK.set {ops : List Oper} {t : List AV} {d : Nat} {u : AV} : ∀ {pend : List Pend} {U : List Nat}, pendOK S ops t pend U → (∀ q ∈ U, ∀ o, ops[q]? = some o → looks ops o d = false ∧ o.dst ≠ some d) → pendOK S ops (t.set d u) pend U
  | [], U, hk, _ => hk
  | p :: r, U, hk, hd => by
    obtain ⟨U', o, rfl, ho, hpr, hr⟩ := hk
    obtain ⟨h1, h2⟩ := hd p.i (by simp) o ho
    exact ⟨U', o, rfl, ho, fun h hs => by rw [vOf_set h2]; exact (hpr h hs).set h1, hr.set fun q hq => hd q (by simp [hq])⟩
theorem pendOK.setDst {ops : List Oper} {t : List AV} {dst : Option Nat} {u : AV} {pend : List Pend} {U : List Nat} (hk : pendOK S ops t pend U) (hd : ∀ d, dst = some d → ∀ q ∈ U, ∀ o, ops[q]? = some o → looks ops o d = false ∧ o.dst ≠ some d) : pendOK S ops (setDst t dst u) pend U := by
  cases dst with
  | none => exact hk
  | some d => exact hk.set (hd d rfl)
theorem pendOK.drop {ops : List Oper} {t : List AV} (o : Oper) : ∀ {pend : List Pend} {U : List Nat}, pendOK S ops t pend U → pendOK S ops t (dropP o pend) (U.filter fun j => !waits o j)
  | [], U, hk => by simp only [pendOK] at hk; subst hk; rfl
  | p :: r, U, hk => by
    obtain ⟨U', op, rfl, ho, hpr, hr⟩ := hk
    simp only [dropP]
    cases hw : waits o p.i with
    | true => simp only [List.filter_cons, hw, Bool.not_true, Bool.false_eq_true, if_false]; exact hr.drop o
    | false =>
      simp only [List.filter_cons, hw, Bool.not_false, if_true]
      exact ⟨_, op, rfl, ho, hpr, hr.drop o⟩
theorem pendP.drop {h : Heap} (o : Oper) : ∀ {pend : List Pend}, pendP h pend → pendP h (dropP o pend)
  | [], _ => trivial
  | p :: r, hk => by
    simp only [dropP]
    cases hw : waits o p.i with
    | true => exact hk.2.drop o
    | false => exact ⟨hk.1, hk.2.drop o⟩
theorem InvS.perform {ops : List Oper} {L U : List Nat} (hi : InvS S ops L U) {i : Nat} (hlt : i < ops.length) (o : Oper) : InvS S ops (i :: L) (U.filter fun j => !waits o j) where
  lt j hj := by rcases List.mem_cons.1 hj with rfl | hj; exact hlt; exact hi.lt j hj
  inL q hq := List.mem_cons_of_mem _ (hi.inL q (List.mem_filter.1 hq).1)
  free q hq oq ho j oj hj hn := hi.free q (List.mem_filter.1 hq).1 oq ho j oj hj (fun h => hn (List.mem_cons_of_mem _ h))
  deps q hq oq ho j hj := List.mem_cons_of_mem _ (hi.deps q (List.mem_filter.1 hq).1 oq ho j hj)
  pair := hi.pair.sublist List.filter_sublist
  self q hq := hi.self q (List.mem_filter.1 hq).1
theorem snapK_run {h : Heap} : ∀ (l : List Nat) (k : List (Nat × Chunk) → Prop), snapK h l k → ∃ sn, k sn ∧ snapP h sn ∧ ∀ h', snapP h' sn → ∀ i ∈ l, h'[i]? = h[i]?
  | [], k, hk => ⟨[], hk, trivial, fun _ _ i hi => nomatch hi⟩
  | i :: r, k, hk => by
    simp only [snapK] at hk
    split at hk
    · rename_i c hc
      obtain ⟨sn, h1, h2, h3⟩ := snapK_run r _ hk
      refine ⟨_, h1, ⟨hc, h2⟩, fun h' hs j hj => ?_⟩
      rcases List.mem_cons.1 hj with rfl | hj
      · have := hs.1; rw [getO_eq] at this hc; rw [this, hc]
      · exact h3 h' hs.2 j hj
    · exact hk.elim
end Go.Abs
namespace Go.Abs
open Go.RowKit
variable {S : Seat} {B : List Deferred}
def perfs : Plan → List (Nat × Option Nat × Plan)
  | .done => []
  | .take _ _ => []
  | .perform i n p => [(i, n, p)]
  | .both p q => perfs p ++ perfs q
theorem perfs_ok {ops : List Oper} : ∀ {p : Plan} {b : Bool} {L U : List Nat}, planOK ops p b L U = true → ∀ x ∈ perfs p, x.1 ∉ L ∧ (∃ o, ops[x.1]? = some o ∧ planOK ops x.2.2 true (x.1 :: L) (U.filter fun j => !waits o j) = true)
  | .done, b, L, U, h, x, hx => by cases hx
  | .take i p, b, L, U, h, x, hx => by cases hx
  | .perform i n p, b, L, U, h, x, hx => by
    simp only [perfs, List.mem_singleton] at hx; subst hx
    simp only [planOK] at h
    split at h
    · rename_i o ho
      simp only [Bool.and_eq_true, Bool.not_eq_true', List.contains_eq_mem, decide_eq_false_iff_not] at h
      exact ⟨h.1.2, o, ho, h.2⟩
    · cases h
  | .both p q, b, L, U, h, x, hx => by
    simp only [planOK, Bool.and_eq_true] at h
    rcases List.mem_append.1 hx with hx | hx
    · exact perfs_ok h.1.2 x hx
    · exact perfs_ok h.2 x hx
theorem perfs_run {ops : List Oper} {k : ExK} {pend : List Pend} {t : List AV} {h : Heap} : ∀ {p : Plan}, planR S ops k p pend t h → ∀ x ∈ perfs p, performR S ops x.1 x.2.1 k (planR S ops k x.2.2) pend t h
  | .done, hr, x, hx => by cases hx
  | .take i p, hr, x, hx => by cases hx
  | .perform i n p, hr, x, hx => by
    simp only [perfs, List.mem_singleton] at hx; subst hx
    exact hr
  | .both p q, hr, x, hx => by
    have hr : planR S ops k p pend t h ∧ planR S ops k q pend t h := hr
    rcases List.mem_append.1 hx with hx | hx
    · exact perfs_run hr.1 x hx
    · exact perfs_run hr.2 x hx
theorem heads_perfs : ∀ {p : Plan} {i : Nat}, i ∈ headsOf p → ∃ x ∈ perfs p, x.1 = i
  | .done, i, h => by cases h
  | .take i p, j, h => by cases h
  | .perform i n p, j, h => ⟨(i, n, p), by simp [perfs], by simp only [headsOf, List.mem_singleton] at h; exact h.symm⟩
  | .both p q, j, h => by
    rcases List.mem_append.1 h with h | h
    · obtain ⟨x, hx, e⟩ := heads_perfs h; exact ⟨x, by simp [perfs, hx], e⟩
    · obtain ⟨x, hx, e⟩ := heads_perfs h; exact ⟨x, by simp [perfs, hx], e⟩
theorem heads_ne {ops : List Oper} {L U : List Nat} : ∀ {p : Plan}, planOK ops p false L U = true → headsOf p ≠ []
  | .done, h => by simp [planOK] at h
  | .take i p, h => by
    simp only [planOK] at h
    split at h
    · simp at h
    · cases h
  | .perform i n p, h => by simp [headsOf]
  | .both p q, h => by
    simp only [planOK, Bool.and_eq_true] at h
    have := heads_ne (p := p) h.1.2
    simp [headsOf, this]
theorem heads_ready {ops : List Oper} {L U : List Nat} : ∀ {p : Plan}, (∀ i q, p ≠ .take i q) → planOK ops p true L U = true → (∀ j, j ∈ readyOf ops L ↔ j ∈ headsOf p) ∧ (headsOf p = [] → p = .done)
  | .done, _, h => by
    simp only [planOK, Bool.true_and, List.isEmpty_iff] at h
    exact ⟨fun j => by rw [h]; rfl, fun _ => rfl⟩
  | .take i p, hn, _ => absurd rfl (hn i p)
  | .perform i n p, _, h => by
    simp only [planOK] at h
    split at h
    · simp only [Bool.not_true, Bool.false_or, Bool.and_eq_true, sameSet, List.all_eq_true, List.contains_eq_mem, decide_eq_true_eq] at h
      exact ⟨fun j => ⟨fun hj => h.1.1.1 j hj, fun hj => h.1.1.2 j hj⟩, fun e => by simp [headsOf] at e⟩
    · cases h
  | .both p q, _, h => by
    simp only [planOK, Bool.not_true, Bool.false_or, Bool.and_eq_true, sameSet, List.all_eq_true, List.contains_eq_mem, decide_eq_true_eq] at h
    refine ⟨fun j => ⟨fun hj => h.1.1.1 j hj, fun hj => h.1.1.2 j hj⟩, fun e => ?_⟩
    have := heads_ne (p := p) h.1.2
    simp [headsOf, this] at e
theorem mem_readyOf {ops : List Oper} {L : List Nat} {j : Nat} : j ∈ readyOf ops L ↔ j ∉ L ∧ ∃ o, ops[j]? = some o ∧ ∀ e ∈ o.after, binds e = true → e.on ∈ L := by
  unfold readyOf restOf binds
  simp only [List.mem_filter, List.mem_range, List.contains_eq_mem, Bool.not_eq_true', decide_eq_false_iff_not]
  constructor
  · rintro ⟨⟨h1, h2⟩, h3⟩
    refine ⟨h2, ops[j], List.getElem?_eq_getElem h1, fun e he hb => ?_⟩
    rw [List.getElem?_eq_getElem h1] at h3
    simp only [List.all_eq_true, Array.mem_toList_iff, Bool.or_eq_true, Bool.not_eq_true', decide_eq_true_eq] at h3
    rcases h3 e he with h | h
    · rw [hb] at h; cases h
    · exact h
  · rintro ⟨h1, o, ho, h⟩
    refine ⟨⟨(List.getElem?_eq_some_iff.1 ho).1, h1⟩, ?_⟩
    rw [ho]
    simp only [List.all_eq_true, Array.mem_toList_iff, Bool.or_eq_true, Bool.not_eq_true', decide_eq_true_eq]
    intro e he
    cases hb : Region.binds .any e with
    | false => exact .inl rfl
    | true => exact .inr (h e he hb)
def Snd (S : Seat) (ops : List Oper) (k : ExK) (p : Plan) : Prop :=
  ∀ (L U : List Nat) (pend : List Pend) (t : List AV) (h : Heap), planOK ops p true L U = true → planR S ops k p pend t h → InvS S ops L U → pendOK S ops t pend U → pendP h pend →
    ∀ (B : List Deferred) (V todo : List Nat) (listed : Array Bool) (E0 E : Env) (w : World) (a : Act), Dyn ops L U V todo listed → R S E h w → ActR B E (maskT (vis ops V) 0 t) a → Ext E0 E →
      wpAnyIn (fen E0) 0 S.P .any ops.toArray (PostR S B E0 k) todo.length listed a w
theorem ActR.putM {E E' : Env} {ops : List Oper} {V : List Nat} {t : List AV} {a : Act} (ha : ActR B E (maskT (vis ops V) 0 t) a) (hx : Ext E E') (hm : E'.marks = E.marks) {v : AV} {u : Value} (hv : VR E' v u) {d : Option Tmp} (hd : ∀ e, d = some e → vis ops V e = true) : ActR B E' (maskT (vis ops V) 0 (setDst t d v)) (a.put d u) := by
  have := ha.put hx hm hv d
  cases d with
  | none => exact this
  | some e =>
    have e2 : maskT (vis ops V) 0 (setDst t (some e) v) = setDst (maskT (vis ops V) 0 t) (some e) v := maskT_set_in (hd e rfl) t v
    rw [e2]; exact this
theorem Dyn.step {ops : List Oper} {L U V todo : List Nat} {listed : Array Bool} (hd : Dyn ops L U V todo listed) {i : Nat} (hi : i ∈ todo) {L' U' V' : List Nat} (hsub : V'.Sublist U')
    (hch : ∀ j, j < ops.length → j ≠ i → ((j ∉ L' ∨ j ∈ V') ↔ (j ∉ L ∨ j ∈ V))) (hi1 : i ∈ L') (hi2 : i ∉ V') : Dyn ops L' U' V' (todo.erase i) (listed.setIfInBounds i true) ∧ todo.length = (todo.erase i).length + 1 := by
  refine ⟨⟨hsub, hd.nd.erase i, by simp [hd.sz], fun j => ?_, fun j => ?_⟩, ?_⟩
  · rw [hd.nd.mem_erase_iff]
    by_cases hj : j = i
    · subst hj
      have hlt : j < listed.size := by rw [hd.sz]; exact ((hd.ch j).1 hi).1
      simp [hlt]
    · rw [getD_set_ne true (fun e => hj e.symm), hd.mem]
      exact ⟨fun h => ⟨hj, h⟩, fun h => h.2⟩
  · rw [hd.nd.mem_erase_iff, hd.ch]
    by_cases hj : j = i
    · subst hj
      exact ⟨fun h => absurd rfl h.1, fun h => h.2.elim (fun h => absurd hi1 h) (fun h => absurd h hi2)⟩
    · constructor
      · rintro ⟨_, h1, h2⟩; exact ⟨h1, (hch j h1 hj).2 h2⟩
      · rintro ⟨h1, h2⟩; exact ⟨hj, h1, (hch j h1 hj).1 h2⟩
  · rw [List.length_erase_of_mem hi]
    have : 0 < todo.length := List.length_pos_of_mem hi
    omega
theorem trimU_ok {E : Env} {w : World} : ∀ {h : Heap}, R S E h w → R S E (trimU h) w := by
  have hsub : ∀ (h : Heap), (∀ (i : Nat) c, (trimU h)[i]? = some c → h[i]? = some c) ∧ (∀ (i : Nat), (trimU h)[i]? = none → h[i]? = none ∨ h[i]? = some .unborn) := by
    intro h
    induction h with
    | nil => exact ⟨fun i c hc => hc, fun i hi => .inl rfl⟩
    | cons c h ih =>
      have e : trimU (c :: h) = match c, trimU h with | .unborn, [] => [] | c, l => c :: l := rfl
      have hgo : trimU (c :: h) = c :: trimU h ∨ (trimU (c :: h) = [] ∧ c = .unborn ∧ trimU h = []) := by
        rw [e]
        split
        · rename_i h1; exact .inr ⟨rfl, rfl, h1⟩
        · exact .inl rfl
      rcases hgo with hgo | ⟨hgo, rfl, h0⟩
      · rw [hgo]
        refine ⟨fun i d hd => ?_, fun i hi => ?_⟩
        · cases i with
          | zero => simpa using hd
          | succ i => simp at hd ⊢; exact ih.1 i d hd
        · cases i with
          | zero => simp at hi
          | succ i => simp at hi ⊢; simpa using ih.2 i (by simpa using hi)
      · rw [hgo]
        refine ⟨fun i d hd => by simp at hd, fun i _ => ?_⟩
        cases i with
        | zero => exact .inr rfl
        | succ i => simpa using ih.2 i (by rw [h0]; simp)
  intro h hr
  obtain ⟨h1, h2⟩ := hsub h
  exact ⟨⟨fun i c hc => hr.r0.ch i c (h1 i c hc), hr.r0.glob, fun i hi => by
      rcases h2 i hi with h | h
      · exact hr.r0.non i h
      · exact hr.r0.ch i _ h,
    fun i c b hc ho => hr.r0.lt i c b (h1 i c hc) ho, fun i j c d b hc hd => hr.r0.disj i j c d b (h1 i c hc) (h1 j d hd), hr.r0.imm, fun l hl => ⟨(hr.r0.rnd l hl).1, fun i c hc => (hr.r0.rnd l hl).2 i c (h1 i c hc)⟩,
      fun D hD => ⟨(hr.r0.mks D hD).1, (hr.r0.mks D hD).2.1, fun i c hc => (hr.r0.mks D hD).2.2 i c (h1 i c hc)⟩⟩,
    ⟨hr.kp.same, fun i c b hc => hr.kp.keep i c b (h1 i c hc), hr.kp.size, hr.kp.klt, hr.kp.s3⟩⟩
end Go.Abs
namespace Go.Abs
open Go.RowKit
variable {S : Seat}
theorem pairwise_two {α : Type} {R : α → α → Prop} : ∀ {l : List α}, l.Pairwise R → ∀ a ∈ l, ∀ b ∈ l, a ≠ b → R a b ∨ R b a
  | [], _, a, ha, _, _, _ => nomatch ha
  | c :: l, h, a, ha, b, hb, hne => by
    obtain ⟨h1, h2⟩ := List.pairwise_cons.1 h
    rcases List.mem_cons.1 ha with ha | ha
    · rcases List.mem_cons.1 hb with hb | hb
      · exact absurd (ha.trans hb.symm) hne
      · exact .inl (ha ▸ h1 b hb)
    · rcases List.mem_cons.1 hb with hb | hb
      · exact .inr (hb ▸ h1 a ha)
      · exact pairwise_two h2 a ha b hb hne
theorem apart_looks {ops : List Oper} {x y : Oper} (h : x.apart ops.toArray y = true) : (∀ d, x.dst = some d → looks ops y d = false) ∧ (∀ d, x.dst = some d → y.dst ≠ some d) ∧ (∀ d, y.dst = some d → looks ops x d = false) := by
  obtain ⟨h1, h2, h3⟩ := Oper.apart_spec h
  refine ⟨fun d hd => ?_, h2, fun d hd => ?_⟩
  · have := h1 d hd; unfold looks; simpa using this
  · have := h3 d hd; unfold looks; simpa using this
theorem mask_erase {ops : List Oper} {V : List Nat} {i : Nat} {o : Oper} (ho : ops[i]? = some o) (hnd : V.Nodup) (hoth : ∀ d, o.dst = some d → ∀ q ∈ V, q ≠ i → ∀ oq, ops[q]? = some oq → oq.dst ≠ some d) (t : List AV) :
    maskT (vis ops (V.erase i)) 0 t = setDst (maskT (vis ops V) 0 t) o.dst (vOf o t) := by
  have hvis : ∀ j, o.dst ≠ some j → vis ops (V.erase i) j = vis ops V j := by
    intro j hj
    rw [Bool.eq_iff_iff, vis_iff, vis_iff]
    constructor
    · intro h q hq oq hoq
      by_cases hqi : q = i
      · subst hqi; rw [ho] at hoq; cases hoq; exact hj
      · exact h q (hnd.mem_erase_iff.2 ⟨hqi, hq⟩) oq hoq
    · intro h q hq oq hoq
      exact h q (hnd.mem_erase_iff.1 hq).2 oq hoq
  apply List.ext_getElem?
  intro j
  cases hd : o.dst with
  | none =>
    simp only [setDst, maskT_get, Nat.zero_add]
    rw [hvis j (by rw [hd]; simp)]
  | some d =>
    simp only [setDst, List.getElem?_set, maskT_length, maskT_get, Nat.zero_add]
    by_cases hj : d = j
    · subst hj
      have hv : vis ops (V.erase i) d = true := vis_iff.2 fun q hq oq hoq => hoth d hd q (hnd.mem_erase_iff.1 hq).2 (hnd.mem_erase_iff.1 hq).1 oq hoq
      simp only [if_true, hv]
      by_cases hlt : d < t.length
      · rw [if_pos hlt, List.getElem?_eq_getElem hlt]
        simp [vOf, hd, getT_eq, List.getElem?_eq_getElem hlt]
      · rw [if_neg hlt, List.getElem?_eq_none (Nat.le_of_not_lt hlt)]; rfl
    · rw [if_neg hj, hvis j (by rw [hd]; simpa using hj)]
theorem dstsOf_mem : ∀ {ops : List Oper} {d : Nat}, dstsOf ops d = false → ∀ o ∈ ops, o.dst ≠ some d
  | [], d, _, o, ho => by simp at ho
  | o0 :: ops, d, h, o, ho => by
    unfold dstsOf at h
    rcases List.mem_cons.1 ho with rfl | ho
    · intro e
      rw [e] at h
      simp at h
    · refine dstsOf_mem ?_ o ho
      split at h
      · split at h
        · cases h
        · exact h
      · exact h
theorem freeT_get (ops : List Oper) : ∀ (t : List AV) (i j : Nat), (freeT ops i t)[j]? = (t[j]?).map fun v => match dstsOf ops (i + j) with | true => .undef | false => v
  | [], i, j => by simp [freeT]
  | v :: l, i, 0 => by simp [freeT]
  | v :: l, i, j + 1 => by
    simp only [freeT, List.getElem?_cons_succ, freeT_get ops l (i + 1) j]
    rw [show i + 1 + j = i + (j + 1) by omega]
theorem freeT_run {ops : List Oper} {V : List Nat} {E : Env} {t : List AV} {us : List Value} (h : VRL E (maskT (vis ops V) 0 t) us) : VRL E (freeT ops 0 t) us := by
  have hlen : (freeT ops 0 t).length = us.length := by
    rw [← h.length, maskT_length]
    have : ∀ (l : List AV) (i : Nat), (freeT ops i l).length = l.length := fun l => by
      induction l with
      | nil => intro i; rfl
      | cons v l ih => intro i; simp [freeT, ih]
    exact this t 0
  refine VRL.of_get hlen fun j c u hc hu => ?_
  rw [freeT_get, Nat.zero_add] at hc
  cases hd : dstsOf ops j with
  | true =>
    rw [hd] at hc
    cases ht : t[j]? with
    | none => rw [ht] at hc; simp at hc
    | some v => rw [ht] at hc; simp at hc; subst hc; simp only [VR]
  | false =>
    have hv : vis ops V j = true := vis_iff.2 fun p _ o ho => dstsOf_mem hd o (List.mem_of_getElem? ho)
    rw [hd] at hc
    have : (maskT (vis ops V) 0 t)[j]? = some c := by
      rw [maskT_get, Nat.zero_add, hv]
      cases ht : t[j]? with
      | none => rw [ht] at hc; simp at hc
      | some v => rw [ht] at hc; simp at hc ⊢; exact hc
    obtain ⟨u', hu', hr⟩ := h.get j c this
    rw [hu] at hu'; cases hu'
    exact hr
theorem node_snd (hS : SeatOK S) {ops : List Oper} {k : ExK} {p : Plan} (hn : ∀ i q, p ≠ .take i q) (IH : ∀ x ∈ perfs p, Snd S ops k x.2.2) : Snd S ops k p := by
  intro L U pend t h hok hrun hi hp hpp B
  obtain ⟨hheads, hdone⟩ := heads_ready hn hok
  suffices key : ∀ (n : Nat) (V todo : List Nat) (listed : Array Bool) (E0 E : Env) (w : World) (a : Act), V.length = n → Dyn ops L U V todo listed → R S E h w → ActR B E (maskT (vis ops V) 0 t) a → Ext E0 E →
      wpAnyIn (fen E0) 0 S.P .any ops.toArray (PostR S B E0 k) todo.length listed a w from
    fun V todo listed E0 E w a => key V.length V todo listed E0 E w a rfl
  intro n
  induction n using Nat.strongRecOn with
  | _ n ih =>
  intro V todo listed E0 E w a hVn hd hr ha hx
  have hVU := fun q (hq : q ∈ V) => hd.sub.subset hq
  have hVt : ∀ q ∈ V, q ∈ todo := fun q hq => (hd.ch q).2 ⟨hi.lt q (hi.inL q (hVU q hq)), .inr hq⟩
  have hpw := hi.pair.sublist hd.sub
  have hnd : V.Nodup := List.Pairwise.imp (fun h => h.1) hpw
  have hempty : Region.ready .any ops.toArray listed = [] → PostR S B E0 k .normal a w := by
    intro h0
    have hV0 : V = [] := by
      cases V with
      | nil => rfl
      | cons v V => exact absurd h0 (last_ready hi hd (by simp) hp.ex)
    subst hV0
    have hrd : readyOf ops L = [] := by
      cases hro : readyOf ops L with
      | nil => rfl
      | cons j r =>
        have hj : j ∈ readyOf ops L := by rw [hro]; simp
        obtain ⟨h1, o, ho, h2⟩ := mem_readyOf.1 hj
        have hlt := (List.getElem?_eq_some_iff.1 ho).1
        have : j ∈ Region.ready .any ops.toArray listed := by
          rw [mem_ready]
          refine ⟨(hd.mem j).2 ((hd.ch j).2 ⟨hlt, .inl h1⟩), o, by simpa using ho, fun e he hb => hd.listed (hi.lt _ (h2 e he hb)) fun ht => ?_⟩
          rcases ((hd.ch _).1 ht).2 with h | h
          · exact h (h2 e he hb)
          · cases h
        rw [h0] at this; cases this
    have hpd : p = .done := hdone (by
      cases hh : headsOf p with
      | nil => rfl
      | cons j r =>
        have := (hheads j).2 (by rw [hh]; simp)
        rw [hrd] at this; cases this)
    subst hpd
    have hk : k .normal t (trimU h) := hrun
    rw [maskT_all (fun d => vis_iff.2 fun q hq => absurd hq (by simp))] at ha
    exact ⟨E, t, trimU h, .normal, hx, trimU_ok hr, ha, rfl, hk⟩
  cases htl : todo.length with
  | zero =>
    have ht0 : todo = [] := List.eq_nil_of_length_eq_zero htl
    have hr0 : Region.ready .any ops.toArray listed = [] := by
      cases hrd : Region.ready .any ops.toArray listed with
      | nil => rfl
      | cons j r =>
        have hj : j ∈ Region.ready .any ops.toArray listed := by rw [hrd]; simp
        have := (hd.mem j).1 (mem_ready.1 hj).1
        rw [ht0] at this; cases this
    exact ⟨hr0, hempty hr0⟩
  | succ m =>
  refine ⟨hempty, fun i hir => ?_⟩
  obtain ⟨hun, o, ho', hdeps⟩ := mem_ready.1 hir
  have ho : ops[i]? = some o := by simpa using ho'
  have hit : i ∈ todo := (hd.mem i).1 hun
  have hlt : i < ops.length := ((hd.ch i).1 hit).1
  have hnw : ∀ q ∈ V, waits o q = false := by
    intro q hq
    cases hw : waits o q with
    | false => rfl
    | true =>
      obtain ⟨e, he, hb, rfl⟩ := waits_iff.1 hw
      exact absurd (hVt _ hq) (hd.notTodo (hdeps e he hb))
  unfold wpOpIn
  simp only [ho']
  by_cases hiV : i ∈ V
  ·
    have hiU := hVU i hiV
    have hlooks : ∀ d, looks ops o d = true → vis ops V d = true := by
      intro d hl
      rw [vis_iff]
      intro q hq oq hoq hdst
      by_cases hqi : q = i
      · subst hqi; rw [ho] at hoq; cases hoq
        rw [(hi.self q hiU o ho).2 d hdst] at hl; cases hl
      · rcases pairwise_two hpw q hq i hiV hqi with h1 | h1
        · rw [((h1.2 oq o hoq ho).2.2 d hdst).1] at hl; cases hl
        · rcases (h1.2 o oq ho hoq).2.1 with h2 | h2
          · rw [hnw q hq] at h2; cases h2
          · rw [(apart_looks h2).1 d hdst] at hl; cases hl
    have hoth : ∀ d, o.dst = some d → ∀ q ∈ V, q ≠ i → ∀ oq, ops[q]? = some oq → oq.dst ≠ some d := by
      intro d hdst q hq hqi oq hoq hqd
      rcases pairwise_two hpw q hq i hiV hqi with h1 | h1
      · exact ((h1.2 oq o hoq ho).2.2 d hqd).2 hdst
      · exact ((h1.2 o oq ho hoq).2.2 d hdst).2 hqd
    obtain ⟨hd', hlen⟩ := hd.step (L' := L) (U' := U) (V' := V.erase i) hit (List.erase_sublist.trans hd.sub) (fun j hj hji => by rw [hnd.mem_erase_iff]; simp [hji]) (hi.inL i hiU) (fun h => (hnd.mem_erase_iff.1 h).1 rfl)
    have hm : m = (todo.erase i).length := by omega
    have hgo : ∀ u, VR E (vOf o t) u → wpAnyIn (fen E0) 0 S.P .any ops.toArray (PostR S B E0 k) m (listed.setIfInBounds i true) (a.put o.dst u) w := by
      intro u hu
      rw [hm]
      refine ih _ (by rw [← hVn, List.length_erase_of_mem hiV]; have := List.length_pos_of_mem hiV; omega) (V.erase i) (todo.erase i) _ E0 E w _ rfl hd' hr ?_ hx
      rw [mask_erase ho hnd hoth]
      exact ha.put (Ext.refl E) rfl hu o.dst
    rcases hp.get hpp i hiU o ho E w a hr (ha.1.mask_mono hlooks) with ⟨hw, hnd2, u, hru, hvu⟩ | ⟨hw, hv⟩
    · rw [if_pos hw]
      refine ⟨fun f _ => fen_fn E0 f, ?_⟩
      rw [Oper.semAt_eq _ _ _ hnd2]
      rcases hru with hru | ⟨hru, rfl⟩
      · rw [hru, Oper.uponIn_value]; exact hgo u hvu
      · rw [hru, Oper.uponIn_skip]; exact hgo undef hvu
    · rw [if_neg (by rw [hw]; simp)]
      exact ⟨fun f _ => fen_fn E0 f, hgo undef hv⟩
  ·
    have hiL : i ∉ L := (((hd.ch i).1 hit).2).resolve_right hiV
    have hrdy : i ∈ readyOf ops L := by
      rw [mem_readyOf]
      refine ⟨hiL, o, ho, fun e he hb => ?_⟩
      have h1 := hdeps e he hb
      have h2 := hd.notTodo h1
      have h3 : e.on < ops.length := by
        rw [← hd.sz]
        rcases Nat.lt_or_ge e.on listed.size with h | h
        · exact h
        · simp [Array.getElem?_eq_none h] at h1
      exact Classical.byContradiction fun h => h2 ((hd.ch _).2 ⟨h3, .inl h⟩)
    obtain ⟨x, hxp, hx1⟩ := heads_perfs ((hheads i).1 hrdy)
    obtain ⟨_, o2, ho2, hsub⟩ := perfs_ok hok x hxp
    have hperf := perfs_run hrun x hxp
    rw [hx1] at ho2 hsub hperf
    rw [ho] at ho2; cases ho2
    have hap : ∀ q ∈ U, waits o q = false → ∀ oq, ops[q]? = some oq → oq.apart ops.toArray o = true := fun q hq hw oq hoq =>
      (hi.free q hq oq hoq i o ho hiL).resolve_left (by rw [hw]; simp)
    have hlooks : ∀ d, looks ops o d = true → vis ops V d = true := by
      intro d hl
      rw [vis_iff]
      intro q hq oq hoq hdst
      rw [(apart_looks (hap q (hVU q hq) (hnw q hq) oq hoq)).1 d hdst] at hl; cases hl
    have hdv : ∀ e, o.dst = some e → vis ops V e = true := fun e he => vis_iff.2 fun q hq oq hoq hdst =>
      (apart_looks (hap q (hVU q hq) (hnw q hq) oq hoq)).2.1 e hdst he
    have hVs : V.Sublist (U.filter fun j => !waits o j) := by
      have := hd.sub.filter (fun j => !waits o j)
      rwa [List.filter_eq_self.2 (fun q hq => by simp [hnw q hq])] at this
    obtain ⟨hd', hlen⟩ := hd.step (L' := i :: L) (U' := U.filter fun j => !waits o j) (V' := V) hit hVs (fun j hj hji => by simp [hji]) (by simp) hiV
    have hm : m = (todo.erase i).length := by omega
    have hgo : ∀ (E' : Env) (h' : Heap) (v : AV) (u : Value) (w' : World), Ext E E' → E'.marks = E.marks → R S E' h' w' → VR E' v u → pendP h' (dropP o pend) → planR S ops k x.2.2 (dropP o pend) (setDst t o.dst v) h' →
        wpAnyIn (fen E0) 0 S.P .any ops.toArray (PostR S B E0 k) m (listed.setIfInBounds i true) (a.put o.dst u) w' := by
      intro E' h' v u w' hx' hm' hr' hv hpe hpl
      rw [hm]
      exact IH x hxp (i :: L) (U.filter fun j => !waits o j) (dropP o pend) (setDst t o.dst v) h' hsub hpl (hi.perform hlt o)
        ((hp.drop o).setDst fun d hdst q hq oq hoq => by
          have hq' := List.mem_filter.1 hq
          have := apart_looks (hap q hq'.1 (by simpa using hq'.2) oq hoq)
          exact ⟨this.2.2 d hdst, fun e => this.2.1 d e hdst⟩)
        hpe B V (todo.erase i) _ E0 E' w' _ hd' hr' (ha.putM hx' hm' hv hdv) (hx.trans hx')
    unfold performR at hperf
    rw [getO_eq, ho] at hperf
    rcases guardK_wanted hperf hlooks ha.1 with ⟨hw, hperf⟩ | ⟨hw, hperf⟩
    · rw [if_pos hw]
      obtain ⟨nid, hop, hun⟩ : ∃ nid, operN S nid o t h (fun e h' => match e with
          | .ret v => pendReq h' (dropP o pend) (setD t o.dst v (fun t' => planR S ops k x.2.2 (dropP o pend) t' h'))
          | .pan v => k (.pan v) (freeT ops 0 t) h') ∧ (h[nid]? = none ∨ h[nid]? = some .unborn) := by
        unfold performN at hperf
        split at hperf
        · exact ⟨_, hperf, .inl (by rw [lenN_eq]; simp)⟩
        · rename_i nid hnid
          split at hperf
          · rename_i nid _ hu
            rw [getO_eq] at hu
            exact ⟨nid, hperf, .inr hu⟩
          · exact hperf.elim
      rw [operN_congr (t' := maskT (vis ops V) 0 t) h (fun y hy => (ev_mask fun d hd => hlooks d (looks_op (by rw [← hd]; exact hy))).symm)] at hop
      have := operN_sound hS hop hr ha hun (wpAnyIn (fen E0) 0 S.P .any ops.toArray (PostR S B E0 k) m (listed.setIfInBounds i true)) (PostR S B E0 k) ?_ ?_
      · rwa [fen_ext hx] at this
      · intro E' h' v u w' hx' hm' hr' hv hk'
        have hk2 : pendP h' (dropP o pend) ∧ setD t o.dst v (fun t' => planR S ops k x.2.2 (dropP o pend) t' h') := by
          simp only at hk'
          unfold pendReq at hk'
          split at hk'
          · rename_i he; rw [he]; exact ⟨trivial, by rw [he] at hk'; exact hk'⟩
          · rename_i p' r' he; rw [he]; exact ⟨hk'.pf, by have := hk'.go; rw [he] at this; exact this⟩
        rw [setD_eq] at hk2
        exact hgo E' h' v u w' hx' hm' hr' hv hk2.1 hk2.2
      · intro E' h' v u w' hx' hm' hr' hv hk'
        refine ⟨E', freeT ops 0 t, h', .pan v, hx.trans hx', hr', ⟨VRL.mono hx'.v _ _ (freeT_run ha.1), by rw [hm']; exact ha.2⟩, ⟨u, rfl, hv⟩, hk'⟩
    · rw [if_neg (by rw [hw]; simp)]
      rw [setD_eq] at hperf
      exact ⟨fun f _ => fen_fn E0 f, hgo E h (.tup []) undef w (Ext.refl E) rfl hr (VR.dead E) (hpp.drop o) hperf⟩
end Go.Abs
namespace Go.Abs
open Go.RowKit
variable {S : Seat}
theorem guardK_abs {ops : List Oper} {o : Oper} {t : List AV} {run skip : Prop} (hg : guardK ops o t run skip) : (run ∧ guardK ops o t True False) ∨ (skip ∧ guardK ops o t False True) := by
  unfold guardK at hg ⊢
  cases hgu : o.guard with
  | none => simp only [hgu] at hg ⊢; exact .inl ⟨hg, trivial⟩
  | some gw =>
    obtain ⟨j, want⟩ := gw
    simp only [hgu] at hg ⊢
    cases hoj : getO ops j with
    | none => simp only [hoj] at hg
    | some oj =>
      simp only [hoj] at hg ⊢
      cases hd : oj.dst with
      | none => simp only [hd] at hg
      | some d =>
        simp only [hd] at hg ⊢
        cases hb : getT t d with
        | bool b =>
          simp only [hb] at hg ⊢
          cases want <;> cases b <;> simp only [Br] at hg ⊢ <;> first | exact .inl ⟨hg, trivial⟩ | exact .inr ⟨hg, trivial⟩
        | tup l =>
          cases l with
          | nil => simp only [hb] at hg ⊢; exact .inr ⟨hg, trivial⟩
          | cons x l => simp only [hb] at hg
        | _ => simp only [hb] at hg
theorem Prom.undef {ops : List Oper} {o : Oper} {v : AV} {t : List AV} {h : Heap} (hp : Prom S ops o v t h) : Prom S ops o .undef t h := fun E w a hr ha => by
  rcases hp E w a hr ha with ⟨h1, h2, u, h3, _⟩ | ⟨h1, _⟩
  · exact .inl ⟨h1, h2, u, h3, by simp only [VR]⟩
  · exact .inr ⟨h1, by simp only [VR]⟩
theorem vOf_self (o : Oper) (t : List AV) (v : AV) : vOf o (setDst t o.dst v) = v ∨ vOf o (setDst t o.dst v) = .undef := by
  unfold vOf setDst
  cases o.dst with
  | none => exact .inr rfl
  | some d =>
    simp only [getT_eq]
    by_cases hlt : d < t.length
    · left; rw [List.getElem?_set_self hlt]; rfl
    · right; rw [List.getElem?_eq_none (by rw [List.length_set]; exact Nat.le_of_not_lt hlt)]; rfl
theorem Prom.vOf {ops : List Oper} {o : Oper} {v : AV} {t : List AV} {h : Heap} (hp : Prom S ops o v t h) (hself : ∀ d, o.dst = some d → looks ops o d = false) : Prom S ops o (vOf o (setDst t o.dst v)) (setDst t o.dst v) h := by
  have h1 : Prom S ops o v (setDst t o.dst v) h := by
    unfold setDst
    split
    · rename_i d hd; exact hp.set (hself d hd)
    · exact hp
  rcases vOf_self o t v with e | e
  · rw [e]; exact h1
  · rw [e]; exact h1.undef
theorem take_snd (hS : SeatOK S) {ops : List Oper} {k : ExK} {i : Nat} {p : Plan} (ih : Snd S ops k p) : Snd S ops k (.take i p) := by
  intro L U pend t h hok hrun hi hp hpp B V todo listed E0 E w a hd hr ha hx
  simp only [planOK] at hok
  split at hok
  case h_2 => cases hok
  rename_i o ho
  simp only [Bool.true_and, Bool.and_eq_true, Bool.not_eq_true', List.contains_eq_mem, decide_eq_false_iff_not] at hok
  obtain ⟨⟨⟨⟨⟨c1, c2⟩, c3⟩, c4⟩, c5⟩, hok⟩ := hok
  have hlt : i < ops.length := (List.getElem?_eq_some_iff.1 ho).1
  have d2 : ∀ j, waits o j = true → j ∈ L := by
    intro j hj
    obtain ⟨e, he, hb, rfl⟩ := waits_iff.1 hj
    simp only [List.all_eq_true, Array.mem_toList_iff, Bool.or_eq_true, Bool.not_eq_true', decide_eq_true_eq] at c2
    rcases c2 e he with h | h
    · unfold binds at hb; rw [hb] at h; cases h
    · exact h
  have d5 : ∀ d, o.dst = some d → looks ops o d = false := by
    intro d hd
    rw [hd] at c5
    simp only [Bool.not_eq_true', decide_eq_false_iff_not] at c5
    unfold looks; simpa using c5
  have d4 : ∀ q ∈ U, ∀ oq, ops[q]? = some oq → (waits o q = true ∨ oq.apart ops.toArray o = true) ∧ ∀ d, o.dst = some d → looks ops oq d = false ∧ oq.dst ≠ some d := by
    intro q hq oq hoq
    have := List.all_eq_true.1 c4 q hq
    rw [hoq] at this
    simp only [Bool.and_eq_true, Bool.or_eq_true] at this
    refine ⟨this.1, fun d hd => ?_⟩
    have h2 := this.2
    rw [hd] at h2
    simp only [Bool.and_eq_true, Bool.not_eq_true', decide_eq_false_iff_not, bne_iff_ne, ne_eq] at h2
    exact ⟨by unfold looks; simpa using h2.1, h2.2⟩
  have d3 : ∀ (j : Nat) oj, ops[j]? = some oj → j ∉ i :: L → waits oj i = true ∨ o.apart ops.toArray oj = true := by
    intro j oj hoj hj
    have := List.all_eq_true.1 c3 j (by
      unfold restOf
      rw [List.mem_filter, List.mem_range]
      exact ⟨(List.getElem?_eq_some_iff.1 hoj).1, by simpa using hj⟩)
    rw [hoj] at this
    simpa using this
  have hi' : InvS S ops (i :: L) (i :: U) := {
    lt := fun j hj => by rcases List.mem_cons.1 hj with rfl | hj; exact hlt; exact hi.lt j hj
    inL := fun q hq => by rcases List.mem_cons.1 hq with rfl | hq; simp; exact List.mem_cons_of_mem _ (hi.inL q hq)
    free := fun q hq oq hoq j oj hoj hj => by
      rcases List.mem_cons.1 hq with rfl | hq
      · rw [ho] at hoq; cases hoq; exact d3 j oj hoj hj
      · exact hi.free q hq oq hoq j oj hoj (fun h => hj (List.mem_cons_of_mem _ h))
    deps := fun q hq oq hoq j hj => by
      rcases List.mem_cons.1 hq with rfl | hq
      · rw [ho] at hoq; cases hoq; exact List.mem_cons_of_mem _ (d2 j hj)
      · exact List.mem_cons_of_mem _ (hi.deps q hq oq hoq j hj)
    pair := List.pairwise_cons.2 ⟨fun q hq => ⟨fun e => c1 (e ▸ hi.inL q hq), fun op oq hop hoq => by
      rw [ho] at hop; cases hop
      refine ⟨?_, d4 q hq oq hoq⟩
      cases hw : waits oq i with
      | false => rfl
      | true => exact absurd (hi.deps q hq oq hoq i hw) c1⟩, hi.pair⟩
    self := fun q hq oq hoq => by
      rcases List.mem_cons.1 hq with rfl | hq
      · rw [ho] at hoq; cases hoq
        refine ⟨?_, d5⟩
        cases hw : waits o q with
        | false => rfl
        | true => exact absurd (d2 q hw) c1
      · exact hi.self q hq oq hoq }
  have hd' : Dyn ops (i :: L) (i :: U) (i :: V) todo listed := ⟨hd.sub.cons_cons i, hd.nd, hd.sz, hd.mem, fun j => by
    rw [hd.ch]
    constructor
    · rintro ⟨h1, h2⟩
      refine ⟨h1, ?_⟩
      by_cases hj : j = i
      · subst hj; exact .inr (by simp)
      · rcases h2 with h2 | h2
        · exact .inl (by simp [hj, h2])
        · exact .inr (by simp [h2])
    · rintro ⟨h1, h2⟩
      refine ⟨h1, ?_⟩
      by_cases hj : j = i
      · subst hj; exact .inl c1
      · rcases h2 with h2 | h2
        · exact .inl (fun h => h2 (List.mem_cons_of_mem _ h))
        · exact .inr (by simpa [hj] using h2)⟩
  have hgo : ∀ (v : AV) (sn : List (Nat × Chunk)), snapP h sn → (∀ h', snapP h' sn → Prom S ops o v t h') → planR S ops k p (⟨i, sn⟩ :: pend) (setDst t o.dst v) h →
      wpAnyIn (fen E0) 0 S.P .any ops.toArray (PostR S B E0 k) todo.length listed a w := by
    intro v sn hsn hpr hpl
    refine ih (i :: L) (i :: U) (⟨i, sn⟩ :: pend) (setDst t o.dst v) h hok hpl hi' ⟨U, o, rfl, ho, fun h' hs => (hpr h' hs).vOf d5, hp.setDst fun d hdst q hq oq hoq => (d4 q hq oq hoq).2 d hdst⟩ ⟨hsn, hpp⟩ B (i :: V) todo listed E0 E w a hd' hr ⟨?_, ha.2⟩ hx
    have hvis : ∀ j, vis ops (i :: V) j = true → vis ops V j = true := fun j hj => vis_iff.2 fun q hq => vis_iff.1 hj q (List.mem_cons_of_mem _ hq)
    have : maskT (vis ops (i :: V)) 0 (setDst t o.dst v) = maskT (vis ops (i :: V)) 0 t := by
      unfold setDst
      split
      · rename_i d hdst
        refine maskT_set_out ?_ t v
        cases hb : vis ops (i :: V) d with
        | false => rfl
        | true => exact absurd hdst (vis_iff.1 hb i (by simp) o ho)
      · rfl
    rw [this]
    exact ha.1.mask_mono hvis
  have hrun : takeR S ops i (planR S ops k p) pend t h := hrun
  unfold takeR at hrun
  rw [getO_eq, ho] at hrun
  rcases guardK_abs hrun with ⟨hread, hg⟩ | ⟨hskip, hg⟩
  · rw [readK_congr (t' := maskT (looks ops o) 0 t) h (fun x hx => (ev_mask fun d hd => looks_op (by rw [← hd]; exact hx)).symm)] at hread
    obtain ⟨v, rds, hk, hok2, hnd⟩ := readK_sound hS hread
    obtain ⟨sn, hk, hsn, hsn2⟩ := snapK_run rds _ hk
    rw [setD_eq] at hk
    refine hgo v sn hsn (fun h' hs E1 w1 a1 hr1 ha1 => ?_) hk
    rcases guardK_wanted hg (fun _ h => h) ha1 with ⟨hw, _⟩ | ⟨_, hf⟩
    · exact .inl ⟨hw, hnd, hok2 h' E1 w1 a1 (hsn2 h' hs) hr1 ha1⟩
    · exact hf.elim
  · rw [setD_eq] at hskip
    refine hgo (.tup []) [] trivial (fun h' hs E1 w1 a1 hr1 ha1 => ?_) hskip
    rcases guardK_wanted hg (fun _ h => h) ha1 with ⟨_, hf⟩ | ⟨hw, _⟩
    · exact hf.elim
    · exact .inr ⟨hw, VR.dead E1⟩
theorem plan_snd (hS : SeatOK S) {ops : List Oper} {k : ExK} : ∀ (p : Plan), Snd S ops k p ∧ ∀ x ∈ perfs p, Snd S ops k x.2.2
  | .done => ⟨node_snd hS (fun _ _ e => nomatch e) (fun x hx => by cases hx), fun x hx => by cases hx⟩
  | .take i p => ⟨take_snd hS (plan_snd hS p).1, fun x hx => by cases hx⟩
  | .perform i n p => by
    have hp := (plan_snd hS (k := k) (ops := ops) p).1
    have h : ∀ x ∈ perfs (.perform i n p), Snd S ops k x.2.2 := fun x hx => by
      simp only [perfs, List.mem_singleton] at hx; subst hx; exact hp
    exact ⟨node_snd hS (fun _ _ e => nomatch e) h, h⟩
  | .both p q => by
    have hp := (plan_snd hS (k := k) (ops := ops) p).2
    have hq := (plan_snd hS (k := k) (ops := ops) q).2
    have h : ∀ x ∈ perfs (.both p q), Snd S ops k x.2.2 := fun x hx => (List.mem_append.1 hx).elim (hp x) (hq x)
    exact ⟨node_snd hS (fun _ _ e => nomatch e) h, h⟩
theorem R.more {E : Env} {w : World} {h h' : Heap} (hr : R S E h w) (h1 : ∀ (i : Nat) c, h'[i]? = some c → h[i]? = some c ∨ (h[i]? = none ∧ c = .unborn)) (h2 : ∀ i : Nat, h'[i]? = none → h[i]? = none) : R S E h' w := by
  refine ⟨⟨fun i c hc => ?_, hr.r0.glob, fun i hi => hr.r0.non i (h2 i hi), fun i c b hc ho => ?_, fun i j c d b hc hd ho1 ho2 => ?_, hr.r0.imm, fun l hl => ⟨(hr.r0.rnd l hl).1, fun i c hc ho => ?_⟩, fun D hD => ⟨(hr.r0.mks D hD).1, (hr.r0.mks D hD).2.1, fun i c hc ho => ?_⟩⟩,
    ⟨hr.kp.same, fun i c b hc ho => ?_, hr.kp.size, hr.kp.klt, hr.kp.s3⟩⟩
  · rcases h1 i c hc with h | ⟨h, rfl⟩
    · exact hr.r0.ch i c h
    · exact hr.r0.non i h
  · rcases h1 i c hc with h | ⟨h, rfl⟩
    · exact hr.r0.lt i c b h ho
    · exact ho.elim
  · rcases h1 i c hc with h | ⟨h, rfl⟩
    · rcases h1 j d hd with h' | ⟨h', rfl⟩
      · exact hr.r0.disj i j c d b h h' ho1 ho2
      · exact ho2.elim
    · exact ho1.elim
  · rcases h1 i c hc with h | ⟨h, rfl⟩
    · exact (hr.r0.rnd l hl).2 i c h ho
    · exact ho
  · rcases h1 i c hc with h | ⟨h, rfl⟩
    · exact (hr.r0.mks D hD).2.2 i c h ho
    · exact ho
  · rcases h1 i c hc with h | ⟨h, rfl⟩
    · exact hr.kp.keep i c b h ho
    · exact ho.elim
theorem unborns_eq : ∀ n, unborns n = List.replicate n .unborn
  | 0 => rfl
  | n + 1 => by
    show Chunk.unborn :: unborns n = _
    rw [unborns_eq n, List.replicate_succ]
theorem R.unborns {E : Env} {w : World} {h : Heap} (hr : R S E h w) (m : Nat) : R S E (appL h (unborns m)) w := by
  rw [appL_eq, unborns_eq]
  refine hr.more (fun i c hc => ?_) (fun i hi => ?_)
  · rw [List.getElem?_append] at hc
    split at hc
    · exact .inl hc
    · rename_i hge
      rw [List.getElem?_replicate] at hc
      split at hc
      · cases hc; exact .inr ⟨List.getElem?_eq_none (by omega), rfl⟩
      · cases hc
  · rw [List.getElem?_append] at hi
    split at hi
    · rename_i hlt; rw [List.getElem?_eq_getElem hlt] at hi; cases hi
    · rename_i hge; exact List.getElem?_eq_none (by omega)
theorem DrawH.plan (hS : SeatOK S) (p : Plan) (m : Nat) {id : Nat} {ops : List Oper} {t : List AV} {h : Heap} {k : ExK} (hok : planOK ops p true [] [] = true) (hr : planR S ops k p [] t (appL h (unborns m))) : DrawH S id ops t h k := by
  refine ⟨⟨fun B E w a hR ha => wpIn_region_any hS.mixed ?_⟩⟩
  have := (plan_snd hS p).1 [] [] [] t (appL h (unborns m)) hok hr ⟨fun _ h => (nomatch h), fun _ h => (nomatch h), fun _ h => (nomatch h), fun _ h => (nomatch h), List.Pairwise.nil, fun _ h => (nomatch h)⟩ rfl trivial B
    [] (List.range ops.length) (Array.replicate ops.length false) E E w.drew a ⟨List.Sublist.refl _, List.nodup_range, by simp, fun j => ?_, fun j => ?_⟩ (hR.drew.unborns m) ?_ (Ext.refl E)
  · rw [List.length_range] at this
    exact this
  · rw [List.mem_range]
    by_cases hj : j < ops.length <;> simp [hj]
  · rw [List.mem_range]; simp
  · rw [maskT_all (fun d => vis_iff.2 fun q hq => absurd hq (by simp))]; exact ha
end Go.Abs
namespace Go.Abs
open Go.RowKit
variable {S : Seat}
mutual
def Ids (p : Nat → Prop) : AV → Prop
  | .ptr i _ => p i
  | .row i _ _ _ => p i
  | .cb i => p i
  | .mapp i => p i
  | .vec cs _ g => (∀ i, g = some i → p i) ∧ IdsL p cs
  | .iptr cs => IdsL p cs
  | .fn _ a b => IdsL p a ∧ IdsL p b
  | .ifc _ v => Ids p v
  | .agg cs => IdsL p cs
  | .tup cs => IdsL p cs
  | .undef => True
  | .bool _ => True
  | .int _ _ => True
  | .str _ => True
  | .nilp => True
  | .nils => True
  | .nilf => True
  | .nili => True
  | .nilm => True
def IdsL (p : Nat → Prop) : List AV → Prop
  | [] => True
  | c :: cs => Ids p c ∧ IdsL p cs
end
theorem IdsL_iff {p : Nat → Prop} : ∀ {cs : List AV}, IdsL p cs ↔ ∀ c ∈ cs, Ids p c
  | [] => by simp [IdsL]
  | c :: cs => by simp [IdsL, IdsL_iff (cs := cs)]
theorem IdsL.append {p : Nat → Prop} {a b : List AV} (h : IdsL p a) (k : IdsL p b) : IdsL p (a ++ b) :=
  IdsL_iff.2 fun c hc => (List.mem_append.1 hc).elim (IdsL_iff.1 h c) (IdsL_iff.1 k c)
mutual
theorem Closed.ids {p : Nat → Prop} : ∀ (a : AV), Closed a → Ids p a
  | .undef, _ => by simp only [Ids]
  | .bool _, _ => by simp only [Ids]
  | .int _ _, _ => by simp only [Ids]
  | .str _, _ => by simp only [Ids]
  | .nilp, _ => by simp only [Ids]
  | .ptr i o, h => by simp only [Closed] at h
  | .iptr cs, h => by simp only [Closed] at h; simp only [Ids]; exact ClosedL.ids cs h
  | .nils, _ => by simp only [Ids]
  | .vec cs len g, h => by
    simp only [Closed] at h; simp only [Ids]
    exact ⟨fun i hi => (by rw [h.1] at hi; cases hi), ClosedL.ids cs h.2⟩
  | .row i o len cap, h => by simp only [Closed] at h
  | .nilf, _ => by simp only [Ids]
  | .fn f a b, h => by simp only [Closed] at h; simp only [Ids]; exact ⟨ClosedL.ids a h.1, ClosedL.ids b h.2⟩
  | .cb i, h => by simp only [Closed] at h
  | .nili, _ => by simp only [Ids]
  | .ifc t v, h => by simp only [Closed] at h; simp only [Ids]; exact Closed.ids v h
  | .agg cs, h => by simp only [Closed] at h; simp only [Ids]; exact ClosedL.ids cs h
  | .tup cs, h => by simp only [Closed] at h; simp only [Ids]; exact ClosedL.ids cs h
  | .mapp i, h => by simp only [Closed] at h
  | .nilm, _ => by simp only [Ids]
theorem ClosedL.ids {p : Nat → Prop} : ∀ (cs : List AV), ClosedL cs → IdsL p cs
  | [], _ => by simp only [IdsL]
  | c :: cs, h => by simp only [ClosedL] at h; simp only [IdsL]; exact ⟨Closed.ids c h.1, ClosedL.ids cs h.2⟩
end
structure SameOn (p : Nat → Prop) (E E' : Env) : Prop where
  blk : ∀ i, p i → E'.blk i = E.blk i
  tok : ∀ i, p i → E'.tok i = E.tok i
  cbv : ∀ i, p i → E'.cbv i = E.cbv i
  imm : ImmLe E E'
mutual
theorem Ids.VR {p : Nat → Prop} {E E' : Env} (h : SameOn p E E') : ∀ (a : AV) (v : Value), Ids p a → Abs.VR E a v → Abs.VR E' a v
  | .undef, _, hc, hv => by simp only [Abs.VR]
  | .bool b, v, hc, hv => by simpa only [Abs.VR] using hv
  | .int k n, v, hc, hv => by simpa only [Abs.VR] using hv
  | .str s, v, hc, hv => by simpa only [Abs.VR] using hv
  | .nilp, v, hc, hv => by simpa only [Abs.VR] using hv
  | .ptr i o, v, hc, hv => by
    simp only [Ids] at hc; simp only [Abs.VR] at hv ⊢
    rw [h.blk i hc]; exact hv
  | .iptr cs, v, hc, hv => by
    simp only [Ids] at hc
    simp only [Abs.VR] at hv ⊢
    obtain ⟨b, o, e, hi⟩ := hv
    exact ⟨b, o, e, Ids.VRI h cs b o hc hi⟩
  | .nils, v, hc, hv => by simpa only [Abs.VR] using hv
  | .vec cs len g, v, hc, hv => by
    simp only [Ids] at hc
    simp only [Abs.VR] at hv ⊢
    obtain ⟨a, cap, e, hcp, hi, ht⟩ := hv
    refine ⟨a, cap, e, hcp, ?_, fun i hi => ?_⟩
    · rcases hi with hi | ⟨b, o, ha, hi⟩
      · exact .inl hi
      · exact .inr ⟨b, o, ha, Ids.VRI h cs b o hc.2 hi⟩
    · rw [h.tok i (hc.1 i hi)]; exact ht i hi
  | .row i o len cap, v, hc, hv => by
    simp only [Ids] at hc; simp only [Abs.VR] at hv ⊢
    rw [h.blk i hc]; exact hv
  | .nilf, v, hc, hv => by simpa only [Abs.VR] using hv
  | .fn f first caps, v, hc, hv => by
    simp only [Ids] at hc
    simp only [Abs.VR] at hv ⊢
    obtain ⟨us, ws, e, h1, h2⟩ := hv
    exact ⟨us, ws, e, Ids.VRL h first us hc.1 h1, Ids.VRL h caps ws hc.2 h2⟩
  | .cb i, v, hc, hv => by
    simp only [Ids] at hc; simp only [Abs.VR] at hv ⊢
    rw [h.cbv i hc]; exact hv
  | .nili, v, hc, hv => by simpa only [Abs.VR] using hv
  | .ifc t x, v, hc, hv => by
    simp only [Ids] at hc
    simp only [Abs.VR] at hv ⊢
    obtain ⟨u, e, hu⟩ := hv
    exact ⟨u, e, Ids.VR h x u hc hu⟩
  | .agg cs, v, hc, hv => by
    simp only [Ids] at hc
    simp only [Abs.VR] at hv ⊢
    obtain ⟨us, e, hu⟩ := hv
    exact ⟨us, e, Ids.VRL h cs us hc hu⟩
  | .tup cs, v, hc, hv => by
    simp only [Ids] at hc
    simp only [Abs.VR] at hv ⊢
    obtain ⟨us, e, hu⟩ := hv
    exact ⟨us, e, Ids.VRL h cs us hc hu⟩
  | .mapp i, v, hc, hv => by
    simp only [Ids] at hc; simp only [Abs.VR] at hv ⊢
    rw [h.blk i hc]; exact hv
  | .nilm, v, hc, hv => by simpa only [Abs.VR] using hv
theorem Ids.VRI {p : Nat → Prop} {E E' : Env} (h : SameOn p E E') : ∀ (cs : List AV) (b o : Nat), IdsL p cs → Abs.VRI E cs b o → Abs.VRI E' cs b o
  | [], b, o, _, _ => by simp only [Abs.VRI]
  | c :: cs, b, o, hc, hv => by
    simp only [IdsL] at hc
    simp only [Abs.VRI] at hv ⊢
    obtain ⟨⟨u, e, hu⟩, hr⟩ := hv
    exact ⟨⟨u, h.imm b o u e, Ids.VR h c u hc.1 hu⟩, Ids.VRI h cs b (o + 1) hc.2 hr⟩
theorem Ids.VRL {p : Nat → Prop} {E E' : Env} (h : SameOn p E E') : ∀ (cs : List AV) (us : List Value), IdsL p cs → Abs.VRL E cs us → Abs.VRL E' cs us
  | [], us, _, hv => by simpa only [Abs.VRL] using hv
  | c :: cs, us, hc, hv => by
    simp only [IdsL] at hc
    simp only [Abs.VRL] at hv ⊢
    obtain ⟨u, us', e, hu, hr⟩ := hv
    exact ⟨u, us', e, Ids.VR h c u hc.1 hu, Ids.VRL h cs us' hc.2 hr⟩
end
def Env.forget (E : Env) (n : Nat) : Env := { E with blk := fun i => if i < n then E.blk i else none, tok := fun i => if i < n then E.tok i else none, cbv := fun i => if i < n then E.cbv i else none }
theorem SameOn.forget (E : Env) (n : Nat) : SameOn (· < n) E (E.forget n) := ⟨fun i hi => if_pos hi, fun i hi => if_pos hi, fun i hi => if_pos hi, fun _ _ _ h => h⟩
def IdsC (p : Nat → Prop) : Chunk → Prop
  | .var cs _ => IdsL p cs
  | .ro cs => IdsL p cs
  | .tok _ _ _ => True
  | .cb _ _ _ => True
  | .dead => True
  | .unborn => True
def IdsH (p : Nat → Prop) : Heap → Prop
  | [] => True
  | c :: h => IdsC p c ∧ IdsH p h
theorem IdsH.get {p : Nat → Prop} : ∀ {h : Heap}, IdsH p h → ∀ (i : Nat) c, h[i]? = some c → IdsC p c
  | [], _, i, c, hc => by simp at hc
  | d :: h, hh, i, c, hc => by
    cases i with
    | zero => simp at hc; subst hc; exact hh.1
    | succ i => simp at hc; exact IdsH.get hh.2 i c hc
def takeH : Nat → Heap → Heap
  | 0, _ => []
  | _ + 1, [] => []
  | n + 1, c :: h => c :: takeH n h
theorem takeH_eq : ∀ (n : Nat) (h : Heap), takeH n h = h.take n
  | 0, h => by simp [takeH]
  | n + 1, [] => rfl
  | n + 1, c :: h => by simp [takeH, takeH_eq n h]
theorem R.forget (hG : GOK S) {E : Env} {h : Heap} {w : World} (hr : R S E h w) (n : Nat) (hb : IdsH (· < n) (takeH n h)) : R S (E.forget n) (takeH n h) w := by
  have hs := SameOn.forget E n
  have hget : ∀ (i : Nat) c, (takeH n h)[i]? = some c → i < n ∧ h[i]? = some c := by
    intro i c hc
    rw [takeH_eq, List.getElem?_take] at hc
    split at hc
    · exact ⟨by assumption, hc⟩
    · cases hc
  have oc : ∀ (i : Nat) c b, i < n → (ownsC (E.forget n) i c b ↔ ownsC E i c b) := fun i c b hi => ownsC_congr (hs.blk i hi) (hs.tok i hi) rfl c b
  refine ⟨⟨fun i c hc => ?_, fun g cs hg => ?_, fun i hi => ?_, fun i c b hc ho => ?_, fun i j c d b hc hd h1 h2 => ?_, hr.r0.imm, fun l hl => ⟨(hr.r0.rnd l hl).1, fun i c hc ho => ?_⟩, fun D hD => ⟨(hr.r0.mks D hD).1, (hr.r0.mks D hD).2.1, fun i c hc ho => ?_⟩⟩,
    ⟨hr.kp.same, fun i c b hc ho => ?_, hr.kp.size, hr.kp.klt, hr.kp.s3⟩⟩
  · obtain ⟨hi, hc'⟩ := hget i c hc
    have hcr := hr.r0.ch i c hc'
    have hid := hb.get i c hc
    cases c with
    | var cs t =>
      obtain ⟨b, us, h1, h2, h3, h4, h5⟩ := hcr
      exact ⟨b, us, by rw [hs.blk i hi]; exact h1, h2, Ids.VRL hs cs us hid h3, h4, by rw [hs.tok i hi]; exact h5⟩
    | ro cs =>
      obtain ⟨b, h1, h2⟩ := hcr
      exact ⟨b, by rw [hs.blk i hi]; exact h1, Ids.VRI hs cs b 0 hid h2⟩
    | tok F t sz =>
      obtain ⟨v, xs, h1, h2, h3⟩ := hcr
      exact ⟨v, xs, by rw [hs.tok i hi]; exact h1, h2, h3⟩
    | cb seen st =>
      obtain ⟨fv, h1, h2, h3⟩ := hcr
      exact ⟨fv, by rw [hs.cbv i hi]; exact h1, h2, h3⟩
    | dead => exact trivial
    | unborn => exact ⟨by rw [hs.blk i hi]; exact hcr.1, by rw [hs.tok i hi]; exact hcr.2.1, by rw [hs.cbv i hi]; exact hcr.2.2⟩
  · exact Ids.VRI hs cs g 0 (ClosedL.ids cs (hG.glob g cs hg)) (hr.r0.glob g cs hg)
  · rw [takeH_eq, List.getElem?_take] at hi
    split at hi
    · rename_i hlt
      obtain ⟨a, b, c⟩ := hr.r0.non i hi
      exact ⟨by rw [hs.blk i hlt]; exact a, by rw [hs.tok i hlt]; exact b, by rw [hs.cbv i hlt]; exact c⟩
    · rename_i hge
      exact ⟨if_neg hge, if_neg hge, if_neg hge⟩
  · obtain ⟨hi, hc'⟩ := hget i c hc
    exact hr.r0.lt i c b hc' ((oc i c b hi).1 ho)
  · obtain ⟨hi, hc'⟩ := hget i c hc
    obtain ⟨hj, hd'⟩ := hget j d hd
    exact hr.r0.disj i j c d b hc' hd' ((oc i c b hi).1 h1) ((oc j d b hj).1 h2)
  · obtain ⟨hi, hc'⟩ := hget i c hc
    exact (hr.r0.rnd l hl).2 i c hc' ((oc i c l hi).1 ho)
  · obtain ⟨hi, hc'⟩ := hget i c hc
    exact (hr.r0.mks D hD).2.2 i c hc' ((oc i c D hi).1 ho)
  · obtain ⟨hi, hc'⟩ := hget i c hc
    exact hr.kp.keep i c b hc' ((oc i c b hi).1 ho)
theorem Ext.forget {E E' : Env} (hx : Ext E E') {n : Nat} (hn : ∀ i, n ≤ i → E.blk i = none ∧ E.tok i = none ∧ E.cbv i = none) : Ext E (E'.forget n) where
  blk i b h := by
    have hi : i < n := Nat.lt_of_not_le fun hge => by rw [(hn i hge).1] at h; cases h
    exact (if_pos hi).trans (hx.blk i b h)
  tok i F v h := by
    have hi : i < n := Nat.lt_of_not_le fun hge => by rw [(hn i hge).2.1] at h; cases h
    obtain ⟨F', v', h1, h2⟩ := hx.tok i F v h
    exact ⟨F', v', (if_pos hi).trans h1, h2⟩
  cbv i v h := by
    have hi : i < n := Nat.lt_of_not_le fun hge => by rw [(hn i hge).2.2] at h; cases h
    exact ⟨(if_pos hi).trans (hx.cbv i v h).1, (hx.cbv i v h).2⟩
  imm := hx.imm
  new := hx.new
  keep := hx.keep
  base := hx.base
  rnd := hx.rnd
theorem Sat.invN (hS : SeatOK S) (hG : GOK S) {b : Code} {t : List AV} {h : Heap} {k : ExK} {ι : Type} (m : List Bool) (n : Nat) (T : ι → List AV) (H : ι → Heap) (C : ι → Prop) (μ : ι → Nat) (i0 : ι) (h0 : C i0) (ht : WeakL (keepT m t) (T i0)) (hh : h = H i0) (hn : ∀ i, C i → (H i).length = n)
    (round : ∀ i, C i → codeR S b (T i) (H i) (fun x t' h' => match x with
      | .normal => ∃ i', C i' ∧ μ i' < μ i ∧ WeakL (keepT m t') (T i') ∧ IdsL (· < n) (T i') ∧ takeH n h' = H i' ∧ IdsH (· < n) (H i')
      | .exit j => k (.exit j) t' h'
      | .goto j => k (.goto j) t' h'
      | .ret => k .ret t' h'
      | .pan v => k (.pan v) t' h')) : Sat S (.loop b) t h k := by
  refine Sat.weak (keepT_weak m t) (Sat.weak ht ?_)
  refine Sat.loop (ι := ι) (fun i t h => C i ∧ t = T i ∧ h = H i) μ i0 ⟨h0, rfl, hh⟩ fun i t h hi => ?_
  obtain ⟨hc, rfl, rfl⟩ := hi
  have := (codeR_sound hS b _ _ _ (round i hc))
  refine ⟨fun B E w a hr ha => wpIn_mono (this.out B E w a hr ha) ?_⟩
  rintro e a' w' ⟨E', t', h', z, h1, h2, h3, h4, h5⟩
  cases z with
  | normal =>
    obtain ⟨i', g1, g2, g3, g4, g5, g6⟩ := h5
    have hbase : ∀ j, n ≤ j → E.blk j = none ∧ E.tok j = none ∧ E.cbv j = none := fun j hj => hr.r0.non j (List.getElem?_eq_none (by rw [hn i hc]; exact hj))
    refine ⟨E'.forget n, T i', takeH n h', .normal, h1.forget hbase, h2.forget hG n (by rw [g5]; exact g6), ⟨?_, h3.2⟩, h4, i', g2, g1, rfl, g5⟩
    exact Ids.VRL (SameOn.forget E' n) _ _ g4 (WeakL.run g3 (WeakL.run (keepT_weak m t') h3.1))
  | exit _ => exact ⟨E', t', h', _, h1, h2, h3, h4, h5⟩
  | goto _ => exact ⟨E', t', h', _, h1, h2, h3, h4, h5⟩
  | ret => exact ⟨E', t', h', _, h1, h2, h3, h4, h5⟩
  | pan _ => exact ⟨E', t', h', _, h1, h2, h3, h4, h5⟩
theorem Sat.invP (hS : SeatOK S) (hG : GOK S) {b : Code} {t : List AV} {h : Heap} {k : ExK} (m : List Bool) (n : Nat) (I : Nat → List AV → Heap → Prop) (hn : ∀ μ t h, I μ t h → h.length = n ∧ IdsL (· < n) t ∧ IdsH (· < n) h) (h0 : ∃ μ t', WeakL (keepT m t) t' ∧ I μ t' h)
    (round : ∀ μ t h, I μ t h → codeR S b t h (fun x t' h' => match x with
      | .normal => ∃ μ' t2, μ' < μ ∧ WeakL (keepT m t') t2 ∧ I μ' t2 (takeH n h')
      | .exit j => k (.exit j) t' h'
      | .goto j => k (.goto j) t' h'
      | .ret => k .ret t' h'
      | .pan v => k (.pan v) t' h')) : Sat S (.loop b) t h k := by
  obtain ⟨μ0, t0, hw, hI⟩ := h0
  refine Sat.weak (keepT_weak m t) (Sat.weak hw ?_)
  refine Sat.loop (ι := Nat) I id μ0 hI fun μ t h hi => ?_
  have := (codeR_sound hS b _ _ _ (round μ t h hi))
  refine ⟨fun B E w a hr ha => wpIn_mono (this.out B E w a hr ha) ?_⟩
  rintro e a' w' ⟨E', t', h', z, h1, h2, h3, h4, h5⟩
  cases z with
  | normal =>
    obtain ⟨μ', t2, g1, g2, g3⟩ := h5
    obtain ⟨q1, q2, q3⟩ := hn _ _ _ g3
    have hbase : ∀ j, n ≤ j → E.blk j = none ∧ E.tok j = none ∧ E.cbv j = none := fun j hj => hr.r0.non j (List.getElem?_eq_none (by rw [(hn _ _ _ hi).1]; exact hj))
    refine ⟨E'.forget n, t2, takeH n h', .normal, h1.forget hbase, h2.forget hG n q3, ⟨?_, h3.2⟩, h4, μ', g1, g3⟩
    exact Ids.VRL (SameOn.forget E' n) _ _ q2 (WeakL.run g2 (WeakL.run (keepT_weak m t') h3.1))
  | exit _ => exact ⟨E', t', h', _, h1, h2, h3, h4, h5⟩
  | goto _ => exact ⟨E', t', h', _, h1, h2, h3, h4, h5⟩
  | ret => exact ⟨E', t', h', _, h1, h2, h3, h4, h5⟩
  | pan _ => exact ⟨E', t', h', _, h1, h2, h3, h4, h5⟩
theorem Sat.cut {c : Code} {t : List AV} {h : Heap} {k : ExK} (P : ExK) (h1 : Sat S c t h (fun x t h => ∃ t2, WeakL t t2 ∧ P x t2 h)) (h2 : ∀ x t h, P x t h → k x t h) : Sat S c t h k := by
  refine ⟨fun B E w a hr ha => wpIn_mono (h1.out B E w a hr ha) ?_⟩
  rintro e a' w' ⟨E', t', h', z, g1, g2, g3, g4, t2, g5, g6⟩
  exact ⟨E', t2, h', z, g1, g2, ⟨WeakL.run g5 g3.1, g3.2⟩, g4, h2 _ _ _ g6⟩
theorem Weak.nils : Weak .nils (.vec [] 0 none) := fun _ _ h => by
  simp only [VR] at h ⊢
  exact ⟨none, 0, h, Nat.le_refl _, by simp, fun i hi => nomatch hi⟩
theorem WeakL.nil : WeakL [] [] := trivial
theorem WeakL.cons {v v' : AV} {l l' : List AV} (h : Weak v v') (hs : WeakL l l') : WeakL (v :: l) (v' :: l') := ⟨h, hs⟩
theorem WeakL.refl : ∀ (l : List AV), WeakL l l
  | [] => trivial
  | v :: l => ⟨Weak.refl v, WeakL.refl l⟩
theorem WeakL.of_eq {l l' : List AV} (h : l = l') : WeakL l l' := h ▸ WeakL.refl l
theorem Weak.agg {cs cs' : List AV} (h : WeakL cs cs') : Weak (.agg cs) (.agg cs') := fun _ _ hv => by
  simp only [VR] at hv ⊢
  obtain ⟨us, e, hu⟩ := hv
  exact ⟨us, e, WeakL.run h hu⟩
theorem Weak.tup {cs cs' : List AV} (h : WeakL cs cs') : Weak (.tup cs) (.tup cs') := fun _ _ hv => by
  simp only [VR] at hv ⊢
  obtain ⟨us, e, hu⟩ := hv
  exact ⟨us, e, WeakL.run h hu⟩
theorem Weak.trans {a b c : AV} (h : Weak a b) (k : Weak b c) : Weak a c := fun E u hv => k E u (h E u hv)
theorem CallH.weakA {f : Nat} {args args' : List AV} {h : Heap} {k : AEnd → Heap → Prop} (hw : WeakL args args') (hc : CallH S f args' h k) : CallH S f args h k :=
  ⟨fun E w us hm hn hr ha => hc.out E w us hm hn hr (WeakL.run hw ha)⟩
theorem ACalls.weakR {f : Nat} {args : List AV} {h : Heap} {Q : AEnd → Heap → Prop} (hc : ACalls S f args h (fun r h' => (∃ v v', r = .ret v ∧ Weak v v' ∧ Q (.ret v') h') ∨ (∃ v, r = .pan v ∧ Q r h'))) : ACalls S f args h Q :=
  fun E w us hm hn hr ha => (hc E w us hm hn hr ha).mono fun e w' ⟨E', h', r, h1, h2, h3, h4, h5⟩ => by
    rcases h5 with ⟨v, v', rfl, hw, hq⟩ | ⟨v, rfl, hq⟩
    · obtain ⟨u, rfl, hu⟩ := h4
      exact ⟨E', h', .ret v', h1, h2, h3, ⟨u, rfl, hw _ _ hu⟩, hq⟩
    · exact ⟨E', h', .pan v, h1, h2, h3, h4, hq⟩
theorem CallH.weakR {f : Nat} {args : List AV} {h : Heap} {k : AEnd → Heap → Prop} (hc : CallH S f args h (fun r h' => (∃ v v', r = .ret v ∧ Weak v v' ∧ k (.ret v') h') ∨ (∃ v, r = .pan v ∧ k r h'))) : CallH S f args h k := ⟨ACalls.weakR hc.out⟩
end Go.Abs
namespace Go.Abs
open Go.RowKit
variable {S : Seat} {B : List Deferred}
theorem R.freeze {E : Env} {h : Heap} {w : World} (hr : R S E h w) {i : Nat} {cs : List AV} {e : Nat} (hi : h[i]? = some (.var cs e)) {len cap sz : Nat} (hcap : cap * sz = cs.length) (hle : len ≤ cap) (hmax : cap ≤ maxLen) :
    ∃ E', Ext E E' ∧ E'.marks = E.marks ∧ R S E' (put h i (.tok len e sz)) w ∧ ∀ v, VR E (.row i 0 len cap) v → VR E' (.vec (cs.take (len * sz)) len (some i)) v := by
  obtain ⟨b, us, hb, hh, hu, himm, htk⟩ := hr.r0.ch i _ hi
  have hlen := hu.length
  have hown : ownsC E i (.var cs e) b := hb
  have hI : ∀ b' o u, E.imm b' o = some u → immRow E.imm b (us.take (len * sz)) b' o = some u := fun b' o u hu' => by
    unfold immRow; rw [if_neg (fun e0 => by subst e0; rw [himm] at hu'; cases hu')]; exact hu'
  have hk : ∀ b' o, E.keep b' → immRow E.imm b (us.take (len * sz)) b' o = E.imm b' o := fun b' o hk' => by
    unfold immRow; rw [if_neg (fun e0 => by subst e0; exact hr.kp.keep i _ _ hi hown hk')]
  have hext : Ext E (E.withTok i len (.slice (some ⟨b, 0, none⟩) len cap) (immRow E.imm b (us.take (len * sz)))) := Ext.withTok htk hI hk
  have hll : len * sz ≤ us.length := by rw [← hlen, ← hcap]; exact Nat.mul_le_mul_right _ hle
  refine ⟨_, hext, rfl, hr.step {
    v := hext.v
    blk := fun _ _ => rfl
    tok := fun j hj => if_neg hj
    cbv := fun _ _ => rfl, cbJ := fun _ _ => rfl, fp := fun _ _ => rfl
    own := fun _ _ _ _ _ _ => rfl
    ownI := fun j d b' hj hd ho o => by
      show immRow E.imm b _ b' o = E.imm b' o
      unfold immRow; rw [if_neg (fun e0 => by subst e0; exact hj (hr.r0.disj j i d _ _ hd hi ho hown))]
    ok := fun b' o u hu' => ?_
    cr := ⟨_, us.take (len * sz), if_pos rfl, ⟨by rw [List.length_take]; omega, .inr ⟨b, cap, us.toArray, rfl, Nat.zero_le _, hh, hle, hmax, by simp; omega, by simp⟩⟩, fun b' hb' o u hu' => ?_⟩
    new := fun b' ho => ?_
    kp := fun _ _ => rfl
    size := Nat.le_refl _
    s3 := Same3.refl w
    hrnd := fun _ _ => rfl
    hmks := fun _ _ => rfl
    keep := rfl, base := rfl, rnd := rfl, marks := rfl }, fun v hv => ?_⟩
  · have hu2 : immRow E.imm b (us.take (len * sz)) b' o = some u := hu'
    unfold immRow at hu2
    split at hu2
    · rename_i e0; subst e0
      rw [cell_of_row w b' o _ _ _ hh]
      rw [List.getElem?_take] at hu2
      split at hu2
      · simpa using hu2
      · cases hu2
    · exact hr.r0.imm b' o u hu2
  · simp [Value.ownBlock] at hb'
    subst hb'
    have hu2 : immRow E.imm b (us.take (len * sz)) b o = some u := hu'
    unfold immRow at hu2; rwa [if_pos rfl] at hu2
  · obtain ⟨F, v, e0, hob⟩ := ho
    have e0 : (if i = i then some (len, Value.slice (some ⟨b, 0, none⟩) len cap) else E.tok i) = some (F, v) := e0
    rw [if_pos rfl] at e0; cases e0
    simp [Value.ownBlock] at hob
    subst hob
    exact ⟨hr.r0.lt i _ b hi hown, hr.kp.keep i _ b hi hown, fun j d hj hd ho' => hj (hr.r0.disj j i d _ b hd hi ho' hown), fun e => (hr.r0.rnd _ e).2 i _ hi hown, fun hm => (hr.r0.mks _ hm).2.2 i _ hi hown⟩
  · simp only [VR] at hv ⊢
    obtain ⟨b2, hb2, rfl⟩ := hv
    rw [hb] at hb2; cases hb2
    refine ⟨_, _, rfl, hle, .inr ⟨b, 0, rfl, VRI.of_get fun j c hj => ?_⟩, fun j hj => ?_⟩
    · rw [List.getElem?_take] at hj
      split at hj
      · rename_i hlt
        obtain ⟨u, hu1, hu2⟩ := (hu.mono hext.v).get j c hj
        refine ⟨u, ?_, hu2⟩
        show immRow E.imm b (us.take (len * sz)) b (0 + j) = some u
        unfold immRow; rw [if_pos rfl, Nat.zero_add, List.getElem?_take, if_pos hlt]; exact hu1
      · cases hj
    · cases hj
      exact ⟨len, _, if_pos rfl, Nat.le_refl _, fun _ => rfl⟩
theorem Sat.freeze {c : Code} {t : List AV} {h : Heap} {k : ExK} (d i : Nat) {len cap e : Nat} {cs : List AV} (sz : Nat) (ht : getT t d = .row i 0 len cap) (hi : getO h i = some (.var cs e)) (hcap : cap * sz = cs.length ∧ len ≤ cap ∧ cap ≤ 9223372036854775807)
    (hs : Sat S c (t.set d (.vec (cs.take (len * sz)) len (some i))) (put h i (.tok len e sz)) k) : Sat S c t h k := by
  refine ⟨fun B E w a hr ha => ?_⟩
  rw [getO_eq] at hi
  obtain ⟨E', hx, hm, hr', hv⟩ := hr.freeze hi (len := len) hcap.1 hcap.2.1 hcap.2.2
  have ha' : ActR B E' (t.set d (.vec (cs.take (len * sz)) len (some i))) a := by
    refine ⟨VRL.of_get (by rw [List.length_set]; exact ha.1.length) fun j c u hc hu => ?_, by rw [hm]; exact ha.2⟩
    rw [List.getElem?_set] at hc
    split at hc
    · rename_i e0; subst e0
      split at hc
      · cases hc
        rw [getT_eq] at ht
        obtain ⟨c0, hc0⟩ : ∃ c0, t[d]? = some c0 := ⟨t[d], List.getElem?_eq_getElem (by assumption)⟩
        rw [hc0] at ht; simp only [Option.getD_some] at ht; subst ht
        obtain ⟨u', hu', hvu⟩ := ha.1.get d _ hc0
        rw [hu] at hu'; cases hu'
        exact hv u hvu
      · cases hc
    · obtain ⟨u', hu', hvu⟩ := ha.1.get j c hc
      rw [hu] at hu'; cases hu'
      exact hvu.mono hx.v
  have := hs.out B E' w a hr' ha'
  rw [fen_ext hx] at this
  exact wpIn_mono this fun _ _ _ h => h.ext hx
theorem CallH.freeze {f : Nat} {t : List AV} {h : Heap} {k : AEnd → Heap → Prop} (d i : Nat) {len cap e : Nat} {cs : List AV} (sz : Nat) (ht : getT t d = .row i 0 len cap) (hi : getO h i = some (.var cs e)) (hcap : cap * sz = cs.length ∧ len ≤ cap ∧ cap ≤ 9223372036854775807)
    (hs : CallH S f (t.set d (.vec (cs.take (len * sz)) len (some i))) (put h i (.tok len e sz)) k) : CallH S f t h k := by
  refine ⟨fun E w us hmk hrn hr ha => ?_⟩
  rw [getO_eq] at hi
  obtain ⟨E', hx, hm, hr', hv⟩ := hr.freeze hi (len := len) hcap.1 hcap.2.1 hcap.2.2
  have ha' : VRL E' (t.set d (.vec (cs.take (len * sz)) len (some i))) us := by
    refine VRL.of_get (by rw [List.length_set]; exact ha.length) fun j c u hc hu => ?_
    rw [List.getElem?_set] at hc
    split at hc
    · rename_i e0; subst e0
      split at hc
      · cases hc
        rw [getT_eq] at ht
        obtain ⟨c0, hc0⟩ : ∃ c0, t[d]? = some c0 := ⟨t[d], List.getElem?_eq_getElem (by assumption)⟩
        rw [hc0] at ht; simp only [Option.getD_some] at ht; subst ht
        obtain ⟨u', hu', hvu⟩ := ha.get d _ hc0
        rw [hu] at hu'; cases hu'
        exact hv u hvu
      · cases hc
    · obtain ⟨u', hu', hvu⟩ := ha.get j c hc
      rw [hu] at hu'; cases hu'
      exact hvu.mono hx.v
  refine (hs.out E' w us (hm.trans hmk) (hx.rnd.trans hrn) hr' ha').mono ?_
  rintro e w' ⟨E2, h2, r, g1, g2, g3, g4, g5⟩
  exact ⟨E2, h2, r, hx.trans g1, g2, g3, g4, g5⟩
theorem R.nilTok {E : Env} {h : Heap} {w : World} (hr : R S E h w) (e sz : Nat) :
    ∃ E', Ext E E' ∧ E'.marks = E.marks ∧ R S E' (h ++ [.tok 0 e sz]) w ∧ ∀ v, VR E .nils v → VR E' (.vec [] 0 (some h.length)) v := by
  obtain ⟨n1, n2, n3⟩ := hr.r0.non h.length (by simp)
  have hext : Ext E (E.withTok h.length 0 (.slice none 0 0) E.imm) := Ext.withTok n2 (fun _ _ _ h => h) fun _ _ _ => rfl
  have := hr.grow (i := h.length) (F := 0) (v := .slice none 0 0) (xs := []) hext (World.ownsRow_nil w 0 e sz) (fun b hb => by simp [Value.ownBlock] at hb) hr.r0.imm (Nat.le_refl _) (Same3.refl w) (fun _ _ _ => rfl) (fun _ _ _ _ => rfl) (fun b hb => by simp [Value.ownBlock] at hb)
  rw [put_append] at this
  refine ⟨_, hext, rfl, this, fun v hv => ?_⟩
  simp only [VR] at hv ⊢
  subst hv
  exact ⟨none, 0, rfl, Nat.le_refl _, by simp, fun i hi => by cases hi; exact ⟨0, _, if_pos rfl, Nat.le_refl _, fun _ => rfl⟩⟩
theorem Sat.nilTok {c : Code} {t : List AV} {h : Heap} {k : ExK} (d e sz : Nat) (ht : getT t d = .nils)
    (hs : Sat S c (t.set d (.vec [] 0 (some h.length))) (h ++ [.tok 0 e sz]) k) : Sat S c t h k := by
  refine ⟨fun B E w a hr ha => ?_⟩
  obtain ⟨E', hx, hm, hr', hv⟩ := hr.nilTok e sz
  have ha' : ActR B E' (t.set d (.vec [] 0 (some h.length))) a := by
    refine ⟨VRL.of_get (by rw [List.length_set]; exact ha.1.length) fun j c u hc hu => ?_, by rw [hm]; exact ha.2⟩
    rw [List.getElem?_set] at hc
    split at hc
    · rename_i e0; subst e0
      split at hc
      · cases hc
        rw [getT_eq] at ht
        obtain ⟨c0, hc0⟩ : ∃ c0, t[d]? = some c0 := ⟨t[d], List.getElem?_eq_getElem (by assumption)⟩
        rw [hc0] at ht; simp only [Option.getD_some] at ht; subst ht
        obtain ⟨u', hu', hvu⟩ := ha.1.get d _ hc0
        rw [hu] at hu'; cases hu'
        exact hv u hvu
      · cases hc
    · obtain ⟨u', hu', hvu⟩ := ha.1.get j c hc
      rw [hu] at hu'; cases hu'
      exact hvu.mono hx.v
  have := hs.out B E' w a hr' ha'
  rw [fen_ext hx] at this
  exact wpIn_mono this fun _ _ _ h => h.ext hx
end Go.Abs
namespace Go.Abs
open Go.RowKit
def flatFs (P : Program) (g : TypeId → Bool) : List Field → Nat → Nat → Bool
  | [], off, total => Nat.beq off total
  | f :: r, off, total => (f.name != "_") && Nat.beq f.offset off && (P.info? f.type).isSome && g f.type && flatFs P g r (off + P.cellsOf f.type) total
def flatB (P : Program) : Nat → TypeId → Bool
  | 0, _ => false
  | d + 1, t =>
    match P.underlying t with
    | some (.int _) => Nat.beq (P.cellsOf t) 1
    | some .bool => Nat.beq (P.cellsOf t) 1
    | some .string => Nat.beq (P.cellsOf t) 1
    | some (.struct fs) => !P.stoodInHeld t && flatFs P (flatB P d) fs.toList 0 (P.cellsOf t)
    | _ => false
theorem cellsEq_append : ∀ {a b c d : List AV} {r : Bool}, a.length = c.length → cellsEq (a ++ b) (c ++ d) = some r → ∃ r1 r2, cellsEq a c = some r1 ∧ cellsEq b d = some r2 ∧ r = (r1 && r2)
  | [], b, [], d, r, _, h => ⟨true, r, rfl, h, by simp⟩
  | [], b, y :: c, d, r, hl, h => by simp at hl
  | x :: a, b, [], d, r, hl, h => by simp at hl
  | x :: a, b, y :: c, d, r, hl, h => by
    simp only [List.cons_append, cellsEq] at h ⊢
    cases hx : cellEq x y with
    | none => simp [hx] at h
    | some q =>
      cases hr : cellsEq (a ++ b) (c ++ d) with
      | none => simp [hx, hr] at h
      | some s =>
        simp only [hx, hr, Option.some.injEq] at h
        obtain ⟨r1, r2, h1, h2, rfl⟩ := cellsEq_append (by simpa using hl) hr
        exact ⟨q && r1, r2, by simp [h1], h2, by rw [← h, Bool.and_assoc]⟩
theorem cellEq_run {P : Program} {E : Env} {t : TypeId} {x y : AV} {r : Bool} {u v : Value} {w : World} (h : cellEq x y = some r) (hx : VR E x u) (hy : VR E y v) (D : Nat)
    (hu : (∃ k, P.underlying t = some (.int k) ∧ ∃ k n, u = .int k n) ∨ (P.underlying t = some .bool ∧ ∃ b, u = .bool b) ∨ (P.underlying t = some .string ∧ ∃ b, u = .string b)) : (Op.equalIn (D + 1) t u v).run P w = .ok r w := by
  unfold cellEq at h
  split at h
  · rename_i k a k' b
    split at h
    · rename_i hk
      cases h
      have := kEq_eq hk; subst this
      simp only [VR] at hx hy
      subst hx; subst hy
      rcases hu with ⟨k0, hu, _⟩ | ⟨_, b, h⟩ | ⟨_, b, h⟩
      · exact run_equalIn_int w D t k k0 a b hu
      · cases h
      · cases h
    · cases h
  · rename_i a b
    cases h
    simp only [VR] at hx hy
    subst hx; subst hy
    rcases hu with ⟨_, _, k, n, h⟩ | ⟨hu, _⟩ | ⟨_, b, h⟩
    · cases h
    · exact run_equalIn_bool w D t a b hu
    · cases h
  · rename_i a b
    cases h
    simp only [VR] at hx hy
    subst hx; subst hy
    rcases hu with ⟨_, _, k, n, h⟩ | ⟨_, b, h⟩ | ⟨hu, _⟩
    · cases h
    · cases h
    · rw [run_equalIn_string w D t _ _ hu]
      have e : ∀ s : List UInt8, (⟨s.toArray⟩ : ByteArray).toList = s := fun s => by rw [ByteArray.toList_eq]
      rw [e, e]
  · cases h
def wrapV (P : Program) (t : TypeId) (us : List Value) : Value := if aggP P t then .agg us.toArray else us.headD undef
def shapeFs (g : TypeId → List Nat) : List Field → List Nat
  | [] => []
  | f :: r => g f.type ++ shapeFs g r
def shapeL (P : Program) : Nat → TypeId → List Nat
  | 0, _ => []
  | d + 1, t =>
    match P.underlying t with
    | some (.int _) => [0]
    | some .bool => [1]
    | some .string => [2]
    | some (.struct fs) => shapeFs (shapeL P d) fs.toList
    | _ => []
def kV : Value → Nat
  | .int _ _ => 0
  | .bool _ => 1
  | .string _ => 2
  | _ => 3
theorem kV0 {v : Value} (h : kV v = 0) : ∃ k n, v = .int k n := by cases v <;> simp [kV] at h; exact ⟨_, _, rfl⟩
theorem kV1 {v : Value} (h : kV v = 1) : ∃ b, v = .bool b := by cases v <;> simp [kV] at h; exact ⟨_, rfl⟩
theorem kV2 {v : Value} (h : kV v = 2) : ∃ b, v = .string b := by cases v <;> simp [kV] at h; exact ⟨_, rfl⟩
theorem shape_length {P : Program} : ∀ (d : Nat) (t : TypeId), flatB P d t = true → (shapeL P d t).length = P.cellsOf t
  | 0, t, h => by simp [flatB] at h
  | d + 1, t, h => by
    unfold flatB at h
    unfold shapeL
    split at h
    · rename_i k hu; exact (Nat.eq_of_beq_eq_true h).symm
    · rename_i hu; exact (Nat.eq_of_beq_eq_true h).symm
    · rename_i hu; exact (Nat.eq_of_beq_eq_true h).symm
    · rename_i fs hu
      simp only [Bool.and_eq_true] at h
      have key : ∀ (l : List Field) (off : Nat), flatFs P (flatB P d) l off (P.cellsOf t) = true → off + (shapeFs (shapeL P d) l).length = P.cellsOf t := by
        intro l
        induction l with
        | nil => intro off h; simpa [shapeFs] using Nat.eq_of_beq_eq_true h
        | cons f l ih =>
          intro off h
          simp only [flatFs, Bool.and_eq_true] at h
          have := ih _ h.2
          have hf := shape_length d f.type h.1.2
          simp only [shapeFs, List.length_append, hf]; omega
      simpa using key fs.toList 0 h.2
    · cases h
theorem shapeB_kV {E : Env} : ∀ {ks : List Nat} {cs : List AV} {us : List Value}, shapeB ks cs = true → VRL E cs us → us.map kV = ks
  | [], [], us, _, hv => by simp only [VRL] at hv; subst hv; rfl
  | [], c :: cs, us, h, _ => by simp [shapeB] at h
  | n :: ns, [], us, h, _ => by simp [shapeB] at h
  | n :: ns, c :: cs, us, h, hv => by
    obtain ⟨u, us', rfl, h1, h2⟩ := hv.uncons
    simp only [shapeB] at h
    split at h
    · split at h
      · rename_i hn
        simp only [VR] at h1; subst h1
        simp [kV, shapeB_kV h h2, Nat.eq_of_beq_eq_true hn]
      · cases h
    · split at h
      · rename_i hn
        simp only [VR] at h1; subst h1
        simp [kV, shapeB_kV h h2, Nat.eq_of_beq_eq_true hn]
      · cases h
    · split at h
      · rename_i hn
        simp only [VR] at h1; subst h1
        simp [kV, shapeB_kV h h2, Nat.eq_of_beq_eq_true hn]
      · cases h
    · cases h
theorem run_part_wrap {P : Program} {t : TypeId} {d : TypeDesc} (hd : P.underlying t = some d) (hi : (P.info? t).isSome = true) (us : List Value) (off : Nat) (h : aggP P t = false → off < us.length ∧ P.cellsOf t = 1) (w : World) :
    (part t us.toArray off).run P w = .ok (wrapV P t ((us.drop off).take (P.cellsOf t))) w := by
  obtain ⟨i, hi⟩ := Option.isSome_iff_exists.1 hi
  unfold part
  rw [Sem.run_bind, run_isAgg' hd]
  simp only [Result.andThen_ok]
  cases ha : aggP P t with
  | true =>
    simp only [if_true, Sem.run_bind, run_sizeOf' hi, Result.andThen_ok, Sem.run_pure, wrapV, ha]
    congr 2
    simp [Program.cellsOf, hi]
  | false =>
    obtain ⟨h1, h2⟩ := h ha
    simp only [Bool.false_eq_true, if_false, wrapV, ha, h2]
    have : us[off]? = some us[off] := List.getElem?_eq_getElem h1
    have e : (us.drop off).take 1 = [us[off]] := by
      rw [List.take_one, List.head?_drop, this]; rfl
    simp [e, this]
theorem flat_eq {P : Program} : ∀ (d : Nat) (t : TypeId), flatB P d t = true → ∀ (D : Nat), d ≤ D → ∀ (E : Env) (xs ys : List AV) (r : Bool) (us ws : List Value) (w : World),
    cellsEq xs ys = some r → VRL E xs us → VRL E ys ws → us.map kV = shapeL P d t → ws.map kV = shapeL P d t → (Op.equalIn D t (wrapV P t us) (wrapV P t ws)).run P w = .ok r w
  | 0, t, h, _, _, _, _, _, _, _, _, _, _, _, _, _, _ => by simp [flatB] at h
  | d + 1, t, h, D, hD, E, xs, ys, r, us, ws, w, hc, hx, hy, tu, tw => by
    have hl : us.length = P.cellsOf t := by rw [← shape_length _ _ h, ← tu, List.length_map]
    have hlw : ws.length = P.cellsOf t := by rw [← shape_length _ _ h, ← tw, List.length_map]
    obtain ⟨D, rfl⟩ : ∃ D', D = D' + 1 := ⟨D - 1, by omega⟩
    have one : aggP P t = false → us.length = 1 → ws.length = 1 → ((∃ k, P.underlying t = some (.int k) ∧ ∃ k n, wrapV P t us = .int k n) ∨ (P.underlying t = some .bool ∧ ∃ b, wrapV P t us = .bool b) ∨ (P.underlying t = some .string ∧ ∃ b, wrapV P t us = .string b)) →
        (Op.equalIn (D + 1) t (wrapV P t us) (wrapV P t ws)).run P w = .ok r w := by
      intro ha h1 h2 hu
      match us, ws, h1, h2, hx, hy with
      | [u], [v], _, _, hx, hy =>
        have lx := hx.length
        have ly := hy.length
        match xs, ys, lx, ly, hx, hy, hc with
        | [x], [y], _, _, hx, hy, hc =>
          obtain ⟨_, _, e, hx, _⟩ := hx.uncons; cases e
          obtain ⟨_, _, e, hy, _⟩ := hy.uncons; cases e
          simp only [cellsEq] at hc
          cases hq : cellEq x y with
          | none => simp [hq] at hc
          | some q =>
            simp only [hq, Bool.and_true, Option.some.injEq] at hc
            subst hc
            simp only [wrapV, ha, Bool.false_eq_true, if_false, List.headD_cons] at hu ⊢
            exact cellEq_run hq hx hy D hu
    unfold flatB at h
    unfold shapeL at tu tw
    have g1 : ∀ (vs : List Value) (n : Nat), vs.map kV = [n] → ∃ v, vs = [v] ∧ kV v = n := fun vs n hv => by
      match vs, hv with
      | [v], hv => exact ⟨v, rfl, by simpa using hv⟩
    split at h
    · rename_i k hu
      rw [hu] at tu tw
      have ha : aggP P t = false := by simp [aggP, hu]
      obtain ⟨u1, rfl, hk1⟩ := g1 _ _ tu
      obtain ⟨u2, rfl, hk2⟩ := g1 _ _ tw
      obtain ⟨k1, n1, rfl⟩ := kV0 hk1
      obtain ⟨k2, n2, rfl⟩ := kV0 hk2
      exact one ha rfl rfl (.inl ⟨k, hu, k1, n1, by simp [wrapV, ha]⟩)
    · rename_i hu
      rw [hu] at tu tw
      have ha : aggP P t = false := by simp [aggP, hu]
      obtain ⟨u1, rfl, hk1⟩ := g1 _ _ tu
      obtain ⟨u2, rfl, hk2⟩ := g1 _ _ tw
      obtain ⟨b1, rfl⟩ := kV1 hk1
      obtain ⟨b2, rfl⟩ := kV1 hk2
      exact one ha rfl rfl (.inr (.inl ⟨hu, b1, by simp [wrapV, ha]⟩))
    · rename_i hu
      rw [hu] at tu tw
      have ha : aggP P t = false := by simp [aggP, hu]
      obtain ⟨u1, rfl, hk1⟩ := g1 _ _ tu
      obtain ⟨u2, rfl, hk2⟩ := g1 _ _ tw
      obtain ⟨b1, rfl⟩ := kV2 hk1
      obtain ⟨b2, rfl⟩ := kV2 hk2
      exact one ha rfl rfl (.inr (.inr ⟨hu, b1, by simp [wrapV, ha]⟩))
    · rename_i fs hu
      simp only [Bool.and_eq_true, Bool.not_eq_true'] at h
      have ha : aggP P t = true := by simp [aggP, hu]
      have hf : P.fieldsOf t = fs := by simp [Program.fieldsOf, hu]
      simp only [wrapV, ha, if_true]
      rw [run_equalIn_struct w D t _ _ (by rw [hf]; exact hu) h.1, hf]
      have key : ∀ (l : List Field) (off : Nat), flatFs P (flatB P d) l off (P.cellsOf t) = true → (us.drop off).map kV = shapeFs (shapeL P d) l → (ws.drop off).map kV = shapeFs (shapeL P d) l → off ≤ P.cellsOf t ∧
          ∀ r, cellsEq (xs.drop off) (ys.drop off) = some r → (Op.eqFields D us.toArray ws.toArray l).run P w = .ok r w := by
        intro l
        induction l with
        | nil =>
          intro off hfl _ _
          have hfl := Nat.eq_of_beq_eq_true hfl
          refine ⟨by omega, fun r hr => ?_⟩
          have e1 : xs.drop off = [] := List.drop_eq_nil_of_le (by rw [hx.length, hl]; omega)
          have e2 : ys.drop off = [] := List.drop_eq_nil_of_le (by rw [hy.length, hlw]; omega)
          rw [e1, e2] at hr
          simp only [cellsEq, Option.some.injEq] at hr
          subst hr; rfl
        | cons f l ih =>
          intro off hfl hu1 hw1
          simp only [flatFs, Bool.and_eq_true] at hfl
          obtain ⟨⟨⟨⟨hnm, hoff⟩, hinf⟩, hfb⟩, hrest⟩ := hfl
          have hoff := Nat.eq_of_beq_eq_true hoff
          have hsl := shape_length d f.type hfb
          have split2 : ∀ vs : List Value, (vs.drop off).map kV = shapeFs (shapeL P d) (f :: l) → ((vs.drop off).take (P.cellsOf f.type)).map kV = shapeL P d f.type ∧ (vs.drop (off + P.cellsOf f.type)).map kV = shapeFs (shapeL P d) l := fun vs hv => by
            simp only [shapeFs] at hv
            constructor
            · rw [List.map_take, hv, ← hsl, List.take_left]
            · rw [← List.drop_drop, List.map_drop, hv, ← hsl, List.drop_left]
          obtain ⟨t1, hu2⟩ := split2 us hu1
          obtain ⟨t2, hw2⟩ := split2 ws hw1
          obtain ⟨hle, ihr⟩ := ih _ hrest hu2 hw2
          refine ⟨by omega, fun r hr => ?_⟩
          have hfu : ∃ dd, P.underlying f.type = some dd := by
            cases d with
            | zero => simp [flatB] at hfb
            | succ d =>
              unfold flatB at hfb
              cases hq : P.underlying f.type with
              | none => rw [hq] at hfb; cases hfb
              | some dd => exact ⟨dd, rfl⟩
          obtain ⟨dd, hdd⟩ := hfu
          have hone : aggP P f.type = false → P.cellsOf f.type = 1 := by
            intro ha
            cases d with
            | zero => simp [flatB] at hfb
            | succ d =>
              unfold flatB at hfb
              split at hfb
              · exact Nat.eq_of_beq_eq_true hfb
              · exact Nat.eq_of_beq_eq_true hfb
              · exact Nat.eq_of_beq_eq_true hfb
              · rename_i hq; simp [aggP, hq] at ha
              · cases hfb
          have ex : xs.drop off = (xs.drop off).take (P.cellsOf f.type) ++ xs.drop (off + P.cellsOf f.type) := by
            rw [← List.drop_drop, List.take_append_drop]
          have ey : ys.drop off = (ys.drop off).take (P.cellsOf f.type) ++ ys.drop (off + P.cellsOf f.type) := by
            rw [← List.drop_drop, List.take_append_drop]
          rw [ex, ey] at hr
          have hlx := hx.length
          have hly := hy.length
          obtain ⟨r1, r2, h1, h2, rfl⟩ := cellsEq_append (by simp only [List.length_take, List.length_drop]; omega) hr
          have hrun := flat_eq d f.type hfb D (by omega) E _ _ r1 ((us.drop off).take (P.cellsOf f.type)) ((ws.drop off).take (P.cellsOf f.type)) w h1 ((hx.drop off).take _) ((hy.drop off).take _) t1 t2
          have hp1 := run_part_wrap hdd hinf us off (fun ha => ⟨by have := hone ha; omega, hone ha⟩) w
          have hp2 := run_part_wrap hdd hinf ws off (fun ha => ⟨by have := hone ha; omega, hone ha⟩) w
          have hnm' : f.name ≠ "_" := by simpa using hnm
          simp only [Op.eqFields, hoff, ne_eq, hnm', not_false_eq_true, if_true, Sem.run_bind, hp1, hp2, Result.andThen_ok, hrun]
          cases r1 with
          | false => simp
          | true => simpa using ihr r2 h2
      rw [hu] at tu tw
      exact (key fs.toList 0 h.2 (by simpa using tu) (by simpa using tw)).2 r (by simpa using hc)
    · cases h
theorem flat_ok {P : Program} {t : TypeId} {ks : List Nat} (h : (flatB P 9 t && !P.eqGuardType P.depth t && aggP P t) = true) (hk : shapeL P 9 t = ks) : FlatOK P t ks where
  guard := by simp only [Bool.and_eq_true, Bool.not_eq_true'] at h; exact h.1.2
  eq E xs ys r us ws w hc hx hy h1 h2 := by
    simp only [Bool.and_eq_true] at h
    have := flat_eq 9 t h.1.1 10000 (by decide) E xs ys r us ws w hc hx hy (by rw [hk]; exact shapeB_kV h1 hx) (by rw [hk]; exact shapeB_kV h2 hy)
    rw [equal_step]
    simpa [wrapV, h.2] using this
end Go.Abs
namespace Go.Abs
theorem wrap_i64 {n : Int} (h1 : -9223372036854775808 ≤ n) (h2 : n < 9223372036854775808) : IntKind.wrap .i64 n = n := by
  have hb : IntKind.bits .i64 = 64 := rfl
  have hs : IntKind.signed .i64 = true := rfl
  unfold IntKind.wrap
  simp only [hb, hs, Bool.true_and, decide_eq_true_eq]
  split <;> omega
theorem wrap_u64m {n : Int} : IntKind.wrap .u64 n = n % 18446744073709551616 := by
  have hb : IntKind.bits .u64 = 64 := rfl
  have hs : IntKind.signed .u64 = false := rfl
  unfold IntKind.wrap
  simp [hb, hs]
theorem wrap_u64 {n : Int} (h1 : 0 ≤ n) (h2 : n < 18446744073709551616) : IntKind.wrap .u64 n = n := by rw [wrap_u64m]; omega
theorem wrap_u8m {n : Int} : IntKind.wrap .u8 n = n % 256 := by
  have hb : IntKind.bits .u8 = 8 := rfl
  have hs : IntKind.signed .u8 = false := rfl
  unfold IntKind.wrap
  simp [hb, hs]
def I64 (n : Int) : Prop := -9223372036854775808 ≤ n ∧ n < 9223372036854775808
def U64 (n : Int) : Prop := 0 ≤ n ∧ n < 18446744073709551616
def ci (k : IntKind) (l : List Int) : List AV := l.map (.int k)
def lv (l : List Int) : AV := .vec (ci .i64 l) l.length none
theorem ci_closed (k : IntKind) (l : List Int) : ClosedL (ci k l) := ClosedL_iff.2 fun c hc => by
  obtain ⟨n, _, rfl⟩ := List.mem_map.1 hc; simp only [Closed]
theorem lv_closed (l : List Int) : Closed (lv l) := by simp only [lv, Closed]; exact ⟨trivial, ci_closed _ _⟩
theorem ci_ids {p : Nat → Prop} (k : IntKind) (l : List Int) : IdsL p (ci k l) := ClosedL.ids _ (ci_closed k l)
theorem lv_ids {p : Nat → Prop} (l : List Int) : Ids p (lv l) := Closed.ids _ (lv_closed l)
theorem ci_length (k : IntKind) (l : List Int) : (ci k l).length = l.length := List.length_map _
theorem ci_append (k : IntKind) (l m : List Int) : ci k l ++ ci k m = ci k (l ++ m) := (List.map_append).symm
theorem ci_take (k : IntKind) (l : List Int) (n : Nat) : (ci k l).take n = ci k (l.take n) := (List.map_take).symm
theorem ci_drop (k : IntKind) (l : List Int) (n : Nat) : (ci k l).drop n = ci k (l.drop n) := (List.map_drop).symm
theorem ci_sub (k : IntKind) {l : List Int} {i : Nat} {x : Int} (h : l[i]? = some x) : sub (ci k l) (i * 1) 1 = some [.int k x] := by
  have hlt := (List.getElem?_eq_some_iff.1 h).1
  rw [sub_of (.inl (by rw [ci_length]; omega)), ci_drop, ci_take, Nat.mul_one, List.take_one, List.head?_drop, h]
  rfl
theorem lv_tok {l : List Int} {g : Option Nat} : Weak (.vec (ci .i64 l) l.length g) (lv l) := Weak.tok
theorem lv_nils : Weak .nils (lv []) := Weak.nils
theorem weak_eq {v v' : AV} (h : v = v') : Weak v v' := h ▸ Weak.refl v
theorem ci_part (k : IntKind) (l : List Int) (a b : Nat) : AV.vec (((ci k l).drop (a * 1)).take ((b - a) * 1)) (b - a) none = .vec (ci k ((l.drop a).take (b - a))) (b - a) none := by
  rw [ci_drop, ci_take, Nat.mul_one, Nat.mul_one]
theorem lv_take {l : List Int} {n : Nat} (h : n ≤ l.length) : AV.vec (ci .i64 (l.take n)) n none = lv (l.take n) := by
  unfold lv; rw [List.length_take, Nat.min_eq_left h]
theorem WrapH.quo {a b : Int} {k : Int → Prop} (h0 : 0 ≤ a) (h1 : 0 < b) (h2 : a < 9223372036854775808) (hk : k (a / b)) : WrapH .i64 (a.tdiv b) k := by
  refine WrapH.is (a / b) ?_ hk
  rw [Int.tdiv_eq_ediv_of_nonneg h0]
  have h3 : 0 ≤ a / b := Int.ediv_nonneg h0 (by omega)
  have h4 : a / b ≤ a := Int.ediv_le_self b h0
  exact wrap_i64 (by omega) (by omega)
theorem WrapH.quoU {a b : Int} {k : Int → Prop} (h0 : 0 ≤ a) (h1 : 0 < b) (h2 : a < 18446744073709551616) (hk : k (a / b)) : WrapH .u64 (a.tdiv b) k := by
  refine WrapH.is (a / b) ?_ hk
  rw [Int.tdiv_eq_ediv_of_nonneg h0]
  have h3 : 0 ≤ a / b := Int.ediv_nonneg h0 (by omega)
  have h4 : a / b ≤ a := Int.ediv_le_self b h0
  exact wrap_u64 (by omega) (by omega)
theorem NumH.rem {a b : Int} {k : Int → Prop} (h0 : 0 ≤ a) (hk : k (a % b)) : NumH (a.tmod b) k := NumH.is _ (Int.tmod_eq_emod_of_nonneg h0) hk
theorem drop_cons' {α : Type} {l : List α} {i : Nat} {x : α} (h : l[i]? = some x) : l.drop i = x :: l.drop (i + 1) := by
  have hlt := (List.getElem?_eq_some_iff.1 h).1
  rw [List.drop_eq_getElem_cons hlt]
  rw [List.getElem?_eq_getElem hlt] at h
  rw [Option.some.inj h]
theorem drop_nil' {α : Type} {l : List α} {i : Nat} (h : l.length ≤ i) : l.drop i = [] := List.drop_eq_nil_of_le h
theorem ci_snoc (k : IntKind) (l : List Int) (x : Int) (g : Option Nat) : AV.vec (ci k l ++ [.int k x]) (l.length + 1) g = .vec (ci k (l ++ [x])) (l ++ [x]).length g := by simp [ci]
theorem WeakL.setAt : ∀ {l : List AV} (d : Nat) {v v' : AV}, getT l d = v → Weak v v' → WeakL l (l.set d v')
  | [], d, v, v', _, _ => trivial
  | a :: l, 0, v, v', h, hw => ⟨by rw [show a = v from h]; exact hw, WeakL.refl l⟩
  | a :: l, d + 1, v, v', h, hw => ⟨Weak.refl a, WeakL.setAt (l := l) d h hw⟩
theorem WeakL.trans : ∀ {a b c : List AV}, WeakL a b → WeakL b c → WeakL a c
  | [], [], [], _, _ => trivial
  | x :: a, y :: b, z :: c, h, k => ⟨h.1.trans k.1, WeakL.trans h.2 k.2⟩
  | [], [], _ :: _, _, k => k.elim
  | [], _ :: _, _, h, _ => h.elim
  | _ :: _, [], _, h, _ => h.elim
  | _ :: _, _ :: _, [], _, k => k.elim
theorem repL_one (x : AV) : ∀ n, repL n [x] = List.replicate n x
  | 0 => rfl
  | n + 1 => by rw [repL, repL_one x n, List.replicate_succ]; rfl
theorem ci_zeros (k : IntKind) (n : Nat) : repL n [AV.int k 0] = ci k (List.replicate n 0) := by rw [repL_one]; simp [ci]
section
variable {A B : Prop}
theorem brD {p : Prop} [Decidable p] (h1 : p → A) (h2 : ¬ p → B) : @Bool.rec (fun _ => Prop) B A (decide p) := brI (fun h => h1 (of_decide_eq_true h)) (fun h => h2 (of_decide_eq_false h))
theorem brDT {p : Prop} [Decidable p] (h : p) (h1 : A) : @Bool.rec (fun _ => Prop) B A (decide p) := brT (decide_eq_true h) h1
theorem brDF {p : Prop} [Decidable p] (h : ¬ p) (h1 : B) : @Bool.rec (fun _ => Prop) B A (decide p) := brF (decide_eq_false h) h1
theorem brE {a b : Int} (h1 : a = b → A) (h2 : a ≠ b → B) : @Bool.rec (fun _ => Prop) B A (a == b) := brI (fun h => h1 (by simpa using h)) (fun h => h2 (by simpa using h))
theorem brET {a b : Int} (h : a = b) (h1 : A) : @Bool.rec (fun _ => Prop) B A (a == b) := brT (by simpa using h) h1
theorem brEF {a b : Int} (h : a ≠ b) (h1 : B) : @Bool.rec (fun _ => Prop) B A (a == b) := brF (by simpa using h) h1
theorem brNE {a b : Int} (h1 : a ≠ b → A) (h2 : a = b → B) : @Bool.rec (fun _ => Prop) B A (a != b) := brI (fun h => h1 (by simpa using h)) (fun h => h2 (by simpa using h))
theorem brNET {a b : Int} (h : a ≠ b) (h1 : A) : @Bool.rec (fun _ => Prop) B A (a != b) := brT (by simpa using h) h1
theorem brNEF {a b : Int} (h : a = b) (h1 : B) : @Bool.rec (fun _ => Prop) B A (a != b) := brF (by simpa using h) h1
theorem brNot {c : Bool} (h : @Bool.rec (fun _ => Prop) A B c) : @Bool.rec (fun _ => Prop) B A (!c) := by cases c <;> exact h
end
theorem ldSub {k : IntKind} {l : List Int} {n : Int} {K : List AV → Prop} (h : 0 ≤ n ∧ n < l.length) (hk : ∀ x, l[n.toNat]? = some x → K [.int k x]) : @Option.rec _ (fun _ => Prop) False K (sub (ci k l) (n.toNat * 1) 1) := by
  have hlt : n.toNat < l.length := by omega
  have hx : l[n.toNat]? = some l[n.toNat] := List.getElem?_eq_getElem hlt
  exact ldI _ (ci_sub k hx) (hk _ hx)
theorem zq1 {a b : Int} {k : Int → Prop} (h : 0 ≤ a ∧ 0 < b ∧ a < 9223372036854775808) (hk : k (a / b)) : WrapH .i64 (a.tdiv b) k := WrapH.quo h.1 h.2.1 h.2.2 hk
theorem zq2 {a b : Int} {k : Int → Prop} (h : 0 ≤ a ∧ 0 < b ∧ a < 18446744073709551616) (hk : k (a / b)) : WrapH .u64 (a.tdiv b) k := WrapH.quoU h.1 h.2.1 h.2.2 hk
theorem zq4 {n : Int} {k : Int → Prop} (h : -9223372036854775808 ≤ n ∧ n < 9223372036854775808) (hk : k n) : WrapH .i64 n k := WrapH.is _ (wrap_i64 h.1 h.2) hk
theorem zq5 {n : Int} {k : Int → Prop} (h : 0 ≤ n ∧ n < 18446744073709551616) (hk : k n) : WrapH .u64 n k := WrapH.is _ (wrap_u64 h.1 h.2) hk
theorem zq6 {n : Int} {k : Int → Prop} (hk : k (n % 18446744073709551616)) : WrapH .u64 n k := WrapH.is _ wrap_u64m hk
class Zs (g : Prop) (s n : outParam Prop) : Prop where
  go : s → n → g
theorem zs {g s n : Prop} [i : Zs g s n] (h : s) (k : n) : g := i.go h k
instance (priority := 2000) {a b : Int} {k : Int → Prop} : Zs (WrapH .i64 (a.tdiv b) k) (0 ≤ a ∧ 0 < b ∧ a < 9223372036854775808) (k (a / b)) := ⟨zq1⟩
instance (priority := 2000) {a b : Int} {k : Int → Prop} : Zs (WrapH .u64 (a.tdiv b) k) (0 ≤ a ∧ 0 < b ∧ a < 18446744073709551616) (k (a / b)) := ⟨zq2⟩
instance {n : Int} {k : Int → Prop} : Zs (WrapH .i64 n k) (-9223372036854775808 ≤ n ∧ n < 9223372036854775808) (k n) := ⟨zq4⟩
instance {n : Int} {k : Int → Prop} : Zs (WrapH .u64 n k) (0 ≤ n ∧ n < 18446744073709551616) (k n) := ⟨zq5⟩
instance {a b : Int} {k : Int → Prop} : Zs (NumH (a.tmod b) k) (0 ≤ a) (k (a % b)) := ⟨NumH.rem⟩
instance {p A : Prop} : Zs (Req p A) p A := ⟨Req.mk⟩
class Zt (g : Prop) (s n : outParam Prop) : Prop where
  go : s → n → g
theorem zt {g s n : Prop} [i : Zt g s n] (h : s) (k : n) : g := i.go h k
instance {A B p : Prop} [Decidable p] : Zt (@Bool.rec (fun _ => Prop) B A (decide p)) p A := ⟨brDT⟩
instance {A B : Prop} {a b : Int} : Zt (@Bool.rec (fun _ => Prop) B A (a == b)) (a = b) A := ⟨brET⟩
instance {A B : Prop} {a b : Int} : Zt (@Bool.rec (fun _ => Prop) B A (a != b)) (a ≠ b) A := ⟨brNET⟩
class Zf (g : Prop) (s n : outParam Prop) : Prop where
  go : s → n → g
theorem zf {g s n : Prop} [i : Zf g s n] (h : s) (k : n) : g := i.go h k
instance {A B p : Prop} [Decidable p] : Zf (@Bool.rec (fun _ => Prop) B A (decide p)) (¬ p) B := ⟨brDF⟩
instance {A B : Prop} {a b : Int} : Zf (@Bool.rec (fun _ => Prop) B A (a == b)) (a ≠ b) B := ⟨brEF⟩
instance {A B : Prop} {a b : Int} : Zf (@Bool.rec (fun _ => Prop) B A (a != b)) (a = b) B := ⟨brNEF⟩
class Cv (v : AV) : Prop where
  cl : Closed v
class Cw (l : List AV) : Prop where
  cl : ClosedL l
instance : Cw [] := ⟨trivial⟩
instance {a : AV} {l : List AV} [h : Cv a] [k : Cw l] : Cw (a :: l) := ⟨⟨h.cl, k.cl⟩⟩
instance {k : IntKind} {l : List Int} : Cw (ci k l) := ⟨ci_closed k l⟩
instance {b : Bool} : Cv (.bool b) := ⟨by simp [Closed]⟩
instance {k : IntKind} {n : Int} : Cv (.int k n) := ⟨by simp [Closed]⟩
instance {s : List UInt8} : Cv (.str s) := ⟨by simp [Closed]⟩
instance : Cv .nilp := ⟨by simp [Closed]⟩
instance : Cv .nils := ⟨by simp [Closed]⟩
instance : Cv .nilf := ⟨by simp [Closed]⟩
instance : Cv .nili := ⟨by simp [Closed]⟩
instance {l : List AV} [h : Cw l] : Cv (.iptr l) := ⟨by simp only [Closed]; exact h.cl⟩
instance {l : List AV} {n : Nat} [h : Cw l] : Cv (.vec l n none) := ⟨by simp only [Closed]; exact ⟨trivial, h.cl⟩⟩
instance {l : List AV} [h : Cw l] : Cv (.agg l) := ⟨by simp only [Closed]; exact h.cl⟩
instance {l : List AV} [h : Cw l] : Cv (.tup l) := ⟨by simp only [Closed]; exact h.cl⟩
instance {f : Nat} {a b : List AV} [h : Cw a] [k : Cw b] : Cv (.fn f a b) := ⟨by simp only [Closed]; exact ⟨h.cl, k.cl⟩⟩
instance {d : List Int} : Cv (lv d) := ⟨lv_closed d⟩
theorem lf {S : Seat} (hG : GOK S) {f : Nat} {args : List AV} {r : AV} (hc : ACalls S f args [] (fun x _ => x = .ret r)) [h1 : Cw args] [h2 : Cv r] {h : Heap} {k : AEnd → Heap → Prop} (hk : k (.ret r) h) : CallH S f args h k :=
  CallH.lift hG hc h1.cl h2.cl hk
end Go.Abs
namespace Go.Abs
def Dg (l : List Int) : Prop := ∀ x ∈ l, 0 ≤ x ∧ x < 65536
def dv : List Int → Int
  | [] => 0
  | x :: r => x + 65536 * dv r
def digF : Nat → Nat → List Int
  | 0, _ => []
  | f + 1, n => if n = 0 then [] else ((n % 65536 : Nat) : Int) :: digF f (n / 65536)
def dig (n : Nat) : List Int := digF n n
theorem digF_fuel : ∀ (f g n : Nat), n ≤ f → n ≤ g → digF f n = digF g n
  | 0, 0, n, _, _ => rfl
  | 0, g + 1, n, h, _ => by
    have : n = 0 := by omega
    subst this; simp [digF]
  | f + 1, 0, n, _, h => by
    have : n = 0 := by omega
    subst this; simp [digF]
  | f + 1, g + 1, n, h1, h2 => by
    simp only [digF]
    split
    · rfl
    · rw [digF_fuel f g (n / 65536) (by omega) (by omega)]
theorem dig_zero : dig 0 = [] := rfl
theorem dig_pos {n : Nat} (h : n ≠ 0) : dig n = ((n % 65536 : Nat) : Int) :: dig (n / 65536) := by
  unfold dig
  obtain ⟨f, rfl⟩ : ∃ f, n = f + 1 := ⟨n - 1, by omega⟩
  rw [digF, if_neg (by omega), digF_fuel f ((f + 1) / 65536) _ (by omega) (Nat.le_refl _)]
theorem Dg.nil : Dg [] := fun _ h => nomatch h
theorem Dg.cons {x : Int} {l : List Int} (h : 0 ≤ x ∧ x < 65536) (hl : Dg l) : Dg (x :: l) := fun y hy => by
  rcases List.mem_cons.1 hy with rfl | hy
  · exact h
  · exact hl y hy
theorem Dg.head {x : Int} {l : List Int} (h : Dg (x :: l)) : 0 ≤ x ∧ x < 65536 := h x (by simp)
theorem Dg.tail {x : Int} {l : List Int} (h : Dg (x :: l)) : Dg l := fun y hy => h y (by simp [hy])
theorem Dg.append {a b : List Int} (h : Dg a) (k : Dg b) : Dg (a ++ b) := fun x hx => (List.mem_append.1 hx).elim (h x) (k x)
theorem dig_Dg (n : Nat) : Dg (dig n) := by
  induction n using Nat.strongRecOn with
  | _ n ih =>
    by_cases h : n = 0
    · subst h; exact Dg.nil
    · rw [dig_pos h]; exact Dg.cons (by omega) (ih _ (by omega))
theorem dv_dig (n : Nat) : dv (dig n) = n := by
  induction n using Nat.strongRecOn with
  | _ n ih =>
    by_cases h : n = 0
    · subst h; rfl
    · rw [dig_pos h, dv, ih _ (by omega)]; omega
theorem dv_nonneg : ∀ {l : List Int}, Dg l → 0 ≤ dv l
  | [], _ => by simp [dv]
  | x :: l, h => by have := dv_nonneg h.tail; have := h.head; simp only [dv]; omega
theorem dv_append : ∀ (a b : List Int), dv (a ++ b) = dv a + 65536 ^ a.length * dv b
  | [], b => by simp [dv]
  | x :: a, b => by
    simp only [List.cons_append, dv, dv_append a b, List.length_cons, Int.pow_succ, Int.mul_add, Int.add_assoc]
    rw [Int.mul_comm (65536 ^ a.length) 65536, Int.mul_assoc]
def Cn (l : List Int) : Prop := ∀ x, l.getLast? = some x → x ≠ 0
theorem dv_pos : ∀ {l : List Int}, Dg l → Cn l → l ≠ [] → 0 < dv l
  | [x], h, hc, _ => by
    have := hc x rfl; have := h.head; simp only [dv]; omega
  | x :: y :: l, h, hc, _ => by
    have := dv_pos h.tail (fun z hz => hc z (by rw [List.getLast?_cons_cons]; exact hz)) (by simp)
    have h2 := h.head
    have e : dv (x :: y :: l) = x + 65536 * dv (y :: l) := rfl
    rw [e]; omega
theorem dig_dv : ∀ {l : List Int}, Dg l → Cn l → dig (dv l).toNat = l
  | [], _, _ => rfl
  | x :: l, h, hc => by
    have hp := dv_pos h hc (by simp)
    have h0 := dv_nonneg h.tail
    have hx := h.head
    simp only [dv] at hp ⊢
    rw [dig_pos (by omega)]
    have e1 : (x + 65536 * dv l).toNat / 65536 = (dv l).toNat := by omega
    have e2 : (((x + 65536 * dv l).toNat % 65536 : Nat) : Int) = x := by omega
    rw [e1, e2]
    have hc' : Cn l := by
      cases l with
      | nil => intro z hz; cases hz
      | cons y l => exact fun z hz => hc z (by rw [List.getLast?_cons_cons]; exact hz)
    rw [dig_dv h.tail hc']
def trimL (l : List Int) : List Int := (l.reverse.dropWhile (· == 0)).reverse
theorem trimL_last (l : List Int) (x : Int) : trimL (l ++ [x]) = if x = 0 then trimL l else l ++ [x] := by
  unfold trimL
  simp only [List.reverse_append, List.reverse_singleton, List.singleton_append, List.dropWhile_cons]
  by_cases h : x = 0 <;> simp [h]
theorem trim_dig : ∀ {l : List Int}, Dg l → trimL l = dig (dv l).toNat := by
  have key : ∀ (n : Nat) (l : List Int), l.length = n → Dg l → trimL l = dig (dv l).toNat := by
    intro n
    induction n with
    | zero => intro l hl _; have : l = [] := List.eq_nil_of_length_eq_zero hl; subst this; rfl
    | succ n ih =>
      intro l hl h
      obtain ⟨m, x, rfl⟩ : ∃ m x, l = m ++ [x] := ⟨l.dropLast, l.getLast (by intro e; simp [e] at hl), (List.dropLast_concat_getLast _).symm⟩
      rw [trimL_last]
      have hm : Dg m := fun y hy => h y (by simp [hy])
      split
      · rename_i hx
        subst hx
        rw [ih m (by simpa using hl) hm, dv_append]
        simp [dv]
      · rename_i hx
        rw [dig_dv h]
        intro y hy
        simp at hy; subst hy; exact hx
  exact fun {l} h => key l.length l rfl h
theorem dig_nil {n : Nat} : dig n = [] ↔ n = 0 := by
  constructor
  · intro h
    have := dv_dig n
    rw [h] at this; simp [dv] at this; omega
  · rintro rfl; rfl
theorem dig_length_lt : ∀ {n k : Nat}, n < 65536 ^ k → (dig n).length ≤ k
  | n, 0, h => by
    have : n = 0 := by simpa using h
    subst this; simp [dig_zero]
  | n, k + 1, h => by
    by_cases h0 : n = 0
    · subst h0; simp [dig_zero]
    · rw [dig_pos h0]
      have := dig_length_lt (n := n / 65536) (k := k) (by rw [Nat.div_lt_iff_lt_mul (by decide)]; rwa [Nat.pow_succ] at h)
      simp; omega
theorem dig_lt (n : Nat) : n < 65536 ^ (dig n).length := by
  induction n using Nat.strongRecOn with
  | _ n ih =>
    by_cases h : n = 0
    · subst h; simp [dig_zero]
    · have := ih (n / 65536) (by omega)
      rw [dig_pos h, List.length_cons, Nat.pow_succ]
      rw [Nat.div_lt_iff_lt_mul (by decide)] at this
      exact this
theorem dig_length_mono {m n : Nat} (h : m ≤ n) : (dig m).length ≤ (dig n).length := dig_length_lt (Nat.lt_of_le_of_lt h (dig_lt n))
def plusC : Int → List Int → List Int → List Int
  | c, [], [] => if c = 0 then [] else [c]
  | c, x :: a, [] => (c + x) % 65536 :: plusC ((c + x) / 65536) a []
  | c, [], y :: b => (c + y) % 65536 :: plusC ((c + y) / 65536) [] b
  | c, x :: a, y :: b => (c + x + y) % 65536 :: plusC ((c + x + y) / 65536) a b
theorem plusC_spec : ∀ (c : Int) (a b : List Int), (c = 0 ∨ c = 1) → Dg a → Dg b → dv (plusC c a b) = c + dv a + dv b ∧ Dg (plusC c a b) ∧ (plusC c a b).length ≤ max a.length b.length + 1
  | c, [], [], hc, _, _ => by
    unfold plusC
    split
    · rename_i h; subst h; exact ⟨by simp [dv], Dg.nil, by simp⟩
    · exact ⟨by simp [dv], Dg.cons (by omega) Dg.nil, by simp⟩
  | c, x :: a, [], hc, ha, hb => by
    have hx := ha.head
    obtain ⟨h1, h2, h3⟩ := plusC_spec ((c + x) / 65536) a [] (by omega) ha.tail hb
    simp only [plusC, dv] at h1 ⊢
    refine ⟨by omega, Dg.cons (by omega) h2, by simp at h3 ⊢; omega⟩
  | c, [], y :: b, hc, ha, hb => by
    have hy := hb.head
    obtain ⟨h1, h2, h3⟩ := plusC_spec ((c + y) / 65536) [] b (by omega) ha hb.tail
    simp only [plusC, dv] at h1 ⊢
    refine ⟨by omega, Dg.cons (by omega) h2, by simp at h3 ⊢; omega⟩
  | c, x :: a, y :: b, hc, ha, hb => by
    have hx := ha.head
    have hy := hb.head
    obtain ⟨h1, h2, h3⟩ := plusC_spec ((c + x + y) / 65536) a b (by omega) ha.tail hb.tail
    simp only [plusC, dv] at h1 ⊢
    refine ⟨by omega, Dg.cons (by omega) h2, by simp at h3 ⊢; omega⟩
theorem plus_dig (m n : Nat) : trimL (plusC 0 (dig m) (dig n)) = dig (m + n) := by
  obtain ⟨h1, h2, _⟩ := plusC_spec 0 (dig m) (dig n) (.inl rfl) (dig_Dg m) (dig_Dg n)
  rw [trim_dig h2, h1, dv_dig, dv_dig]
  congr 1; omega
def minusC : Int → List Int → List Int → List Int
  | _, [], _ => []
  | r, x :: a, [] => if x - r < 0 then (x - r + 65536) :: minusC 1 a [] else (x - r) :: minusC 0 a []
  | r, x :: a, y :: b => if x - r - y < 0 then (x - r - y + 65536) :: minusC 1 a b else (x - r - y) :: minusC 0 a b
theorem minusC_spec : ∀ (r : Int) (a b : List Int), (r = 0 ∨ r = 1) → Dg a → Dg b → (minusC r a b).length = a.length ∧ Dg (minusC r a b) ∧ (b.length ≤ a.length → ∃ r', (r' = 0 ∨ r' = 1) ∧ dv (minusC r a b) = dv a - dv b - r + 65536 ^ a.length * r')
  | r, [], b, hr, _, _ => by
    refine ⟨by simp [minusC], by unfold minusC; exact Dg.nil, fun hl => ⟨r, hr, ?_⟩⟩
    have : b = [] := List.eq_nil_of_length_eq_zero (by simpa using hl)
    subst this; simp [minusC, dv]; omega
  | r, x :: a, [], hr, ha, hb => by
    have hx := ha.head
    unfold minusC
    split
    · obtain ⟨h1, h2, h3⟩ := minusC_spec 1 a [] (.inr rfl) ha.tail hb
      refine ⟨by simp [h1], Dg.cons (by omega) h2, fun _ => ?_⟩
      obtain ⟨r', hr', h4⟩ := h3 (by simp)
      refine ⟨r', hr', ?_⟩
      simp only [dv, h4, List.length_cons, Int.pow_succ]
      rw [Int.mul_comm (65536 ^ a.length) 65536, Int.mul_assoc]; omega
    · obtain ⟨h1, h2, h3⟩ := minusC_spec 0 a [] (.inl rfl) ha.tail hb
      refine ⟨by simp [h1], Dg.cons (by omega) h2, fun _ => ?_⟩
      obtain ⟨r', hr', h4⟩ := h3 (by simp)
      refine ⟨r', hr', ?_⟩
      simp only [dv, h4, List.length_cons, Int.pow_succ]
      rw [Int.mul_comm (65536 ^ a.length) 65536, Int.mul_assoc]; omega
  | r, x :: a, y :: b, hr, ha, hb => by
    have hx := ha.head
    have hy := hb.head
    unfold minusC
    split
    · obtain ⟨h1, h2, h3⟩ := minusC_spec 1 a b (.inr rfl) ha.tail hb.tail
      refine ⟨by simp [h1], Dg.cons (by omega) h2, fun hl => ?_⟩
      obtain ⟨r', hr', h4⟩ := h3 (by simpa using hl)
      refine ⟨r', hr', ?_⟩
      simp only [dv, h4, List.length_cons, Int.pow_succ]
      rw [Int.mul_comm (65536 ^ a.length) 65536, Int.mul_assoc]; omega
    · obtain ⟨h1, h2, h3⟩ := minusC_spec 0 a b (.inl rfl) ha.tail hb.tail
      refine ⟨by simp [h1], Dg.cons (by omega) h2, fun hl => ?_⟩
      obtain ⟨r', hr', h4⟩ := h3 (by simpa using hl)
      refine ⟨r', hr', ?_⟩
      simp only [dv, h4, List.length_cons, Int.pow_succ]
      rw [Int.mul_comm (65536 ^ a.length) 65536, Int.mul_assoc]; omega
theorem dv_lt : ∀ {l : List Int}, Dg l → dv l < 65536 ^ l.length
  | [], _ => by simp [dv]
  | x :: l, h => by
    have := dv_lt h.tail
    have hx := h.head
    simp only [dv, List.length_cons, Int.pow_succ]; omega
theorem minus_dig {m n : Nat} (h : n ≤ m) : trimL (minusC 0 (dig m) (dig n)) = dig (m - n) := by
  obtain ⟨h1, h2, h3⟩ := minusC_spec 0 (dig m) (dig n) (.inl rfl) (dig_Dg m) (dig_Dg n)
  obtain ⟨r', hr', h4⟩ := h3 (dig_length_mono h)
  have h5 := dv_lt h2
  rw [h1] at h5
  rw [dv_dig, dv_dig] at h4
  have : r' = 0 := by
    rcases hr' with h | h
    · exact h
    · subst h; rw [Int.mul_one] at h4; omega
  subst this
  rw [trim_dig h2, h4]
  congr 1; omega
def lessR : List Int → List Int → Bool
  | x :: a, y :: b => if x = y then lessR a b else decide (x < y)
  | _, _ => false
theorem dv_rev_lt : ∀ (a b : List Int), Dg a → Dg b → a.length = b.length → (lessR a b = true ↔ dv a.reverse < dv b.reverse)
  | [], [], _, _, _ => by simp [lessR, dv]
  | [], _ :: _, _, _, h => by simp at h
  | _ :: _, [], _, _, h => by simp at h
  | x :: a, y :: b, ha, hb, hl => by
    have ih := dv_rev_lt a b ha.tail hb.tail (by simpa using hl)
    have h1 := dv_lt (l := a.reverse) (fun z hz => ha.tail z (by simpa using hz))
    have h2 := dv_lt (l := b.reverse) (fun z hz => hb.tail z (by simpa using hz))
    have h3 := dv_nonneg (l := a.reverse) (fun z hz => ha.tail z (by simpa using hz))
    have h4 := dv_nonneg (l := b.reverse) (fun z hz => hb.tail z (by simpa using hz))
    simp only [List.length_reverse] at h1 h2
    have hlen : b.length = a.length := by simpa using hl.symm
    rw [hlen] at h2
    simp only [lessR, List.reverse_cons, dv_append, List.length_reverse, dv, Int.mul_zero, Int.add_zero, hlen]
    generalize (65536 : Int) ^ a.length = q at *
    split
    · rename_i h; subst h; rw [ih]; omega
    · rename_i h
      rw [decide_eq_true_eq]
      constructor
      · intro hlt
        have : q * (x + 1) ≤ q * y := Int.mul_le_mul_of_nonneg_left (by omega) (by omega)
        rw [Int.mul_add] at this; omega
      · intro hlt
        refine Classical.byContradiction fun hn => ?_
        have : q * (y + 1) ≤ q * x := Int.mul_le_mul_of_nonneg_left (by omega) (by omega)
        rw [Int.mul_add] at this; omega
def lessL (a b : List Int) : Bool := if a.length ≠ b.length then decide (a.length < b.length) else lessR a.reverse b.reverse
theorem less_dig (m n : Nat) : lessL (dig m) (dig n) = decide (m < n) := by
  rw [Bool.eq_iff_iff, decide_eq_true_eq]
  unfold lessL
  split
  · rename_i h
    rw [decide_eq_true_eq]
    constructor
    · intro hl
      refine Nat.lt_of_not_le fun hge => ?_
      have := dig_length_mono hge; omega
    · intro hl
      have := dig_length_mono (Nat.le_of_lt hl); omega
  · rename_i h
    rw [dv_rev_lt _ _ (fun z hz => dig_Dg m z (by simpa using hz)) (fun z hz => dig_Dg n z (by simpa using hz)) (by simpa using h), List.reverse_reverse, List.reverse_reverse, dv_dig, dv_dig]
    omega
def lowD : Nat → Nat → List Int
  | 0, _ => []
  | k + 1, n => ((n % 65536 : Nat) : Int) :: lowD k (n / 65536)
theorem lowD_spec : ∀ (k n : Nat), Dg (lowD k n) ∧ (lowD k n).length = k ∧ (n < 65536 ^ k → dv (lowD k n) = n)
  | 0, n => ⟨Dg.nil, rfl, fun h => by have : n = 0 := by simpa using h
                                      subst this; rfl⟩
  | k + 1, n => by
    obtain ⟨h1, h2, h3⟩ := lowD_spec k (n / 65536)
    refine ⟨Dg.cons (by omega) h1, by simp [lowD, h2], fun h => ?_⟩
    have := h3 (by rw [Nat.div_lt_iff_lt_mul (by decide)]; rwa [Nat.pow_succ] at h)
    simp only [lowD, dv, this]; omega
theorem low_dig {n : Nat} (h : n < 18446744073709551616) : trimL (lowD 4 n) = dig n := by
  obtain ⟨h1, _, h3⟩ := lowD_spec 4 n
  rw [trim_dig h1, h3 h]; rfl
def sg (s : Bool) (m : Nat) : Int := if s then -(m : Int) else m
theorem sg_tmod (s : Bool) (m : Nat) : (sg s m).tmod 65536 = sg s (m % 65536) := by
  cases s
  · show Int.tmod (m : Int) 65536 = ((m % 65536 : Nat) : Int)
    rw [Int.tmod_eq_emod_of_nonneg (by omega)]; rfl
  · show Int.tmod (-(m : Int)) 65536 = -((m % 65536 : Nat) : Int)
    rw [Int.neg_tmod, Int.tmod_eq_emod_of_nonneg (by omega)]; rfl
theorem sg_tdiv (s : Bool) (m : Nat) : (sg s m).tdiv 65536 = sg s (m / 65536) := by
  cases s
  · show Int.tdiv (m : Int) 65536 = ((m / 65536 : Nat) : Int)
    rw [Int.tdiv_eq_ediv_of_nonneg (by omega)]; rfl
  · show Int.tdiv (-(m : Int)) 65536 = -((m / 65536 : Nat) : Int)
    rw [Int.neg_tdiv, Int.tdiv_eq_ediv_of_nonneg (by omega)]; rfl
theorem sg_natAbs (a : Int) : a = sg (decide (a < 0)) a.natAbs := by
  unfold sg
  by_cases h : a < 0 <;> simp [h] <;> omega
theorem sg_bounds (s : Bool) (m : Nat) : -(m : Int) ≤ sg s m ∧ sg s m ≤ m := by cases s <;> simp [sg] <;> omega
theorem sg_neg {s : Bool} {m : Nat} (h : sg s m < 0) : 0 - sg s m = m := by cases s <;> simp [sg] at h ⊢ <;> omega
theorem sg_pos {s : Bool} {m : Nat} (h : ¬ sg s m < 0) : sg s m = m := by cases s <;> simp [sg] at h ⊢ <;> omega
def mulC (x : Int) : Int → List Int → List Int
  | c, [] => if c = 0 then [] else [c]
  | c, y :: b => (c + x * y) % 65536 :: mulC x ((c + x * y) / 65536) b
theorem mul_bound {c x y : Int} (hc : 0 ≤ c ∧ c < 65536) (hx : 0 ≤ x ∧ x < 65536) (hy : 0 ≤ y ∧ y < 65536) : 0 ≤ x * y ∧ x * y ≤ 65535 * 65535 ∧ 0 ≤ c + x * y ∧ c + x * y < 4294967296 := by
  have h1 : 0 ≤ x * y := Int.mul_nonneg hx.1 hy.1
  have h2 : x * y ≤ 65535 * 65535 := Int.mul_le_mul (by omega) (by omega) hy.1 (by omega)
  omega
theorem mulC_spec {x : Int} (hx : 0 ≤ x ∧ x < 65536) : ∀ (b : List Int) (c : Int), (0 ≤ c ∧ c < 65536) → Dg b → dv (mulC x c b) = c + x * dv b ∧ Dg (mulC x c b) ∧ (mulC x c b).length ≤ b.length + 1
  | [], c, hc, _ => by
    unfold mulC
    split
    · rename_i h; subst h; exact ⟨by simp [dv], Dg.nil, by simp⟩
    · exact ⟨by simp [dv], Dg.cons hc Dg.nil, by simp⟩
  | y :: b, c, hc, hb => by
    have hy := hb.head
    have hm := mul_bound hc hx hy
    obtain ⟨h1, h2, h3⟩ := mulC_spec hx b ((c + x * y) / 65536) (by omega) hb.tail
    simp only [mulC, dv, h1, Int.mul_add]
    refine ⟨?_, Dg.cons (by omega) h2, by simp; omega⟩
    rw [← Int.mul_assoc x 65536, Int.mul_comm x 65536, Int.mul_assoc]; omega
theorem dv_zeros : ∀ n : Nat, dv (List.replicate n 0) = 0
  | 0 => rfl
  | n + 1 => by rw [List.replicate_succ, dv, dv_zeros n]; rfl
theorem Dg_zeros (n : Nat) : Dg (List.replicate n 0) := fun x hx => by
  have := List.eq_of_mem_replicate hx; omega
theorem dig_mul_length (m n : Nat) : (dig (m * n)).length ≤ (dig m).length + (dig n).length := by
  apply dig_length_lt
  rw [Nat.pow_add]
  exact Nat.mul_lt_mul'' (dig_lt m) (dig_lt n)
theorem row_dig {x : Int} (hx : 0 ≤ x ∧ x < 65536) (i n : Nat) : trimL (List.replicate i 0 ++ mulC x 0 (dig n)) = dig (65536 ^ i * x.toNat * n) := by
  obtain ⟨h1, h2, _⟩ := mulC_spec hx (dig n) 0 (by omega) (dig_Dg n)
  rw [trim_dig ((Dg_zeros i).append h2), dv_append, dv_zeros, List.length_replicate, h1, dv_dig]
  congr 1
  obtain ⟨y, rfl⟩ : ∃ y : Nat, x = y := ⟨x.toNat, by omega⟩
  have : (0 + 65536 ^ i * (0 + (y : Int) * (n : Int)) : Int) = ((65536 ^ i * y * n : Nat) : Int) := by
    rw [Int.zero_add, Int.zero_add, ← Int.mul_assoc, Int.natCast_mul, Int.natCast_mul, Int.natCast_pow]; rfl
  rw [this]; rfl
theorem dv_take_succ {l : List Int} {i : Nat} {x : Int} (h : l[i]? = some x) : dv (l.take (i + 1)) = dv (l.take i) + 65536 ^ i * x := by
  have hlt := (List.getElem?_eq_some_iff.1 h).1
  rw [List.take_add_one, h, Option.toList_some, dv_append, List.length_take, Nat.min_eq_left (by omega)]
  simp [dv]
theorem dv_take_le {l : List Int} (hl : Dg l) (i : Nat) : 0 ≤ dv (l.take i) ∧ dv (l.take i) ≤ dv l := by
  have h1 := dv_nonneg (l := l.take i) (fun x hx => hl x (List.mem_of_mem_take hx))
  have h2 := dv_nonneg (l := l.drop i) (fun x hx => hl x (List.mem_of_mem_drop hx))
  refine ⟨h1, ?_⟩
  have e := dv_append (l.take i) (l.drop i)
  rw [List.take_append_drop] at e
  have h3 : (0 : Int) ≤ 65536 ^ (l.take i).length * dv (l.drop i) := Int.mul_nonneg (Int.pow_nonneg (by decide)) h2
  omega
end Go.Abs
namespace Go.Abs
def cs {α : Type} (f : α → List AV) (l : List α) : List AV := l.flatMap f
section
variable {α : Type} {f : α → List AV} {sz : Nat}
theorem cs_length (hf : ∀ a, (f a).length = sz) : ∀ l : List α, (cs f l).length = l.length * sz
  | [] => by simp [cs]
  | a :: l => by
    have := cs_length hf l
    simp only [cs, List.flatMap_cons, List.length_append, hf a, List.length_cons] at this ⊢
    rw [this, Nat.succ_mul, Nat.add_comm]
theorem cs_drop (hf : ∀ a, (f a).length = sz) : ∀ (l : List α) (i : Nat), (cs f l).drop (i * sz) = cs f (l.drop i)
  | l, 0 => by simp
  | [], i + 1 => by simp [cs]
  | a :: l, i + 1 => by
    have := cs_drop hf l i
    simp only [cs, List.flatMap_cons, List.drop_succ_cons] at this ⊢
    rw [← this, Nat.succ_mul, Nat.add_comm, ← List.drop_drop, ← hf a, List.drop_left]
theorem cs_sub (hf : ∀ a, (f a).length = sz) {l : List α} {i : Nat} {a : α} (h : l[i]? = some a) : sub (cs f l) (i * sz) sz = some (f a) := by
  have hlt := (List.getElem?_eq_some_iff.1 h).1
  have hle : i * sz + sz ≤ (cs f l).length := by rw [cs_length hf, ← Nat.succ_mul]; exact Nat.mul_le_mul_right _ hlt
  rw [sub_of (.inl hle), cs_drop hf, drop_cons' h]
  simp only [cs, List.flatMap_cons]
  rw [← hf a, List.take_left]
theorem cs_closed (h : ∀ a, ClosedL (f a)) (l : List α) : ClosedL (cs f l) := ClosedL_iff.2 fun c hc => by
  obtain ⟨a, _, hc⟩ := List.mem_flatMap.1 hc
  exact ClosedL_iff.1 (h a) c hc
end
structure Pt where
  x : Int
  y : Int
structure Ed where
  p : Pt
  q : Pt
def Pt.c (p : Pt) : List AV := [.int .i64 p.x, .int .i64 p.y]
def Ed.c (e : Ed) : List AV := [.int .i64 e.p.x, .int .i64 e.p.y, .int .i64 e.q.x, .int .i64 e.q.y]
def Pt.a (p : Pt) : AV := .agg p.c
def Ed.a (e : Ed) : AV := .agg e.c
theorem Pt.closed (p : Pt) : Closed p.a := by simp [Pt.a, Pt.c, Closed, ClosedL]
theorem Ed.closed (e : Ed) : Closed e.a := by simp [Ed.a, Ed.c, Closed, ClosedL]
def Pt.in (p : Pt) (m : Int) : Prop := (-m ≤ p.x ∧ p.x ≤ m) ∧ -m ≤ p.y ∧ p.y ≤ m
instance (p : Pt) (m : Int) : Decidable (p.in m) := by unfold Pt.in; infer_instance
def Ed.in (e : Ed) (m : Int) : Prop := e.p.in m ∧ e.q.in m
instance (e : Ed) (m : Int) : Decidable (e.in m) := by unfold Ed.in; infer_instance
instance : Inhabited Pt := ⟨⟨0, 0⟩⟩
def allIn (m : Int) (l : List Ed) : Prop := ∀ e ∈ l, e.in m
instance (m : Int) (l : List Ed) : Decidable (allIn m l) := by unfold allIn; infer_instance
def sv (s : Bool) (m : Nat) : Int := if s then -(m : Int) else m
end Go.Abs
