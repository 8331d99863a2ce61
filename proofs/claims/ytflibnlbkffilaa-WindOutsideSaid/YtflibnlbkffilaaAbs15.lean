/- The abstract evaluator is the machine's: regions in the order written, and code. No condition: lemmas. -/
import Derived.Test.YtflibnlbkffilaaAbs14
set_option linter.unusedSimpArgs false
set_option linter.unusedVariables false
set_option linter.deprecated false
namespace Go.Abs
open Go.RowKit
variable {S : Seat}

theorem ActR.mono {E E' : Env} {t : List AV} {a : Act} (ha : ActR E t a) (hx : Ext E E') (hm : E'.marks = E.marks) : ActR E' t a :=
  ⟨VRL.mono hx.v _ _ ha.1, by rw [hm]; exact ha.2⟩

theorem PostR.ext {E E' : Env} {k : ExK} {e : Exit} {a : Act} {w : World} (hx : Ext E E') (h : PostR S E' k e a w) : PostR S E k e a w := by
  obtain ⟨E2, t, hp, x, h1, h2⟩ := h
  exact ⟨E2, t, hp, x, hx.trans h1, h2⟩

theorem Oper.wpIn_monoQ {F : Fence} {n : Nat} {P : Program} {o : Oper} {a : Act} {w : World} {K K' : Act → World → Prop} {Q Q' : Exit → Act → World → Prop} (h : ∀ a w, K a w → K' a w) (hq : ∀ e a w, Q e a w → Q' e a w)
    (hh : o.wpIn F n P a w K Q) : o.wpIn F n P a w K' Q' := by
  unfold Oper.wpIn at *
  refine ⟨hh.1, ?_⟩
  have hh := hh.2
  have lo : LetsOut Q → LetsOut Q' := fun ⟨a, w, hl⟩ => ⟨a, w, hq _ _ _ hl⟩
  generalize (o.semAt F.round a.eval).run P w = r at *
  cases r with
  | ok x w' =>
    cases x <;> simp only [Oper.uponIn] at hh ⊢ <;>
      first
        | exact h _ _ hh
        | exact ⟨hh.1, CallsIn.mono hh.2 (fun e w'' he => by cases e <;> first | exact h _ _ he | exact hq _ _ _ he | exact lo he)⟩
        | exact ⟨hh.1, RowsIn.mono hh.2 (fun _ _ he => h _ _ he)⟩
        | exact ⟨hh.1, RoundIn.mono hh.2 (fun e w'' he => by cases e <;> first | exact h _ _ he | exact hq _ _ _ he | exact lo he)⟩
  | halt x w' => cases x <;> simp only [Oper.uponIn] at hh ⊢ <;> first | exact hh | exact hq _ _ _ hh

theorem wpOpsIn_mono {F : Fence} {n : Nat} {P : Program} {ops : Array Oper} {Q Q' : Exit → Act → World → Prop} (hq : ∀ e a w, Q e a w → Q' e a w) :
    ∀ (l : List Nat) (a : Act) (w : World), wpOpsIn F n P ops Q l a w → wpOpsIn F n P ops Q' l a w
  | [], a, w, h => hq _ _ _ h
  | i :: rest, a, w, h => by
    simp only [wpOpsIn] at h ⊢
    split
    · rename_i ho
      simp only [ho] at h
      exact wpOpsIn_mono hq rest a w h
    · rename_i o ho
      simp only [ho] at h
      split
      · rename_i hw
        simp only [hw, if_true] at h
        exact Oper.wpIn_monoQ (wpOpsIn_mono hq rest) hq h
      · rename_i hw
        simp only [hw, Bool.false_eq_true, if_false] at h
        exact ⟨h.1, wpOpsIn_mono hq rest _ _ h.2⟩

theorem opsK_sound (hS : SeatOK S) (ops : Array Oper) {k : ExK} : ∀ (l : List Oper) (i : Nat), ops.toList.drop i = l → ∀ (t : List AV) (h : Heap), opsK S ops.toList l t h k →
    ∀ (E : Env) (w : World) (a : Act), R S E h w → ActR E t a → wpOpsIn (fen E) 0 S.P ops (PostR S E k) (List.range' i l.length) a w
  | [], i, _, t, h, hk, E, w, a, hr, ha => ⟨E, t, h, .normal, Ext.refl E, hr, ha, rfl, hk⟩
  | o :: r, i, hd, t, h, hk, E, w, a, hr, ha => by
    have hget : ops[i]? = some o := by
      have : ops.toList[i]? = some o := by rw [← List.head?_drop, hd]; rfl
      simpa using this
    have hd' : ops.toList.drop (i + 1) = r := by rw [← List.tail_drop, hd]; rfl
    simp only [List.length_cons, List.range'_succ, wpOpsIn, hget]
    have hgo : operK S o t h (fun e h' => match e with | .ret v => setD t o.dst v (fun t' => opsK S ops.toList r t' h' k) | .pan v => k (.pan v) t h') →
        o.wpIn (fen E) 0 S.P a w (wpOpsIn (fen E) 0 S.P ops (PostR S E k) (List.range' (i + 1) r.length)) (PostR S E k) := by
      intro hk
      refine operK_sound hS hk hr ha _ _ ?_ ?_
      · intro E' h' v u w' hx hm hr' hv hk'
        simp only [setD_eq] at hk'
        have := opsK_sound hS ops r (i + 1) hd' _ h' hk' E' w' _ hr' (ha.put hx hm hv o.dst)
        rw [fen_ext hx] at this
        exact wpOpsIn_mono (fun _ _ _ h => h.ext hx) _ _ _ this
      · intro E' h' v u w' hx hm hr' hv hk'
        exact ⟨E', t, h', .pan v, hx, hr', ha.mono hx hm, ⟨u, rfl, hv⟩, hk'⟩
    have hskip : setD t o.dst (.tup []) (fun t' => opsK S ops.toList r t' h k) →
        (∀ f, o.about S.P w a.eval = some f → (fen E).fn f) ∧ wpOpsIn (fen E) 0 S.P ops (PostR S E k) (List.range' (i + 1) r.length) (a.put o.dst undef) w := by
      intro hk
      rw [setD_eq] at hk
      exact ⟨fun f _ => fen_fn E f, opsK_sound hS ops r (i + 1) hd' _ h hk E w _ hr (ha.put (Ext.refl E) rfl (VR.dead E) o.dst)⟩
    unfold opsK at hk
    split at hk
    · rename_i hg
      simp only [Region.wanted, hg, if_true]
      exact hgo hk
    · rename_i j want hg
      split at hk
      · rename_i oj hoj
        rw [getO_eq] at hoj
        have hoj : ops[j]? = some oj := by simpa using hoj
        split at hk
        · rename_i d hdst
          have hb : ∀ b, getT t d = .bool b → yielded ops a.tmps j = some b := by
            intro b hb
            rw [getT_eq] at hb
            cases hi : t[d]? with
            | none => simp [hi] at hb
            | some c =>
              simp [hi] at hb
              obtain ⟨u, hu, hv⟩ := ha.1.get d c hi
              rw [hb] at hv; simp only [VR] at hv; subst hv
              have : a.tmps[d]? = some (.bool b) := by simpa using hu
              unfold yielded; rw [hoj]; simp [hdst, this]
          split at hk
          · rename_i b hbe
            have hyb := hb b hbe
            simp only [Region.wanted, hg, hyb]
            cases b with
            | true => simpa using hgo hk
            | false => simpa using hskip hk
          · rename_i b hbe
            have hyb := hb b hbe
            simp only [Region.wanted, hg, hyb]
            cases b with
            | true => simpa using hskip hk
            | false => simpa using hgo hk
          · rename_i hbe
            have hyb : yielded ops a.tmps j = none := by
              rw [getT_eq] at hbe
              cases hi : t[d]? with
              | none => simp [hi] at hbe
              | some c =>
                simp [hi] at hbe
                obtain ⟨u, hu, hv⟩ := ha.1.get d c hi
                rw [hbe] at hv
                have := hv.toDead; subst this
                have : a.tmps[d]? = some undef := by simpa using hu
                unfold yielded; rw [hoj]; simp [hdst, this, undef]
            simp only [Region.wanted, hg, hyb]
            simpa using hskip hk
          · exact hk.elim
        · exact hk.elim
      · exact hk.elim

theorem codeK_sound (hS : SeatOK S) : ∀ (c : Code) (t : List AV) (h : Heap) (k : ExK), codeK S c t h k → Sat S c t h k
  | .skip, t, h, k, hk => ⟨fun E w a hr ha => wpIn_skip ⟨E, t, h, .normal, Ext.refl E, hr, ha, rfl, hk⟩⟩
  | .label _, t, h, k, hk => ⟨fun E w a hr ha => wpIn_label ⟨E, t, h, .normal, Ext.refl E, hr, ha, rfl, hk⟩⟩
  | .region id ops draw, t, h, k, hk => by
    cases draw with
    | false =>
      refine ⟨fun E w a hr ha => wpIn_region ?_⟩
      have := opsK_sound hS ops ops.toList 0 rfl t h hk E w a hr ha
      rwa [Array.length_toList, ← List.range_eq_range'] at this
    | true => exact hk.out
  | .seq x y, t, h, k, hk => by
    refine ⟨fun E w a hr ha => wpIn_seq (wpIn_mono ((codeK_sound hS x t h _ hk).out E w a hr ha) ?_)⟩
    rintro e a' w' ⟨E', t', h', z, h1, h2, h3, h4, h5⟩
    cases z with
    | normal =>
      simp only [ExitR] at h4; subst h4
      have := (codeK_sound hS y t' h' k h5).out E' w' a' h2 h3
      rw [fen_ext h1] at this
      exact wpIn_mono this fun _ _ _ h => h.ext h1
    | exit i => simp only [ExitR] at h4; subst h4; exact ⟨E', t', h', .exit i, h1, h2, h3, rfl, h5⟩
    | goto i => simp only [ExitR] at h4; subst h4; exact ⟨E', t', h', .goto i, h1, h2, h3, rfl, h5⟩
    | ret => simp only [ExitR] at h4; subst h4; exact ⟨E', t', h', .ret, h1, h2, h3, rfl, h5⟩
    | pan v => obtain ⟨u, rfl, hu⟩ := h4; exact ⟨E', t', h', .pan v, h1, h2, h3, ⟨u, rfl, hu⟩, h5⟩
  | .cond c x y, t, h, k, hk => by
    unfold codeK at hk
    split at hk
    · rename_i b hc
      refine ⟨fun E w a hr ha => ?_⟩
      have hv := ev_VR hr ha c
      rw [hc] at hv; simp only [VR] at hv
      cases b with
      | true => exact wpIn_cond_true hv ((codeK_sound hS x t h k hk).out E w a hr ha)
      | false => exact wpIn_cond_false hv ((codeK_sound hS y t h k hk).out E w a hr ha)
    · exact hk.elim
  | .block id b, t, h, k, hk => by
    refine ⟨fun E w a hr ha => wpIn_block (wpIn_mono ((codeK_sound hS b t h _ hk).out E w a hr ha) ?_)⟩
    rintro e a' w' ⟨E', t', h', z, h1, h2, h3, h4, h5⟩
    cases z with
    | normal => simp only [ExitR] at h4; subst h4; exact ⟨E', t', h', .normal, h1, h2, h3, rfl, h5⟩
    | exit i =>
      simp only [ExitR] at h4; subst h4
      simp only [Exit.inBlock]
      simp only [] at h5
      split at h5
      · rename_i hb
        have := Nat.eq_of_beq_eq_true hb
        rw [if_pos this]
        exact ⟨E', t', h', .normal, h1, h2, h3, rfl, h5⟩
      · rename_i hb
        rw [if_neg (fun e => by subst e; simp at hb)]
        exact ⟨E', t', h', .exit i, h1, h2, h3, rfl, h5⟩
    | goto i => simp only [ExitR] at h4; subst h4; exact ⟨E', t', h', .goto i, h1, h2, h3, rfl, h5⟩
    | ret => simp only [ExitR] at h4; subst h4; exact ⟨E', t', h', .ret, h1, h2, h3, rfl, h5⟩
    | pan v => obtain ⟨u, rfl, hu⟩ := h4; exact ⟨E', t', h', .pan v, h1, h2, h3, ⟨u, rfl, hu⟩, h5⟩
  | .loop b, t, h, k, hk => hk
  | .rangeFunc f ps x y, t, h, k, hk => hk
  | .exit id, t, h, k, hk => ⟨fun E w a hr ha => wpIn_exit ⟨E, t, h, .exit id, Ext.refl E, hr, ha, rfl, hk⟩⟩
  | .goto l, t, h, k, hk => ⟨fun E w a hr ha => wpIn_goto ⟨E, t, h, .goto l, Ext.refl E, hr, ha, rfl, hk⟩⟩
  | .ret, t, h, k, hk => ⟨fun E w a hr ha => wpIn_ret ⟨E, t, h, .ret, Ext.refl E, hr, ha, rfl, hk⟩⟩
  | .scope b, t, h, k, hk => hk
  | .refuse _, _, _, _, hk => hk.elim

theorem Sat.mono {c : Code} {t : List AV} {h : Heap} {k k' : ExK} (hs : Sat S c t h k) (hk : ∀ x t h, k x t h → k' x t h) : Sat S c t h k' :=
  ⟨fun E w a hr ha => wpIn_mono (hs.out E w a hr ha) fun _ _ _ ⟨E', t', h', z, h1, h2, h3, h4, h5⟩ => ⟨E', t', h', z, h1, h2, h3, h4, hk _ _ _ h5⟩⟩

/-- A loop: its condition held, step by step; a measure. -/
theorem Sat.loop {b : Code} {t : List AV} {h : Heap} {k : ExK} {ι : Type} (I : ι → List AV → Heap → Prop) (μ : ι → Nat) (i0 : ι) (h0 : I i0 t h)
    (round : ∀ i t h, I i t h → Sat S b t h (fun x t' h' => match x with | .normal => ∃ i', μ i' < μ i ∧ I i' t' h' | x => k x t' h')) : Sat S (.loop b) t h k := by
  refine ⟨fun E w a hr ha => ?_⟩
  have key : ∀ n i t h, μ i = n → I i t h → ∀ (E : Env) (w : World) (a : Act), R S E h w → ActR E t a → ∀ (E0 : Env), Ext E0 E → ∀ (fr : Frame) (ks : List Item) (cs : List Frame), fr.roundOf = (fen E0).round → (fen E0).fn fr.fn → (fen E0).room (cs.length + 1 + 0) →
      ∃ e a' w', PostR S E0 k e a' w' ∧ ArrivesIn (Machine.fenced S.P (fen E0)) S.P (lone (fr.atR a (.code b :: .inLoop b :: ks)) cs w) fr ks cs e a' w' := by
    intro n
    induction n using Nat.strongRecOn with
    | _ n ih =>
      intro i t h hn hI E w a hr ha E0 hx fr ks cs hro hb hroom
      have hs := (round i t h hI).out E w a hr ha
      rw [fen_ext hx] at hs
      obtain ⟨e, a₁, w₁, ⟨E', t', h', z, h1, h2, h3, h4, h5⟩, harr⟩ := hs fr (.inLoop b :: ks) cs hro hb hroom
      cases z with
      | normal =>
        simp only [ExitR] at h4; subst h4
        obtain ⟨i', hlt, hI'⟩ := h5
        obtain ⟨e₂, a₂, w₂, hq₂, harr₂⟩ := ih (μ i') (hn ▸ hlt) i' t' h' rfl hI' E' w₁ a₁ h2 h3 E0 (hx.trans h1) fr ks cs hro hb hroom
        exact ⟨e₂, a₂, w₂, hq₂, .of_steps (StepsIn.trans harr (.one (fenced_calm hb hroom rfl) stepR_inLoop)) harr₂⟩
      | exit id => simp only [ExitR] at h4; subst h4; exact ⟨_, a₁, w₁, ⟨E', t', h', .exit id, hx.trans h1, h2, h3, rfl, h5⟩, .pass (x := .inLoop b) rfl (fun _ _ => .inl (by simp)) harr⟩
      | goto id => simp only [ExitR] at h4; subst h4; exact ⟨_, a₁, w₁, ⟨E', t', h', .goto id, hx.trans h1, h2, h3, rfl, h5⟩, .pass (x := .inLoop b) rfl (fun _ _ => .inl (by simp)) harr⟩
      | ret => simp only [ExitR] at h4; subst h4; exact ⟨_, a₁, w₁, ⟨E', t', h', .ret, hx.trans h1, h2, h3, rfl, h5⟩, .pass (x := .inLoop b) rfl (fun _ _ => .inl (by simp)) harr⟩
      | pan v => obtain ⟨u, rfl, hu⟩ := h4; exact ⟨_, a₁, w₁, ⟨E', t', h', .pan v, hx.trans h1, h2, h3, ⟨u, rfl, hu⟩, h5⟩, .pass (x := .inLoop b) rfl (fun _ _ => .inl (by simp)) harr⟩
  intro fr ks cs hro hb hroom
  obtain ⟨e, a', w', hq, harr⟩ := key _ i0 t h rfl h0 E w a hr ha E (Ext.refl E) fr ks cs hro hb hroom
  exact ⟨e, a', w', hq, .of_steps (.one (fenced_calm hb hroom rfl) stepR_loop) harr⟩

/-! ### The same evaluator by the recursors themselves (what the kernel unfolds is then what the elaborator shows) -/
def stepO (S : Seat) (ops : List Oper) (o : Oper) (ih : List AV → Heap → ExK → Prop) (t : List AV) (h : Heap) (k : ExK) : Prop :=
    match o.guard with
    | none => operK S o t h (fun e h' => match e with | .ret v => setD t o.dst v (fun t' => ih t' h' k) | .pan v => k (.pan v) t h')
    | some (j, want) =>
      match getO ops j with
      | some oj =>
        match oj.dst with
        | some d =>
          match getT t d, want with
          | .bool b, true => Br b (operK S o t h (fun e h' => match e with | .ret v => setD t o.dst v (fun t' => ih t' h' k) | .pan v => k (.pan v) t h')) (setD t o.dst (.tup []) (fun t' => ih t' h k))
          | .bool b, false => Br b (setD t o.dst (.tup []) (fun t' => ih t' h k)) (operK S o t h (fun e h' => match e with | .ret v => setD t o.dst v (fun t' => ih t' h' k) | .pan v => k (.pan v) t h'))
          | .tup [], _ => setD t o.dst (.tup []) (fun t' => ih t' h k)
          | _, _ => False
        | none => False
      | none => False
def opsR (S : Seat) (ops : List Oper) (l : List Oper) : List AV → Heap → ExK → Prop :=
  @List.rec Oper (fun _ => List AV → Heap → ExK → Prop) (fun t h k => k .normal t h) (fun o _ ih => stepO S ops o ih) l
theorem opsR_eq (S : Seat) (ops : List Oper) : ∀ (l : List Oper), opsR S ops l = opsK S ops l
  | [] => rfl
  | o :: r => by
    have ih := opsR_eq S ops r
    funext t h k
    show stepO S ops o (opsR S ops r) t h k = _
    rw [ih]
    unfold stepO
    conv => rhs; unfold opsK
    rfl

def seqR (ia ib : List AV → Heap → ExK → Prop) (t : List AV) (h : Heap) (k : ExK) : Prop :=
  ia t h (fun e t' h' => match e with | .normal => ib t' h' k | .exit i => k (.exit i) t' h' | .goto i => k (.goto i) t' h' | .ret => k .ret t' h' | .pan v => k (.pan v) t' h')
def blockR (id : Nat) (ib : List AV → Heap → ExK → Prop) (t : List AV) (h : Heap) (k : ExK) : Prop :=
  ib t h (fun e t' h' => match e with | .exit j => (match Nat.beq j id with | true => k .normal t' h' | false => k (.exit j) t' h') | .normal => k .normal t' h' | .goto i => k (.goto i) t' h' | .ret => k .ret t' h' | .pan v => k (.pan v) t' h')
def condR (S : Seat) (c : Operand) (ia ib : List AV → Heap → ExK → Prop) (t : List AV) (h : Heap) (k : ExK) : Prop :=
  match ev S.G t c with | .bool x => Br x (ia t h k) (ib t h k) | _ => False
def regionR (S : Seat) (id : Nat) (ops : Array Oper) (draw : Bool) (t : List AV) (h : Heap) (k : ExK) : Prop :=
  match draw with
  | false => opsR S ops.toList ops.toList t h k
  | true => DrawH S id ops.toList t h k
def codeR (S : Seat) (c : Code) : List AV → Heap → ExK → Prop :=
  @Code.rec (fun _ => List AV → Heap → ExK → Prop)
    (skip := fun t h k => k .normal t h)
    (label := fun _ t h k => k .normal t h)
    (region := fun id ops draw => regionR S id ops draw)
    (seq := fun _ _ ia ib => seqR ia ib)
    (cond := fun c _ _ ia ib => condR S c ia ib)
    (block := fun id _ ib => blockR id ib)
    (loop := fun b _ t h k => Sat S (.loop b) t h k)
    (rangeFunc := fun f ps a b _ _ t h k => Sat S (.rangeFunc f ps a b) t h k)
    (exit := fun id t h k => k (.exit id) t h)
    (goto := fun l t h k => k (.goto l) t h)
    (ret := fun t h k => k .ret t h)
    (scope := fun b _ t h k => Sat S (.scope b) t h k)
    (refuse := fun _ _ _ _ => False)
    c
theorem codeR_eq (S : Seat) : ∀ (c : Code), codeR S c = codeK S c
  | .skip => rfl
  | .label _ => rfl
  | .region id ops draw => by
    funext t h k
    show regionR S id ops draw t h k = _
    unfold regionR
    conv => rhs; unfold codeK
    rw [opsR_eq]
    rfl
  | .seq a b => by
    have ha := codeR_eq S a
    have hb := codeR_eq S b
    funext t h k
    show seqR (codeR S a) (codeR S b) t h k = _
    rw [ha, hb]
    unfold seqR
    conv => rhs; unfold codeK
    rfl
  | .cond c a b => by
    have ha := codeR_eq S a
    have hb := codeR_eq S b
    funext t h k
    show condR S c (codeR S a) (codeR S b) t h k = _
    rw [ha, hb]
    unfold condR
    conv => rhs; unfold codeK
    rfl
  | .block id b => by
    have hb := codeR_eq S b
    funext t h k
    show blockR id (codeR S b) t h k = _
    rw [hb]
    unfold blockR
    conv => rhs; unfold codeK
    rfl
  | .loop _ => rfl
  | .rangeFunc _ _ _ _ => rfl
  | .exit _ => rfl
  | .goto _ => rfl
  | .ret => rfl
  | .scope _ => rfl
  | .refuse _ => rfl

theorem codeR_sound (hS : SeatOK S) (c : Code) (t : List AV) (h : Heap) (k : ExK) (hk : codeR S c t h k) : Sat S c t h k := by
  rw [codeR_eq] at hk; exact codeK_sound hS c t h k hk

end Go.Abs
