/- A plan for a region whose order is open: the rule of use. No condition: lemmas. -/
import Derived.Test.YtflibnlbkffilaaAbs25
set_option linter.unusedSimpArgs false
set_option linter.unusedVariables false
set_option linter.deprecated false
namespace Go.Abs
open Go.RowKit
variable {S : Seat}

theorem guardK_abs {ops : List Oper} {o : Oper} {t : List AV} {run skip : Prop} (hg : guardK ops o t run skip) : (run ∧ guardK ops o t True False) ∨ (skip ∧ guardK ops o t False True) := by
  unfold guardK at hg ⊢
  cases hgu : o.guard with
  | none => simp only [hgu] at hg ⊢; exact .inl ⟨hg, trivial⟩
  | some gw =>
    obtain ⟨j, want⟩ := gw
    simp only [hgu] at hg ⊢
    cases hoj : getO ops j with
    | none => simp only [hoj] at hg
    | some oj =>
      simp only [hoj] at hg ⊢
      cases hd : oj.dst with
      | none => simp only [hd] at hg
      | some d =>
        simp only [hd] at hg ⊢
        cases hb : getT t d with
        | bool b =>
          simp only [hb] at hg ⊢
          cases want <;> cases b <;> simp only [Br] at hg ⊢ <;> first | exact .inl ⟨hg, trivial⟩ | exact .inr ⟨hg, trivial⟩
        | tup l =>
          cases l with
          | nil => simp only [hb] at hg ⊢; exact .inr ⟨hg, trivial⟩
          | cons x l => simp only [hb] at hg
        | _ => simp only [hb] at hg

theorem Prom.undef {ops : List Oper} {o : Oper} {v : AV} {t : List AV} {h : Heap} (hp : Prom S ops o v t h) : Prom S ops o .undef t h := fun E w a hr ha => by
  rcases hp E w a hr ha with ⟨h1, h2, u, h3, _⟩ | ⟨h1, _⟩
  · exact .inl ⟨h1, h2, u, h3, by simp only [VR]⟩
  · exact .inr ⟨h1, by simp only [VR]⟩
theorem vOf_self (o : Oper) (t : List AV) (v : AV) : vOf o (setDst t o.dst v) = v ∨ vOf o (setDst t o.dst v) = .undef := by
  unfold vOf setDst
  cases o.dst with
  | none => exact .inr rfl
  | some d =>
    simp only [getT_eq]
    by_cases hlt : d < t.length
    · left; rw [List.getElem?_set_self hlt]; rfl
    · right; rw [List.getElem?_eq_none (by rw [List.length_set]; exact Nat.le_of_not_lt hlt)]; rfl
theorem Prom.vOf {ops : List Oper} {o : Oper} {v : AV} {t : List AV} {h : Heap} (hp : Prom S ops o v t h) (hself : ∀ d, o.dst = some d → looks ops o d = false) : Prom S ops o (vOf o (setDst t o.dst v)) (setDst t o.dst v) h := by
  have h1 : Prom S ops o v (setDst t o.dst v) h := by
    unfold setDst
    split
    · rename_i d hd; exact hp.set (hself d hd)
    · exact hp
  rcases vOf_self o t v with e | e
  · rw [e]; exact h1
  · rw [e]; exact h1.undef

theorem take_snd (hS : SeatOK S) {ops : List Oper} {k : ExK} {i : Nat} {p : Plan} (ih : Snd S ops k p) : Snd S ops k (.take i p) := by
  intro L U pend t h hok hrun hi hp hpp V todo listed E0 E w a hd hr ha hx
  simp only [planOK] at hok
  split at hok
  case h_2 => cases hok
  rename_i o ho
  simp only [Bool.true_and, Bool.and_eq_true, Bool.not_eq_true', List.contains_eq_mem, decide_eq_false_iff_not] at hok
  obtain ⟨⟨⟨⟨⟨c1, c2⟩, c3⟩, c4⟩, c5⟩, hok⟩ := hok
  have hlt : i < ops.length := (List.getElem?_eq_some_iff.1 ho).1
  have d2 : ∀ j, waits o j = true → j ∈ L := by
    intro j hj
    obtain ⟨e, he, hb, rfl⟩ := waits_iff.1 hj
    simp only [List.all_eq_true, Array.mem_toList_iff, Bool.or_eq_true, Bool.not_eq_true', decide_eq_true_eq] at c2
    rcases c2 e he with h | h
    · unfold binds at hb; rw [hb] at h; cases h
    · exact h
  have d5 : ∀ d, o.dst = some d → looks ops o d = false := by
    intro d hd
    rw [hd] at c5
    simp only [Bool.not_eq_true', decide_eq_false_iff_not] at c5
    unfold looks; simpa using c5
  have d4 : ∀ q ∈ U, ∀ oq, ops[q]? = some oq → (waits o q = true ∨ oq.apart ops.toArray o = true) ∧ ∀ d, o.dst = some d → looks ops oq d = false ∧ oq.dst ≠ some d := by
    intro q hq oq hoq
    have := List.all_eq_true.1 c4 q hq
    rw [hoq] at this
    simp only [Bool.and_eq_true, Bool.or_eq_true] at this
    refine ⟨this.1, fun d hd => ?_⟩
    have h2 := this.2
    rw [hd] at h2
    simp only [Bool.and_eq_true, Bool.not_eq_true', decide_eq_false_iff_not, bne_iff_ne, ne_eq] at h2
    exact ⟨by unfold looks; simpa using h2.1, h2.2⟩
  have d3 : ∀ (j : Nat) oj, ops[j]? = some oj → j ∉ i :: L → waits oj i = true ∨ o.apart ops.toArray oj = true := by
    intro j oj hoj hj
    have := List.all_eq_true.1 c3 j (by
      unfold restOf
      rw [List.mem_filter, List.mem_range]
      exact ⟨(List.getElem?_eq_some_iff.1 hoj).1, by simpa using hj⟩)
    rw [hoj] at this
    simpa using this
  have hi' : InvS S ops (i :: L) (i :: U) := {
    lt := fun j hj => by rcases List.mem_cons.1 hj with rfl | hj; exact hlt; exact hi.lt j hj
    inL := fun q hq => by rcases List.mem_cons.1 hq with rfl | hq; simp; exact List.mem_cons_of_mem _ (hi.inL q hq)
    free := fun q hq oq hoq j oj hoj hj => by
      rcases List.mem_cons.1 hq with rfl | hq
      · rw [ho] at hoq; cases hoq; exact d3 j oj hoj hj
      · exact hi.free q hq oq hoq j oj hoj (fun h => hj (List.mem_cons_of_mem _ h))
    deps := fun q hq oq hoq j hj => by
      rcases List.mem_cons.1 hq with rfl | hq
      · rw [ho] at hoq; cases hoq; exact List.mem_cons_of_mem _ (d2 j hj)
      · exact List.mem_cons_of_mem _ (hi.deps q hq oq hoq j hj)
    pair := List.pairwise_cons.2 ⟨fun q hq => ⟨fun e => c1 (e ▸ hi.inL q hq), fun op oq hop hoq => by
      rw [ho] at hop; cases hop
      refine ⟨?_, d4 q hq oq hoq⟩
      cases hw : waits oq i with
      | false => rfl
      | true => exact absurd (hi.deps q hq oq hoq i hw) c1⟩, hi.pair⟩
    self := fun q hq oq hoq => by
      rcases List.mem_cons.1 hq with rfl | hq
      · rw [ho] at hoq; cases hoq
        refine ⟨?_, d5⟩
        cases hw : waits o q with
        | false => rfl
        | true => exact absurd (d2 q hw) c1
      · exact hi.self q hq oq hoq }
  have hd' : Dyn ops (i :: L) (i :: U) (i :: V) todo listed := ⟨hd.sub.cons_cons i, hd.nd, hd.sz, hd.mem, fun j => by
    rw [hd.ch]
    constructor
    · rintro ⟨h1, h2⟩
      refine ⟨h1, ?_⟩
      by_cases hj : j = i
      · subst hj; exact .inr (by simp)
      · rcases h2 with h2 | h2
        · exact .inl (by simp [hj, h2])
        · exact .inr (by simp [h2])
    · rintro ⟨h1, h2⟩
      refine ⟨h1, ?_⟩
      by_cases hj : j = i
      · subst hj; exact .inl c1
      · rcases h2 with h2 | h2
        · exact .inl (fun h => h2 (List.mem_cons_of_mem _ h))
        · exact .inr (by simpa [hj] using h2)⟩
  have hgo : ∀ (v : AV) (sn : List (Nat × Chunk)), snapP h sn → (∀ h', snapP h' sn → Prom S ops o v t h') → planR S ops k p (⟨i, sn⟩ :: pend) (setDst t o.dst v) h →
      wpAnyIn (fen E0) 0 S.P .any ops.toArray (PostR S E0 k) todo.length listed a w := by
    intro v sn hsn hpr hpl
    refine ih (i :: L) (i :: U) (⟨i, sn⟩ :: pend) (setDst t o.dst v) h hok hpl hi' ⟨U, o, rfl, ho, fun h' hs => (hpr h' hs).vOf d5, hp.setDst fun d hdst q hq oq hoq => (d4 q hq oq hoq).2 d hdst⟩ ⟨hsn, hpp⟩ (i :: V) todo listed E0 E w a hd' hr ⟨?_, ha.2⟩ hx
    have hvis : ∀ j, vis ops (i :: V) j = true → vis ops V j = true := fun j hj => vis_iff.2 fun q hq => vis_iff.1 hj q (List.mem_cons_of_mem _ hq)
    have : maskT (vis ops (i :: V)) 0 (setDst t o.dst v) = maskT (vis ops (i :: V)) 0 t := by
      unfold setDst
      split
      · rename_i d hdst
        refine maskT_set_out ?_ t v
        cases hb : vis ops (i :: V) d with
        | false => rfl
        | true => exact absurd hdst (vis_iff.1 hb i (by simp) o ho)
      · rfl
    rw [this]
    exact ha.1.mask_mono hvis
  have hrun : takeR S ops i (planR S ops k p) pend t h := hrun
  unfold takeR at hrun
  rw [getO_eq, ho] at hrun
  rcases guardK_abs hrun with ⟨hread, hg⟩ | ⟨hskip, hg⟩
  · rw [readK_congr (t' := maskT (looks ops o) 0 t) h (fun x hx => (ev_mask fun d hd => looks_op (by rw [← hd]; exact hx)).symm)] at hread
    obtain ⟨v, rds, hk, hok2, hnd⟩ := readK_sound hS hread
    obtain ⟨sn, hk, hsn, hsn2⟩ := snapK_run rds _ hk
    rw [setD_eq] at hk
    refine hgo v sn hsn (fun h' hs E1 w1 a1 hr1 ha1 => ?_) hk
    rcases guardK_wanted hg (fun _ h => h) ha1 with ⟨hw, _⟩ | ⟨_, hf⟩
    · exact .inl ⟨hw, hnd, hok2 h' E1 w1 a1 (hsn2 h' hs) hr1 ha1⟩
    · exact hf.elim
  · rw [setD_eq] at hskip
    refine hgo (.tup []) [] trivial (fun h' hs E1 w1 a1 hr1 ha1 => ?_) hskip
    rcases guardK_wanted hg (fun _ h => h) ha1 with ⟨_, hf⟩ | ⟨hw, _⟩
    · exact hf.elim
    · exact .inr ⟨hw, VR.dead E1⟩

theorem plan_snd (hS : SeatOK S) {ops : List Oper} {k : ExK} : ∀ (p : Plan), Snd S ops k p ∧ ∀ x ∈ perfs p, Snd S ops k x.2.2
  | .done => ⟨node_snd hS (fun _ _ e => nomatch e) (fun x hx => by cases hx), fun x hx => by cases hx⟩
  | .take i p => ⟨take_snd hS (plan_snd hS p).1, fun x hx => by cases hx⟩
  | .perform i n p => by
    have hp := (plan_snd hS (k := k) (ops := ops) p).1
    have h : ∀ x ∈ perfs (.perform i n p), Snd S ops k x.2.2 := fun x hx => by
      simp only [perfs, List.mem_singleton] at hx; subst hx; exact hp
    exact ⟨node_snd hS (fun _ _ e => nomatch e) h, h⟩
  | .both p q => by
    have hp := (plan_snd hS (k := k) (ops := ops) p).2
    have hq := (plan_snd hS (k := k) (ops := ops) q).2
    have h : ∀ x ∈ perfs (.both p q), Snd S ops k x.2.2 := fun x hx => (List.mem_append.1 hx).elim (hp x) (hq x)
    exact ⟨node_snd hS (fun _ _ e => nomatch e) h, h⟩

theorem R.more {E : Env} {w : World} {h h' : Heap} (hr : R S E h w) (h1 : ∀ (i : Nat) c, h'[i]? = some c → h[i]? = some c ∨ (h[i]? = none ∧ c = .unborn)) (h2 : ∀ i : Nat, h'[i]? = none → h[i]? = none) : R S E h' w := by
  refine ⟨⟨fun i c hc => ?_, hr.r0.glob, fun i hi => hr.r0.non i (h2 i hi), fun i c b hc ho => ?_, fun i j c d b hc hd ho1 ho2 => ?_, hr.r0.imm, fun l hl => ⟨(hr.r0.rnd l hl).1, fun i c hc ho => ?_⟩, fun D hD => ⟨(hr.r0.mks D hD).1, (hr.r0.mks D hD).2.1, fun i c hc ho => ?_⟩⟩,
    ⟨hr.kp.same, fun i c b hc ho => ?_, hr.kp.size, hr.kp.klt, hr.kp.s3⟩⟩
  · rcases h1 i c hc with h | ⟨h, rfl⟩
    · exact hr.r0.ch i c h
    · exact hr.r0.non i h
  · rcases h1 i c hc with h | ⟨h, rfl⟩
    · exact hr.r0.lt i c b h ho
    · exact ho.elim
  · rcases h1 i c hc with h | ⟨h, rfl⟩
    · rcases h1 j d hd with h' | ⟨h', rfl⟩
      · exact hr.r0.disj i j c d b h h' ho1 ho2
      · exact ho2.elim
    · exact ho1.elim
  · rcases h1 i c hc with h | ⟨h, rfl⟩
    · exact (hr.r0.rnd l hl).2 i c h ho
    · exact ho
  · rcases h1 i c hc with h | ⟨h, rfl⟩
    · exact (hr.r0.mks D hD).2.2 i c h ho
    · exact ho
  · rcases h1 i c hc with h | ⟨h, rfl⟩
    · exact hr.kp.keep i c b h ho
    · exact ho.elim

theorem unborns_eq : ∀ n, unborns n = List.replicate n .unborn
  | 0 => rfl
  | n + 1 => by
    show Chunk.unborn :: unborns n = _
    rw [unborns_eq n, List.replicate_succ]

theorem R.unborns {E : Env} {w : World} {h : Heap} (hr : R S E h w) (m : Nat) : R S E (appL h (unborns m)) w := by
  rw [appL_eq, unborns_eq]
  refine hr.more (fun i c hc => ?_) (fun i hi => ?_)
  · rw [List.getElem?_append] at hc
    split at hc
    · exact .inl hc
    · rename_i hge
      rw [List.getElem?_replicate] at hc
      split at hc
      · cases hc; exact .inr ⟨List.getElem?_eq_none (by omega), rfl⟩
      · cases hc
  · rw [List.getElem?_append] at hi
    split at hi
    · rename_i hlt; rw [List.getElem?_eq_getElem hlt] at hi; cases hi
    · rename_i hge; exact List.getElem?_eq_none (by omega)

/-- **A region whose order is open, by a plan**; m pieces are kept free. -/
theorem DrawH.plan (hS : SeatOK S) (p : Plan) (m : Nat) {id : Nat} {ops : List Oper} {t : List AV} {h : Heap} {k : ExK} (hok : planOK ops p true [] [] = true) (hr : planR S ops k p [] t (appL h (unborns m))) : DrawH S id ops t h k := by
  refine ⟨⟨fun E w a hR ha => wpIn_region_any hS.mixed ?_⟩⟩
  have := (plan_snd hS p).1 [] [] [] t (appL h (unborns m)) hok hr ⟨fun _ h => (nomatch h), fun _ h => (nomatch h), fun _ h => (nomatch h), fun _ h => (nomatch h), List.Pairwise.nil, fun _ h => (nomatch h)⟩ rfl trivial
    [] (List.range ops.length) (Array.replicate ops.length false) E E w.drew a ⟨List.Sublist.refl _, List.nodup_range, by simp, fun j => ?_, fun j => ?_⟩ (hR.drew.unborns m) ?_ (Ext.refl E)
  · rw [List.length_range] at this
    exact this
  · rw [List.mem_range]
    by_cases hj : j < ops.length <;> simp [hj]
  · rw [List.mem_range]; simp
  · rw [maskT_all (fun d => vis_iff.2 fun q hq => absurd hq (by simp))]; exact ha

end Go.Abs
