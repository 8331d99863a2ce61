/- A plan for a region whose order is open: its evaluation covers every order: the theorem's end, and the rule of use. No condition: lemmas. -/
import Derived.Test.YtflibnlbkffilaaAbs24
set_option linter.unusedSimpArgs false
set_option linter.unusedVariables false
set_option linter.deprecated false
namespace Go.Abs
open Go.RowKit
variable {S : Seat}

theorem pairwise_two {α : Type} {R : α → α → Prop} : ∀ {l : List α}, l.Pairwise R → ∀ a ∈ l, ∀ b ∈ l, a ≠ b → R a b ∨ R b a
  | [], _, a, ha, _, _, _ => nomatch ha
  | c :: l, h, a, ha, b, hb, hne => by
    obtain ⟨h1, h2⟩ := List.pairwise_cons.1 h
    rcases List.mem_cons.1 ha with ha | ha
    · rcases List.mem_cons.1 hb with hb | hb
      · exact absurd (ha.trans hb.symm) hne
      · exact .inl (ha ▸ h1 b hb)
    · rcases List.mem_cons.1 hb with hb | hb
      · exact .inr (hb ▸ h1 a ha)
      · exact pairwise_two h2 a ha b hb hne

theorem apart_looks {ops : List Oper} {x y : Oper} (h : x.apart ops.toArray y = true) : (∀ d, x.dst = some d → looks ops y d = false) ∧ (∀ d, x.dst = some d → y.dst ≠ some d) ∧ (∀ d, y.dst = some d → looks ops x d = false) := by
  obtain ⟨h1, h2, h3⟩ := Oper.apart_spec h
  refine ⟨fun d hd => ?_, h2, fun d hd => ?_⟩
  · have := h1 d hd; unfold looks; simpa using this
  · have := h3 d hd; unfold looks; simpa using this

theorem mask_erase {ops : List Oper} {V : List Nat} {i : Nat} {o : Oper} (ho : ops[i]? = some o) (hnd : V.Nodup) (hoth : ∀ d, o.dst = some d → ∀ q ∈ V, q ≠ i → ∀ oq, ops[q]? = some oq → oq.dst ≠ some d) (t : List AV) :
    maskT (vis ops (V.erase i)) 0 t = setDst (maskT (vis ops V) 0 t) o.dst (vOf o t) := by
  have hvis : ∀ j, o.dst ≠ some j → vis ops (V.erase i) j = vis ops V j := by
    intro j hj
    rw [Bool.eq_iff_iff, vis_iff, vis_iff]
    constructor
    · intro h q hq oq hoq
      by_cases hqi : q = i
      · subst hqi; rw [ho] at hoq; cases hoq; exact hj
      · exact h q (hnd.mem_erase_iff.2 ⟨hqi, hq⟩) oq hoq
    · intro h q hq oq hoq
      exact h q (hnd.mem_erase_iff.1 hq).2 oq hoq
  apply List.ext_getElem?
  intro j
  cases hd : o.dst with
  | none =>
    simp only [setDst, maskT_get, Nat.zero_add]
    rw [hvis j (by rw [hd]; simp)]
  | some d =>
    simp only [setDst, List.getElem?_set, maskT_length, maskT_get, Nat.zero_add]
    by_cases hj : d = j
    · subst hj
      have hv : vis ops (V.erase i) d = true := vis_iff.2 fun q hq oq hoq => hoth d hd q (hnd.mem_erase_iff.1 hq).2 (hnd.mem_erase_iff.1 hq).1 oq hoq
      simp only [if_true, hv]
      by_cases hlt : d < t.length
      · rw [if_pos hlt, List.getElem?_eq_getElem hlt]
        simp [vOf, hd, getT_eq, List.getElem?_eq_getElem hlt]
      · rw [if_neg hlt, List.getElem?_eq_none (Nat.le_of_not_lt hlt)]; rfl
    · rw [if_neg hj, hvis j (by rw [hd]; simpa using hj)]

theorem node_snd (hS : SeatOK S) {ops : List Oper} {k : ExK} {p : Plan} (hn : ∀ i q, p ≠ .take i q) (IH : ∀ x ∈ perfs p, Snd S ops k x.2.2) : Snd S ops k p := by
  intro L U pend t h hok hrun hi hp hpp
  obtain ⟨hheads, hdone⟩ := heads_ready hn hok
  suffices key : ∀ (n : Nat) (V todo : List Nat) (listed : Array Bool) (E0 E : Env) (w : World) (a : Act), V.length = n → Dyn ops L U V todo listed → R S E h w → ActR E (maskT (vis ops V) 0 t) a → Ext E0 E →
      wpAnyIn (fen E0) 0 S.P .any ops.toArray (PostR S E0 k) todo.length listed a w from
    fun V todo listed E0 E w a => key V.length V todo listed E0 E w a rfl
  intro n
  induction n using Nat.strongRecOn with
  | _ n ih =>
  intro V todo listed E0 E w a hVn hd hr ha hx
  have hVU := fun q (hq : q ∈ V) => hd.sub.subset hq
  have hVt : ∀ q ∈ V, q ∈ todo := fun q hq => (hd.ch q).2 ⟨hi.lt q (hi.inL q (hVU q hq)), .inr hq⟩
  have hpw := hi.pair.sublist hd.sub
  have hnd : V.Nodup := List.Pairwise.imp (fun h => h.1) hpw
  have hempty : Region.ready .any ops.toArray listed = [] → PostR S E0 k .normal a w := by
    intro h0
    have hV0 : V = [] := by
      cases V with
      | nil => rfl
      | cons v V => exact absurd h0 (last_ready hi hd (by simp) hp.ex)
    subst hV0
    have hrd : readyOf ops L = [] := by
      cases hro : readyOf ops L with
      | nil => rfl
      | cons j r =>
        have hj : j ∈ readyOf ops L := by rw [hro]; simp
        obtain ⟨h1, o, ho, h2⟩ := mem_readyOf.1 hj
        have hlt := (List.getElem?_eq_some_iff.1 ho).1
        have : j ∈ Region.ready .any ops.toArray listed := by
          rw [mem_ready]
          refine ⟨(hd.mem j).2 ((hd.ch j).2 ⟨hlt, .inl h1⟩), o, by simpa using ho, fun e he hb => hd.listed (hi.lt _ (h2 e he hb)) fun ht => ?_⟩
          rcases ((hd.ch _).1 ht).2 with h | h
          · exact h (h2 e he hb)
          · cases h
        rw [h0] at this; cases this
    have hpd : p = .done := hdone (by
      cases hh : headsOf p with
      | nil => rfl
      | cons j r =>
        have := (hheads j).2 (by rw [hh]; simp)
        rw [hrd] at this; cases this)
    subst hpd
    have hk : k .normal t (trimU h) := hrun
    rw [maskT_all (fun d => vis_iff.2 fun q hq => absurd hq (by simp))] at ha
    exact ⟨E, t, trimU h, .normal, hx, trimU_ok hr, ha, rfl, hk⟩
  cases htl : todo.length with
  | zero =>
    have ht0 : todo = [] := List.eq_nil_of_length_eq_zero htl
    have hr0 : Region.ready .any ops.toArray listed = [] := by
      cases hrd : Region.ready .any ops.toArray listed with
      | nil => rfl
      | cons j r =>
        have hj : j ∈ Region.ready .any ops.toArray listed := by rw [hrd]; simp
        have := (hd.mem j).1 (mem_ready.1 hj).1
        rw [ht0] at this; cases this
    exact ⟨hr0, hempty hr0⟩
  | succ m =>
  refine ⟨hempty, fun i hir => ?_⟩
  obtain ⟨hun, o, ho', hdeps⟩ := mem_ready.1 hir
  have ho : ops[i]? = some o := by simpa using ho'
  have hit : i ∈ todo := (hd.mem i).1 hun
  have hlt : i < ops.length := ((hd.ch i).1 hit).1
  have hnw : ∀ q ∈ V, waits o q = false := by
    intro q hq
    cases hw : waits o q with
    | false => rfl
    | true =>
      obtain ⟨e, he, hb, rfl⟩ := waits_iff.1 hw
      exact absurd (hVt _ hq) (hd.notTodo (hdeps e he hb))
  unfold wpOpIn
  simp only [ho']
  by_cases hiV : i ∈ V
  · -- one that was taken
    have hiU := hVU i hiV
    have hlooks : ∀ d, looks ops o d = true → vis ops V d = true := by
      intro d hl
      rw [vis_iff]
      intro q hq oq hoq hdst
      by_cases hqi : q = i
      · subst hqi; rw [ho] at hoq; cases hoq
        rw [(hi.self q hiU o ho).2 d hdst] at hl; cases hl
      · rcases pairwise_two hpw q hq i hiV hqi with h1 | h1
        · rw [((h1.2 oq o hoq ho).2.2 d hdst).1] at hl; cases hl
        · rcases (h1.2 o oq ho hoq).2.1 with h2 | h2
          · rw [hnw q hq] at h2; cases h2
          · rw [(apart_looks h2).1 d hdst] at hl; cases hl
    have hoth : ∀ d, o.dst = some d → ∀ q ∈ V, q ≠ i → ∀ oq, ops[q]? = some oq → oq.dst ≠ some d := by
      intro d hdst q hq hqi oq hoq hqd
      rcases pairwise_two hpw q hq i hiV hqi with h1 | h1
      · exact ((h1.2 oq o hoq ho).2.2 d hqd).2 hdst
      · exact ((h1.2 o oq ho hoq).2.2 d hdst).2 hqd
    obtain ⟨hd', hlen⟩ := hd.step (L' := L) (U' := U) (V' := V.erase i) hit (List.erase_sublist.trans hd.sub) (fun j hj hji => by rw [hnd.mem_erase_iff]; simp [hji]) (hi.inL i hiU) (fun h => (hnd.mem_erase_iff.1 h).1 rfl)
    have hm : m = (todo.erase i).length := by omega
    have hgo : ∀ u, VR E (vOf o t) u → wpAnyIn (fen E0) 0 S.P .any ops.toArray (PostR S E0 k) m (listed.setIfInBounds i true) (a.put o.dst u) w := by
      intro u hu
      rw [hm]
      refine ih _ (by rw [← hVn, List.length_erase_of_mem hiV]; have := List.length_pos_of_mem hiV; omega) (V.erase i) (todo.erase i) _ E0 E w _ rfl hd' hr ?_ hx
      rw [mask_erase ho hnd hoth]
      exact ha.put (Ext.refl E) rfl hu o.dst
    rcases hp.get hpp i hiU o ho E w a hr (ha.1.mask_mono hlooks) with ⟨hw, hnd2, u, hru, hvu⟩ | ⟨hw, hv⟩
    · rw [if_pos hw]
      refine ⟨fun f _ => fen_fn E0 f, ?_⟩
      rw [Oper.semAt_eq _ _ _ hnd2]
      rcases hru with hru | ⟨hru, rfl⟩
      · rw [hru, Oper.uponIn_value]; exact hgo u hvu
      · rw [hru, Oper.uponIn_skip]; exact hgo undef hvu
    · rw [if_neg (by rw [hw]; simp)]
      exact ⟨fun f _ => fen_fn E0 f, hgo undef hv⟩
  · -- the plan's own
    have hiL : i ∉ L := (((hd.ch i).1 hit).2).resolve_right hiV
    have hrdy : i ∈ readyOf ops L := by
      rw [mem_readyOf]
      refine ⟨hiL, o, ho, fun e he hb => ?_⟩
      have h1 := hdeps e he hb
      have h2 := hd.notTodo h1
      have h3 : e.on < ops.length := by
        rw [← hd.sz]
        rcases Nat.lt_or_ge e.on listed.size with h | h
        · exact h
        · simp [Array.getElem?_eq_none h] at h1
      exact Classical.byContradiction fun h => h2 ((hd.ch _).2 ⟨h3, .inl h⟩)
    obtain ⟨x, hxp, hx1⟩ := heads_perfs ((hheads i).1 hrdy)
    obtain ⟨_, o2, ho2, hsub⟩ := perfs_ok hok x hxp
    have hperf := perfs_run hrun x hxp
    rw [hx1] at ho2 hsub hperf
    rw [ho] at ho2; cases ho2
    have hap : ∀ q ∈ U, waits o q = false → ∀ oq, ops[q]? = some oq → oq.apart ops.toArray o = true := fun q hq hw oq hoq =>
      (hi.free q hq oq hoq i o ho hiL).resolve_left (by rw [hw]; simp)
    have hlooks : ∀ d, looks ops o d = true → vis ops V d = true := by
      intro d hl
      rw [vis_iff]
      intro q hq oq hoq hdst
      rw [(apart_looks (hap q (hVU q hq) (hnw q hq) oq hoq)).1 d hdst] at hl; cases hl
    have hdv : ∀ e, o.dst = some e → vis ops V e = true := fun e he => vis_iff.2 fun q hq oq hoq hdst =>
      (apart_looks (hap q (hVU q hq) (hnw q hq) oq hoq)).2.1 e hdst he
    have hVs : V.Sublist (U.filter fun j => !waits o j) := by
      have := hd.sub.filter (fun j => !waits o j)
      rwa [List.filter_eq_self.2 (fun q hq => by simp [hnw q hq])] at this
    obtain ⟨hd', hlen⟩ := hd.step (L' := i :: L) (U' := U.filter fun j => !waits o j) (V' := V) hit hVs (fun j hj hji => by simp [hji]) (by simp) hiV
    have hm : m = (todo.erase i).length := by omega
    have hgo : ∀ (E' : Env) (h' : Heap) (v : AV) (u : Value) (w' : World), Ext E E' → E'.marks = E.marks → R S E' h' w' → VR E' v u → pendP h' (dropP o pend) → planR S ops k x.2.2 (dropP o pend) (setDst t o.dst v) h' →
        wpAnyIn (fen E0) 0 S.P .any ops.toArray (PostR S E0 k) m (listed.setIfInBounds i true) (a.put o.dst u) w' := by
      intro E' h' v u w' hx' hm' hr' hv hpe hpl
      rw [hm]
      exact IH x hxp (i :: L) (U.filter fun j => !waits o j) (dropP o pend) (setDst t o.dst v) h' hsub hpl (hi.perform hlt o)
        ((hp.drop o).setDst fun d hdst q hq oq hoq => by
          have hq' := List.mem_filter.1 hq
          have := apart_looks (hap q hq'.1 (by simpa using hq'.2) oq hoq)
          exact ⟨this.2.2 d hdst, fun e => this.2.1 d e hdst⟩)
        hpe V (todo.erase i) _ E0 E' w' _ hd' hr' (ha.putM hx' hm' hv hdv) (hx.trans hx')
    unfold performR at hperf
    rw [getO_eq, ho] at hperf
    rcases guardK_wanted hperf hlooks ha.1 with ⟨hw, hperf⟩ | ⟨hw, hperf⟩
    · rw [if_pos hw]
      obtain ⟨nid, hop, hun⟩ : ∃ nid, operN S nid o t h (fun e h' => match e with
          | .ret v => pendReq h' (dropP o pend) (setD t o.dst v (fun t' => planR S ops k x.2.2 (dropP o pend) t' h'))
          | .pan v => k (.pan v) (undefs (lenN t)) h') ∧ (h[nid]? = none ∨ h[nid]? = some .unborn) := by
        unfold performN at hperf
        split at hperf
        · exact ⟨_, hperf, .inl (by rw [lenN_eq]; simp)⟩
        · rename_i nid hnid
          split at hperf
          · rename_i nid _ hu
            rw [getO_eq] at hu
            exact ⟨nid, hperf, .inr hu⟩
          · exact hperf.elim
      rw [operN_congr (t' := maskT (vis ops V) 0 t) h (fun y hy => (ev_mask fun d hd => hlooks d (looks_op (by rw [← hd]; exact hy))).symm)] at hop
      have := operN_sound hS hop hr ha hun (wpAnyIn (fen E0) 0 S.P .any ops.toArray (PostR S E0 k) m (listed.setIfInBounds i true)) (PostR S E0 k) ?_ ?_
      · rwa [fen_ext hx] at this
      · intro E' h' v u w' hx' hm' hr' hv hk'
        have hk2 : pendP h' (dropP o pend) ∧ setD t o.dst v (fun t' => planR S ops k x.2.2 (dropP o pend) t' h') := by
          simp only at hk'
          unfold pendReq at hk'
          split at hk'
          · rename_i he; rw [he]; exact ⟨trivial, by rw [he] at hk'; exact hk'⟩
          · rename_i p' r' he; rw [he]; exact ⟨hk'.pf, by have := hk'.go; rw [he] at this; exact this⟩
        rw [setD_eq] at hk2
        exact hgo E' h' v u w' hx' hm' hr' hv hk2.1 hk2.2
      · intro E' h' v u w' hx' hm' hr' hv hk'
        have hl : t.length = a.tmps.toList.length := by rw [← ha.1.length, maskT_length]
        refine ⟨E', undefs (lenN t), h', .pan v, hx.trans hx', hr', ⟨?_, by rw [hm']; exact ha.2⟩, ⟨u, rfl, hv⟩, hk'⟩
        rw [undefs_eq, lenN_eq]
        exact VRL.replicate_undef _ _ (by rw [hl])
    · rw [if_neg (by rw [hw]; simp)]
      rw [setD_eq] at hperf
      exact ⟨fun f _ => fen_fn E0 f, hgo E h (.tup []) undef w (Ext.refl E) rfl hr (VR.dead E) (hpp.drop o) hperf⟩

end Go.Abs
