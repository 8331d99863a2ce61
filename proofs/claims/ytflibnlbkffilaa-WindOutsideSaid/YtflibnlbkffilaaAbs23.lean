/- A plan for a region whose order is open: its evaluation covers every order. No condition: lemmas. -/
import Derived.Test.YtflibnlbkffilaaAbs22
set_option linter.unusedSimpArgs false
set_option linter.unusedVariables false
set_option linter.deprecated false
namespace Go.Abs
open Go.RowKit
variable {S : Seat}

/-- what is written by those that are not performed -/
def dstIn (ops : List Oper) (V : List Nat) (d : Nat) : Bool := V.any fun p => match ops[p]? with | some o => o.dst == some d | none => false
def vis (ops : List Oper) (V : List Nat) (d : Nat) : Bool := !dstIn ops V d
theorem vis_iff {ops : List Oper} {V : List Nat} {d : Nat} : vis ops V d = true ↔ ∀ p ∈ V, ∀ o, ops[p]? = some o → o.dst ≠ some d := by
  unfold vis dstIn
  simp only [Bool.not_eq_true', List.any_eq_false]
  constructor
  · intro h p hp o ho e
    have := h p hp
    simp [ho, e] at this
  · intro h p hp
    cases ho : ops[p]? with
    | none => simp
    | some o => simpa using h p hp o ho

def binds (e : Edge) : Bool := Region.binds .any e
theorem waits_iff {o : Oper} {i : Nat} : waits o i = true ↔ ∃ e ∈ o.after, binds e = true ∧ e.on = i := by
  unfold waits binds
  simp only [List.any_eq_true, Array.mem_toList_iff, Bool.and_eq_true, Nat.beq_eq]

/-- What the check says of the operations that are performed or taken (L) and taken (U, the last one first). -/
structure InvS (S : Seat) (ops : List Oper) (L U : List Nat) : Prop where
  lt : ∀ j ∈ L, j < ops.length
  inL : ∀ q ∈ U, q ∈ L
  free : ∀ q ∈ U, ∀ oq, ops[q]? = some oq → ∀ (j : Nat) oj, ops[j]? = some oj → j ∉ L → waits oj q = true ∨ oq.apart ops.toArray oj = true
  deps : ∀ q ∈ U, ∀ oq, ops[q]? = some oq → ∀ i, waits oq i = true → i ∈ L
  pair : U.Pairwise fun p q => p ≠ q ∧ ∀ op oq, ops[p]? = some op → ops[q]? = some oq → waits oq p = false ∧ (waits op q = true ∨ oq.apart ops.toArray op = true) ∧ ∀ d, op.dst = some d → looks ops oq d = false ∧ oq.dst ≠ some d
  self : ∀ q ∈ U, ∀ oq, ops[q]? = some oq → waits oq q = false ∧ ∀ d, oq.dst = some d → looks ops oq d = false

/-- what those that are taken promise, at these temporaries -/
def pendOK (S : Seat) (ops : List Oper) (t : List AV) : List Pend → List Nat → Prop
  | [], U => U = []
  | p :: r, U => ∃ U' o, U = p.i :: U' ∧ ops[p.i]? = some o ∧ (∀ h, snapP h p.snap → Prom S ops o (vOf o t) t h) ∧ pendOK S ops t r U'

/-- Where the machine stands: V are taken and not performed. -/
structure Dyn (ops : List Oper) (L U V todo : List Nat) (listed : Array Bool) : Prop where
  sub : V.Sublist U
  nd : todo.Nodup
  sz : listed.size = ops.length
  mem : ∀ j, listed.getD j true = false ↔ j ∈ todo
  ch : ∀ j, j ∈ todo ↔ j < ops.length ∧ (j ∉ L ∨ j ∈ V)

theorem Dyn.listed {ops : List Oper} {L U V todo : List Nat} {listed : Array Bool} (hd : Dyn ops L U V todo listed) {j : Nat} (hj : j < ops.length) (hn : j ∉ todo) : listed.getD j false = true := by
  have hlt : j < listed.size := by rw [hd.sz]; exact hj
  cases hb : listed.getD j true with
  | false => exact absurd ((hd.mem j).1 hb) hn
  | true => simpa [hlt] using hb
theorem Dyn.notTodo {ops : List Oper} {L U V todo : List Nat} {listed : Array Bool} (hd : Dyn ops L U V todo listed) {j : Nat} (hj : listed.getD j false = true) : j ∉ todo := by
  intro hm
  have := (hd.mem j).2 hm
  rcases Nat.lt_or_ge j listed.size with h | h
  · simp [h] at this hj; rw [hj] at this; cases this
  · simp [Array.getElem?_eq_none h] at this

/-- Of those taken and not performed, the one taken first may come up. -/
theorem last_ready {ops : List Oper} {L U V todo : List Nat} {listed : Array Bool} (hi : InvS S ops L U) (hd : Dyn ops L U V todo listed) (hV : V ≠ []) (hex : ∀ q ∈ U, ∃ o, ops[q]? = some o) :
    Region.ready .any ops.toArray listed ≠ [] := by
  obtain ⟨V', p, rfl⟩ : ∃ V' p, V = V' ++ [p] := ⟨V.dropLast, V.getLast hV, (List.dropLast_concat_getLast hV).symm⟩
  have hpV : p ∈ V' ++ [p] := by simp
  have hpU := hd.sub.subset hpV
  obtain ⟨op, hop⟩ := hex p hpU
  have hplt : p < ops.length := (List.getElem?_eq_some_iff.1 hop).1
  have hptodo : p ∈ todo := (hd.ch p).2 ⟨hplt, .inr hpV⟩
  have hmem : p ∈ Region.ready .any ops.toArray listed := by
    rw [mem_ready]
    refine ⟨(hd.mem p).2 hptodo, op, by simpa using hop, fun e he hb => ?_⟩
    have hw : waits op e.on = true := waits_iff.2 ⟨e, he, hb, rfl⟩
    have hL := hi.deps p hpU op hop _ hw
    have hlt := hi.lt _ hL
    refine hd.listed hlt fun ht => ?_
    rcases ((hd.ch _).1 ht).2 with h | h
    · exact h hL
    · obtain ⟨oe, hoe⟩ := hex _ (hd.sub.subset h)
      rcases List.mem_append.1 h with h | h
      · have hpw := hi.pair.sublist hd.sub
        have := (List.pairwise_append.1 hpw).2.2 _ h p (by simp)
        rw [(this.2 oe op hoe hop).1] at hw; cases hw
      · have he : e.on = p := by simpa using h
        rw [he, (hi.self p hpU op hop).1] at hw; cases hw
  intro h0; rw [h0] at hmem; cases hmem

theorem pendOK.ex {ops : List Oper} {t : List AV} : ∀ {pend : List Pend} {U : List Nat}, pendOK S ops t pend U → ∀ q ∈ U, ∃ o, ops[q]? = some o
  | [], U, h, q, hq => by simp only [pendOK] at h; subst h; cases hq
  | p :: r, U, h, q, hq => by
    obtain ⟨U', o, rfl, ho, _, hr⟩ := h
    rcases List.mem_cons.1 hq with rfl | hq
    · exact ⟨o, ho⟩
    · exact pendOK.ex hr q hq

theorem pendOK.get {ops : List Oper} {t : List AV} {h : Heap} : ∀ {pend : List Pend} {U : List Nat}, pendOK S ops t pend U → pendP h pend → ∀ q ∈ U, ∀ o, ops[q]? = some o → Prom S ops o (vOf o t) t h
  | [], U, hk, _, q, hq => by simp only [pendOK] at hk; subst hk; cases hq
  | p :: r, U, hk, hp, q, hq => by
    obtain ⟨U', o, rfl, ho, hpr, hr⟩ := hk
    intro o' ho'
    rcases List.mem_cons.1 hq with rfl | hq
    · rw [ho] at ho'; cases ho'
      exact hpr h hp.1
    · exact pendOK.get hr hp.2 q hq o' ho'

theorem Prom.set {ops : List Oper} {o : Oper} {v : AV} {t : List AV} {h : Heap} {d : Nat} {u : AV} (hp : Prom S ops o v t h) (hd : looks ops o d = false) : Prom S ops o v (t.set d u) h := fun E w a hr ha =>
  hp E w a hr (by rw [maskT_set_out hd] at ha; exact ha)

theorem vOf_set {o : Oper} {t : List AV} {d : Nat} {u : AV} (hd : o.dst ≠ some d) : vOf o (t.set d u) = vOf o t := by
  unfold vOf
  cases h : o.dst with
  | none => rfl
  | some e =>
    have : d ≠ e := fun x => hd (by rw [h, x])
    simp only [getT_eq, List.getElem?_set_ne this]

theorem pendOK.set {ops : List Oper} {t : List AV} {d : Nat} {u : AV} : ∀ {pend : List Pend} {U : List Nat}, pendOK S ops t pend U → (∀ q ∈ U, ∀ o, ops[q]? = some o → looks ops o d = false ∧ o.dst ≠ some d) → pendOK S ops (t.set d u) pend U
  | [], U, hk, _ => hk
  | p :: r, U, hk, hd => by
    obtain ⟨U', o, rfl, ho, hpr, hr⟩ := hk
    obtain ⟨h1, h2⟩ := hd p.i (by simp) o ho
    exact ⟨U', o, rfl, ho, fun h hs => by rw [vOf_set h2]; exact (hpr h hs).set h1, hr.set fun q hq => hd q (by simp [hq])⟩
theorem pendOK.setDst {ops : List Oper} {t : List AV} {dst : Option Nat} {u : AV} {pend : List Pend} {U : List Nat} (hk : pendOK S ops t pend U) (hd : ∀ d, dst = some d → ∀ q ∈ U, ∀ o, ops[q]? = some o → looks ops o d = false ∧ o.dst ≠ some d) : pendOK S ops (setDst t dst u) pend U := by
  cases dst with
  | none => exact hk
  | some d => exact hk.set (hd d rfl)

theorem pendOK.drop {ops : List Oper} {t : List AV} (o : Oper) : ∀ {pend : List Pend} {U : List Nat}, pendOK S ops t pend U → pendOK S ops t (dropP o pend) (U.filter fun j => !waits o j)
  | [], U, hk => by simp only [pendOK] at hk; subst hk; rfl
  | p :: r, U, hk => by
    obtain ⟨U', op, rfl, ho, hpr, hr⟩ := hk
    simp only [dropP]
    cases hw : waits o p.i with
    | true => simp only [List.filter_cons, hw, Bool.not_true, Bool.false_eq_true, if_false]; exact hr.drop o
    | false =>
      simp only [List.filter_cons, hw, Bool.not_false, if_true]
      exact ⟨_, op, rfl, ho, hpr, hr.drop o⟩
theorem pendP.drop {h : Heap} (o : Oper) : ∀ {pend : List Pend}, pendP h pend → pendP h (dropP o pend)
  | [], _ => trivial
  | p :: r, hk => by
    simp only [dropP]
    cases hw : waits o p.i with
    | true => exact hk.2.drop o
    | false => exact ⟨hk.1, hk.2.drop o⟩

theorem InvS.perform {ops : List Oper} {L U : List Nat} (hi : InvS S ops L U) {i : Nat} (hlt : i < ops.length) (o : Oper) : InvS S ops (i :: L) (U.filter fun j => !waits o j) where
  lt j hj := by rcases List.mem_cons.1 hj with rfl | hj; exact hlt; exact hi.lt j hj
  inL q hq := List.mem_cons_of_mem _ (hi.inL q (List.mem_filter.1 hq).1)
  free q hq oq ho j oj hj hn := hi.free q (List.mem_filter.1 hq).1 oq ho j oj hj (fun h => hn (List.mem_cons_of_mem _ h))
  deps q hq oq ho j hj := List.mem_cons_of_mem _ (hi.deps q (List.mem_filter.1 hq).1 oq ho j hj)
  pair := hi.pair.sublist List.filter_sublist
  self q hq := hi.self q (List.mem_filter.1 hq).1

theorem snapK_run {h : Heap} : ∀ (l : List Nat) (k : List (Nat × Chunk) → Prop), snapK h l k → ∃ sn, k sn ∧ snapP h sn ∧ ∀ h', snapP h' sn → ∀ i ∈ l, h'[i]? = h[i]?
  | [], k, hk => ⟨[], hk, trivial, fun _ _ i hi => nomatch hi⟩
  | i :: r, k, hk => by
    simp only [snapK] at hk
    split at hk
    · rename_i c hc
      obtain ⟨sn, h1, h2, h3⟩ := snapK_run r _ hk
      refine ⟨_, h1, ⟨hc, h2⟩, fun h' hs j hj => ?_⟩
      rcases List.mem_cons.1 hj with rfl | hj
      · have := hs.1; rw [getO_eq] at this hc; rw [this, hc]
      · exact h3 h' hs.2 j hj
    · exact hk.elim

end Go.Abs
