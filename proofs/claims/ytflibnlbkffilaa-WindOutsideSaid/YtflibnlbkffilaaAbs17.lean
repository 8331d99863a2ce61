/- Values that know of no piece of memory; a contract at no memory serves everywhere; a contract at the top. No condition: definitions and lemmas. -/
import Derived.Test.YtflibnlbkffilaaAbs16
import Derived.RowKit3
import Derived.ChangeSame
set_option linter.unusedSimpArgs false
set_option linter.unusedVariables false
set_option linter.deprecated false
namespace Go.Abs
open Go.RowKit
variable {S : Seat}

mutual
def Closed : AV → Prop
  | .ptr _ _ => False
  | .row _ _ _ _ => False
  | .cb _ => False
  | .mapp _ => False
  | .vec cs _ g => g = none ∧ ClosedL cs
  | .iptr cs => ClosedL cs
  | .fn _ a b => ClosedL a ∧ ClosedL b
  | .ifc _ v => Closed v
  | .agg cs => ClosedL cs
  | .tup cs => ClosedL cs
  | _ => True
def ClosedL : List AV → Prop
  | [] => True
  | c :: cs => Closed c ∧ ClosedL cs
end
theorem ClosedL_iff : ∀ {cs : List AV}, ClosedL cs ↔ ∀ c ∈ cs, Closed c
  | [] => by simp [ClosedL]
  | c :: cs => by simp [ClosedL, ClosedL_iff (cs := cs)]
theorem ClosedL.append {a b : List AV} (h : ClosedL a) (k : ClosedL b) : ClosedL (a ++ b) :=
  ClosedL_iff.2 fun c hc => (List.mem_append.1 hc).elim (ClosedL_iff.1 h c) (ClosedL_iff.1 k c)

/-- What closed values look at. -/
def ImmLe (E E' : Env) : Prop := ∀ b o u, E.imm b o = some u → E'.imm b o = some u

mutual
theorem Closed.VR {E E' : Env} (h : ImmLe E E') : ∀ (a : AV) (v : Value), Closed a → Abs.VR E a v → Abs.VR E' a v
  | .undef, _, hc, hv => by simp only [Abs.VR]
  | .bool b, v, hc, hv => by simpa only [Abs.VR] using hv
  | .int k n, v, hc, hv => by simpa only [Abs.VR] using hv
  | .str s, v, hc, hv => by simpa only [Abs.VR] using hv
  | .nilp, v, hc, hv => by simpa only [Abs.VR] using hv
  | .ptr i o, v, hc, hv => by simp only [Closed] at hc
  | .iptr cs, v, hc, hv => by
    simp only [Closed] at hc
    simp only [Abs.VR] at hv ⊢
    obtain ⟨b, o, e, hi⟩ := hv
    exact ⟨b, o, e, Closed.VRI h cs b o hc hi⟩
  | .nils, v, hc, hv => by simpa only [Abs.VR] using hv
  | .vec cs len g, v, hc, hv => by
    simp only [Closed] at hc
    obtain ⟨rfl, hc⟩ := hc
    simp only [Abs.VR] at hv ⊢
    obtain ⟨a, cap, e, hcp, hi, ht⟩ := hv
    refine ⟨a, cap, e, hcp, ?_, fun i hi => nomatch hi⟩
    rcases hi with hi | ⟨b, o, ha, hi⟩
    · exact .inl hi
    · exact .inr ⟨b, o, ha, Closed.VRI h cs b o hc hi⟩
  | .row i o len cap, v, hc, hv => by simp only [Closed] at hc
  | .nilf, v, hc, hv => by simpa only [Abs.VR] using hv
  | .fn f first caps, v, hc, hv => by
    simp only [Closed] at hc
    simp only [Abs.VR] at hv ⊢
    obtain ⟨us, ws, e, h1, h2⟩ := hv
    exact ⟨us, ws, e, Closed.VRL h first us hc.1 h1, Closed.VRL h caps ws hc.2 h2⟩
  | .cb i, v, hc, hv => by simp only [Closed] at hc
  | .nili, v, hc, hv => by simpa only [Abs.VR] using hv
  | .ifc t x, v, hc, hv => by
    simp only [Closed] at hc
    simp only [Abs.VR] at hv ⊢
    obtain ⟨u, e, hu⟩ := hv
    exact ⟨u, e, Closed.VR h x u hc hu⟩
  | .agg cs, v, hc, hv => by
    simp only [Closed] at hc
    simp only [Abs.VR] at hv ⊢
    obtain ⟨us, e, hu⟩ := hv
    exact ⟨us, e, Closed.VRL h cs us hc hu⟩
  | .tup cs, v, hc, hv => by
    simp only [Closed] at hc
    simp only [Abs.VR] at hv ⊢
    obtain ⟨us, e, hu⟩ := hv
    exact ⟨us, e, Closed.VRL h cs us hc hu⟩
  | .mapp i, v, hc, hv => by simp only [Closed] at hc
  | .nilm, v, hc, hv => by simpa only [Abs.VR] using hv
theorem Closed.VRI {E E' : Env} (h : ImmLe E E') : ∀ (cs : List AV) (b o : Nat), ClosedL cs → Abs.VRI E cs b o → Abs.VRI E' cs b o
  | [], b, o, _, _ => by simp only [Abs.VRI]
  | c :: cs, b, o, hc, hv => by
    simp only [ClosedL] at hc
    simp only [Abs.VRI] at hv ⊢
    obtain ⟨⟨u, e, hu⟩, hr⟩ := hv
    exact ⟨⟨u, h b o u e, Closed.VR h c u hc.1 hu⟩, Closed.VRI h cs b (o + 1) hc.2 hr⟩
theorem Closed.VRL {E E' : Env} (h : ImmLe E E') : ∀ (cs : List AV) (us : List Value), ClosedL cs → Abs.VRL E cs us → Abs.VRL E' cs us
  | [], us, _, hv => by simpa only [Abs.VRL] using hv
  | c :: cs, us, hc, hv => by
    simp only [ClosedL] at hc
    simp only [Abs.VRL] at hv ⊢
    obtain ⟨u, us', e, hu, hr⟩ := hv
    exact ⟨u, us', e, Closed.VR h c u hc.1 hu, Closed.VRL h cs us' hc.2 hr⟩
end

/-- the environment of one who knows of no memory but immutable cells, and keeps all -/
def Env.bare (imm : Imm) (w : World) : Env := { closedEnv imm with keep := fun b => b < w.heap.size, base := w }

structure GOK (S : Seat) : Prop where
  glob : ∀ g cs, S.G g = some cs → ClosedL cs

theorem R.bare {imm : Imm} {w : World} (hok : immOK imm w) (hg : ∀ g cs, S.G g = some cs → VRI (Env.bare imm w) cs g 0) : R S (Env.bare imm w) [] w :=
  ⟨⟨fun i c h => by simp at h, hg, fun i _ => ⟨rfl, rfl, rfl⟩, fun i c b h => by simp at h, fun i j c d b h => by simp at h, hok, fun l h => (by cases h), fun D h => (by cases h)⟩,
    ⟨fun _ _ => rfl, fun i c b h => by simp at h, Nat.le_refl _, fun _ h => h, Same3.refl w⟩⟩

/-- A contract at no memory, of closed values, serves at any memory. -/
theorem ACalls.lift (hG : GOK S) {f : Nat} {args : List AV} {Q : AEnd → Heap → Prop} (hc : ACalls S f args [] Q) (hcl : ClosedL args) {h : Heap} {k : AEnd → Heap → Prop}
    (hq : ∀ r h', Q r h' → (∃ v, r = .ret v ∧ Closed v ∧ k (.ret v) h) ∨ (∃ v, r = .pan v ∧ Closed v ∧ k (.pan v) h)) : ACalls S f args h k := by
  intro E w args' hm hrn hr ha
  have hle : ImmLe E (Env.bare E.imm w) := fun _ _ _ h => h
  have hR0 : R S (Env.bare E.imm w) [] w := R.bare hr.r0.imm fun g cs hg => Closed.VRI hle cs g 0 (hG.glob g cs hg) (hr.r0.glob g cs hg)
  refine (hc (Env.bare E.imm w) w args' rfl rfl hR0 (Closed.VRL hle _ _ hcl ha)).mono ?_
  rintro e w' ⟨E0, h0, r, hx, _, hR, he, hQ⟩
  have hkeep : ∀ b, b < w.heap.size → w'.heap[b]? = w.heap[b]? := fun b hb => by
    have := hR.kp.same b (by rw [hx.keep]; exact hb)
    rw [hx.base] at this; exact this
  have hsz : w.heap.size ≤ w'.heap.size := by have := hR.kp.size; rw [hx.base] at this; exact this
  have hs3 : Same3 w w' := by have := hR.kp.s3; rw [hx.base] at this; exact this
  have hap : Apart E h w E0.imm w' := ⟨fun i c b hi ho => hkeep b (hr.r0.lt i c b hi ho), fun i c b hi ho o => hx.new b o (hr.r0.lt i c b hi ho), hx.imm, hR.r0.imm, hsz, hs3, fun l hl => (by rw [hrn] at hl; cases hl), fun D hD => (by rw [hm] at hD; cases hD)⟩
  have hnew : R S (E.withImm E0.imm) h w' := ⟨hr.r0.apart hap, ⟨fun b hb => by
      have hlt : b < w.heap.size := Nat.lt_of_lt_of_le (hr.kp.klt b hb) hr.kp.size
      rw [hkeep b hlt]; exact hr.kp.same b hb, fun i c b hi ho => hr.kp.keep i c b hi (by rwa [ownsC_withImm] at ho), Nat.le_trans hr.kp.size hsz, hr.kp.klt, hr.kp.s3.trans hs3⟩⟩
  have hext : Ext E (E.withImm E0.imm) := ⟨fun _ _ h => h, fun _ F v h => ⟨F, v, h, .inr ⟨rfl, rfl⟩⟩, fun _ _ h => ⟨h, rfl⟩, hx.imm, fun b o hb => hx.new b o (Nat.lt_of_lt_of_le (hr.kp.klt b hb) hr.kp.size), rfl, rfl, rfl⟩
  have hle2 : ImmLe E0 (E.withImm E0.imm) := fun _ _ _ h => h
  rcases hq r h0 hQ with ⟨v, rfl, hcv, hk⟩ | ⟨v, rfl, hcv, hk⟩
  · obtain ⟨u, rfl, hu⟩ := he
    exact ⟨E.withImm E0.imm, h, .ret v, hext, hm, hnew, ⟨u, rfl, Closed.VR hle2 v u hcv hu⟩, hk⟩
  · obtain ⟨u, rfl, hu⟩ := he
    exact ⟨E.withImm E0.imm, h, .pan v, hext, hm, hnew, ⟨u, rfl, Closed.VR hle2 v u hcv hu⟩, hk⟩

theorem CallH.lift (hG : GOK S) {f : Nat} {args : List AV} {r : AV} (hc : ACalls S f args [] (fun x _ => x = .ret r)) (hcl : ClosedL args) (hcr : Closed r) {h : Heap} {k : AEnd → Heap → Prop} (hk : k (.ret r) h) : CallH S f args h k :=
  ⟨hc.lift hG hcl fun x _ hx => .inl ⟨r, hx, hcr, hk⟩⟩

/-- What a whole run leaves as it was: all that there was. -/
structure Kept (w w' : World) : Prop where
  same : ∀ b, b < w.heap.size → w'.heap[b]? = w.heap[b]?
  size : w.heap.size ≤ w'.heap.size
  s3 : Same3 w w'

theorem Kept.but {w w' : World} (h : Kept w w') (may : MemPlace → Prop) : w.keptBut w' may := by
  refine ⟨h.s3.os, h.s3.output, fun i hi => ?_⟩
  rw [h.same i hi]
  cases w.heap[i]? with
  | none => rfl
  | some o => cases o <;> simp

theorem ACalls.top {f : Nat} {args : List AV} {v : AV} {u : Value} (hc : ACalls S f args [] (fun r _ => r = .ret v)) (hv : ∀ E u', VR E v u' → u' = u) {fn : Func} {c : Code} (hf : S.P.funcs[f]? = some fn) (hb : fn.body = some c) (hn : (fn.name == "runtime.NumGoroutine") = false) {imm : Imm} {w : World} (hok : immOK imm w)
    (hg : ∀ g cs, S.G g = some cs → VRI (Env.bare imm w) cs g 0) {args' : List Value} (ha : VRL (Env.bare imm w) args args') :
    Calls S.P f args'.toArray w fun e w' => e = .returned u ∧ Kept w w' := by
  have hrun : (callFunc f args'.toArray).run S.P w = .ok (.enter f args'.toArray) w := by
    unfold callFunc
    simp only [beq_eq_false_iff_ne, ne_eq] at hn
    simp [Sem.run_bind, go_sem, hf, hn, hb]
  have hpost : ∀ (e : Ending) (w' : World), (∃ E' h' r, Ext (Env.bare imm w) E' ∧ E'.marks = [] ∧ R S E' h' w' ∧ EndR E' r e ∧ r = .ret v) → e = .returned u ∧ Kept w w' := by
    rintro e w' ⟨E', h', r, hx, _, hR, he, rfl⟩
    obtain ⟨u', rfl, hu⟩ := he
    rw [hv E' u' hu]
    refine ⟨rfl, fun b hb => ?_, ?_, ?_⟩
    · have := hR.kp.same b (by rw [hx.keep]; exact hb)
      rw [hx.base] at this; exact this
    · have := hR.kp.size; rw [hx.base] at this; exact this
    · have := hR.kp.s3; rw [hx.base] at this; exact this
  rcases hc (Env.bare imm w) w args' rfl rfl (R.bare hok hg) ha with ⟨h1, h2⟩ | ⟨v', w', h1, h2⟩
  · exact Calls.mono h2 hpost
  · rw [hrun] at h1; cases h1

end Go.Abs
