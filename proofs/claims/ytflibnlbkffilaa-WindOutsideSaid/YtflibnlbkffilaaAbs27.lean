/- Pieces of memory that are let go at a loop's round; values that are said more weakly. No condition: definitions and lemmas. -/
import Derived.Test.YtflibnlbkffilaaAbs26
set_option linter.unusedSimpArgs false
set_option linter.unusedVariables false
set_option linter.deprecated false
namespace Go.Abs
open Go.RowKit
variable {S : Seat}

mutual
def Ids (p : Nat → Prop) : AV → Prop
  | .ptr i _ => p i
  | .row i _ _ _ => p i
  | .cb i => p i
  | .mapp i => p i
  | .vec cs _ g => (∀ i, g = some i → p i) ∧ IdsL p cs
  | .iptr cs => IdsL p cs
  | .fn _ a b => IdsL p a ∧ IdsL p b
  | .ifc _ v => Ids p v
  | .agg cs => IdsL p cs
  | .tup cs => IdsL p cs
  | .undef => True
  | .bool _ => True
  | .int _ _ => True
  | .str _ => True
  | .nilp => True
  | .nils => True
  | .nilf => True
  | .nili => True
  | .nilm => True
def IdsL (p : Nat → Prop) : List AV → Prop
  | [] => True
  | c :: cs => Ids p c ∧ IdsL p cs
end
theorem IdsL_iff {p : Nat → Prop} : ∀ {cs : List AV}, IdsL p cs ↔ ∀ c ∈ cs, Ids p c
  | [] => by simp [IdsL]
  | c :: cs => by simp [IdsL, IdsL_iff (cs := cs)]
theorem IdsL.append {p : Nat → Prop} {a b : List AV} (h : IdsL p a) (k : IdsL p b) : IdsL p (a ++ b) :=
  IdsL_iff.2 fun c hc => (List.mem_append.1 hc).elim (IdsL_iff.1 h c) (IdsL_iff.1 k c)
mutual
theorem Closed.ids {p : Nat → Prop} : ∀ (a : AV), Closed a → Ids p a
  | .undef, _ => by simp only [Ids]
  | .bool _, _ => by simp only [Ids]
  | .int _ _, _ => by simp only [Ids]
  | .str _, _ => by simp only [Ids]
  | .nilp, _ => by simp only [Ids]
  | .ptr i o, h => by simp only [Closed] at h
  | .iptr cs, h => by simp only [Closed] at h; simp only [Ids]; exact ClosedL.ids cs h
  | .nils, _ => by simp only [Ids]
  | .vec cs len g, h => by
    simp only [Closed] at h; simp only [Ids]
    exact ⟨fun i hi => (by rw [h.1] at hi; cases hi), ClosedL.ids cs h.2⟩
  | .row i o len cap, h => by simp only [Closed] at h
  | .nilf, _ => by simp only [Ids]
  | .fn f a b, h => by simp only [Closed] at h; simp only [Ids]; exact ⟨ClosedL.ids a h.1, ClosedL.ids b h.2⟩
  | .cb i, h => by simp only [Closed] at h
  | .nili, _ => by simp only [Ids]
  | .ifc t v, h => by simp only [Closed] at h; simp only [Ids]; exact Closed.ids v h
  | .agg cs, h => by simp only [Closed] at h; simp only [Ids]; exact ClosedL.ids cs h
  | .tup cs, h => by simp only [Closed] at h; simp only [Ids]; exact ClosedL.ids cs h
  | .mapp i, h => by simp only [Closed] at h
  | .nilm, _ => by simp only [Ids]
theorem ClosedL.ids {p : Nat → Prop} : ∀ (cs : List AV), ClosedL cs → IdsL p cs
  | [], _ => by simp only [IdsL]
  | c :: cs, h => by simp only [ClosedL] at h; simp only [IdsL]; exact ⟨Closed.ids c h.1, ClosedL.ids cs h.2⟩
end

/-- two environments know the same of these pieces -/
structure SameOn (p : Nat → Prop) (E E' : Env) : Prop where
  blk : ∀ i, p i → E'.blk i = E.blk i
  tok : ∀ i, p i → E'.tok i = E.tok i
  cbv : ∀ i, p i → E'.cbv i = E.cbv i
  imm : ImmLe E E'

mutual
theorem Ids.VR {p : Nat → Prop} {E E' : Env} (h : SameOn p E E') : ∀ (a : AV) (v : Value), Ids p a → Abs.VR E a v → Abs.VR E' a v
  | .undef, _, hc, hv => by simp only [Abs.VR]
  | .bool b, v, hc, hv => by simpa only [Abs.VR] using hv
  | .int k n, v, hc, hv => by simpa only [Abs.VR] using hv
  | .str s, v, hc, hv => by simpa only [Abs.VR] using hv
  | .nilp, v, hc, hv => by simpa only [Abs.VR] using hv
  | .ptr i o, v, hc, hv => by
    simp only [Ids] at hc; simp only [Abs.VR] at hv ⊢
    rw [h.blk i hc]; exact hv
  | .iptr cs, v, hc, hv => by
    simp only [Ids] at hc
    simp only [Abs.VR] at hv ⊢
    obtain ⟨b, o, e, hi⟩ := hv
    exact ⟨b, o, e, Ids.VRI h cs b o hc hi⟩
  | .nils, v, hc, hv => by simpa only [Abs.VR] using hv
  | .vec cs len g, v, hc, hv => by
    simp only [Ids] at hc
    simp only [Abs.VR] at hv ⊢
    obtain ⟨a, cap, e, hcp, hi, ht⟩ := hv
    refine ⟨a, cap, e, hcp, ?_, fun i hi => ?_⟩
    · rcases hi with hi | ⟨b, o, ha, hi⟩
      · exact .inl hi
      · exact .inr ⟨b, o, ha, Ids.VRI h cs b o hc.2 hi⟩
    · rw [h.tok i (hc.1 i hi)]; exact ht i hi
  | .row i o len cap, v, hc, hv => by
    simp only [Ids] at hc; simp only [Abs.VR] at hv ⊢
    rw [h.blk i hc]; exact hv
  | .nilf, v, hc, hv => by simpa only [Abs.VR] using hv
  | .fn f first caps, v, hc, hv => by
    simp only [Ids] at hc
    simp only [Abs.VR] at hv ⊢
    obtain ⟨us, ws, e, h1, h2⟩ := hv
    exact ⟨us, ws, e, Ids.VRL h first us hc.1 h1, Ids.VRL h caps ws hc.2 h2⟩
  | .cb i, v, hc, hv => by
    simp only [Ids] at hc; simp only [Abs.VR] at hv ⊢
    rw [h.cbv i hc]; exact hv
  | .nili, v, hc, hv => by simpa only [Abs.VR] using hv
  | .ifc t x, v, hc, hv => by
    simp only [Ids] at hc
    simp only [Abs.VR] at hv ⊢
    obtain ⟨u, e, hu⟩ := hv
    exact ⟨u, e, Ids.VR h x u hc hu⟩
  | .agg cs, v, hc, hv => by
    simp only [Ids] at hc
    simp only [Abs.VR] at hv ⊢
    obtain ⟨us, e, hu⟩ := hv
    exact ⟨us, e, Ids.VRL h cs us hc hu⟩
  | .tup cs, v, hc, hv => by
    simp only [Ids] at hc
    simp only [Abs.VR] at hv ⊢
    obtain ⟨us, e, hu⟩ := hv
    exact ⟨us, e, Ids.VRL h cs us hc hu⟩
  | .mapp i, v, hc, hv => by
    simp only [Ids] at hc; simp only [Abs.VR] at hv ⊢
    rw [h.blk i hc]; exact hv
  | .nilm, v, hc, hv => by simpa only [Abs.VR] using hv
theorem Ids.VRI {p : Nat → Prop} {E E' : Env} (h : SameOn p E E') : ∀ (cs : List AV) (b o : Nat), IdsL p cs → Abs.VRI E cs b o → Abs.VRI E' cs b o
  | [], b, o, _, _ => by simp only [Abs.VRI]
  | c :: cs, b, o, hc, hv => by
    simp only [IdsL] at hc
    simp only [Abs.VRI] at hv ⊢
    obtain ⟨⟨u, e, hu⟩, hr⟩ := hv
    exact ⟨⟨u, h.imm b o u e, Ids.VR h c u hc.1 hu⟩, Ids.VRI h cs b (o + 1) hc.2 hr⟩
theorem Ids.VRL {p : Nat → Prop} {E E' : Env} (h : SameOn p E E') : ∀ (cs : List AV) (us : List Value), IdsL p cs → Abs.VRL E cs us → Abs.VRL E' cs us
  | [], us, _, hv => by simpa only [Abs.VRL] using hv
  | c :: cs, us, hc, hv => by
    simp only [IdsL] at hc
    simp only [Abs.VRL] at hv ⊢
    obtain ⟨u, us', e, hu, hr⟩ := hv
    exact ⟨u, us', e, Ids.VR h c u hc.1 hu, Ids.VRL h cs us' hc.2 hr⟩
end

/-- Pieces from number n on are forgotten. -/
def Env.forget (E : Env) (n : Nat) : Env := { E with blk := fun i => if i < n then E.blk i else none, tok := fun i => if i < n then E.tok i else none, cbv := fun i => if i < n then E.cbv i else none }
theorem SameOn.forget (E : Env) (n : Nat) : SameOn (· < n) E (E.forget n) := ⟨fun i hi => if_pos hi, fun i hi => if_pos hi, fun i hi => if_pos hi, fun _ _ _ h => h⟩

def IdsC (p : Nat → Prop) : Chunk → Prop
  | .var cs _ => IdsL p cs
  | .ro cs => IdsL p cs
  | .tok _ _ _ => True
  | .cb _ _ => True
  | .dead => True
  | .unborn => True
def IdsH (p : Nat → Prop) : Heap → Prop
  | [] => True
  | c :: h => IdsC p c ∧ IdsH p h
theorem IdsH.get {p : Nat → Prop} : ∀ {h : Heap}, IdsH p h → ∀ (i : Nat) c, h[i]? = some c → IdsC p c
  | [], _, i, c, hc => by simp at hc
  | d :: h, hh, i, c, hc => by
    cases i with
    | zero => simp at hc; subst hc; exact hh.1
    | succ i => simp at hc; exact IdsH.get hh.2 i c hc

/-- the first n pieces -/
def takeH : Nat → Heap → Heap
  | 0, _ => []
  | _ + 1, [] => []
  | n + 1, c :: h => c :: takeH n h
theorem takeH_eq : ∀ (n : Nat) (h : Heap), takeH n h = h.take n
  | 0, h => by simp [takeH]
  | n + 1, [] => rfl
  | n + 1, c :: h => by simp [takeH, takeH_eq n h]

theorem R.forget (hG : GOK S) {E : Env} {h : Heap} {w : World} (hr : R S E h w) (n : Nat) (hb : IdsH (· < n) (takeH n h)) : R S (E.forget n) (takeH n h) w := by
  have hs := SameOn.forget E n
  have hget : ∀ (i : Nat) c, (takeH n h)[i]? = some c → i < n ∧ h[i]? = some c := by
    intro i c hc
    rw [takeH_eq, List.getElem?_take] at hc
    split at hc
    · exact ⟨by assumption, hc⟩
    · cases hc
  have oc : ∀ (i : Nat) c b, i < n → (ownsC (E.forget n) i c b ↔ ownsC E i c b) := fun i c b hi => ownsC_congr (hs.blk i hi) (hs.tok i hi) rfl c b
  refine ⟨⟨fun i c hc => ?_, fun g cs hg => ?_, fun i hi => ?_, fun i c b hc ho => ?_, fun i j c d b hc hd h1 h2 => ?_, hr.r0.imm, fun l hl => ⟨(hr.r0.rnd l hl).1, fun i c hc ho => ?_⟩, fun D hD => ⟨(hr.r0.mks D hD).1, (hr.r0.mks D hD).2.1, fun i c hc ho => ?_⟩⟩,
    ⟨hr.kp.same, fun i c b hc ho => ?_, hr.kp.size, hr.kp.klt, hr.kp.s3⟩⟩
  · obtain ⟨hi, hc'⟩ := hget i c hc
    have hcr := hr.r0.ch i c hc'
    have hid := hb.get i c hc
    cases c with
    | var cs t =>
      obtain ⟨b, us, h1, h2, h3, h4, h5⟩ := hcr
      exact ⟨b, us, by rw [hs.blk i hi]; exact h1, h2, Ids.VRL hs cs us hid h3, h4, by rw [hs.tok i hi]; exact h5⟩
    | ro cs =>
      obtain ⟨b, h1, h2⟩ := hcr
      exact ⟨b, by rw [hs.blk i hi]; exact h1, Ids.VRI hs cs b 0 hid h2⟩
    | tok F t sz =>
      obtain ⟨v, xs, h1, h2, h3⟩ := hcr
      exact ⟨v, xs, by rw [hs.tok i hi]; exact h1, h2, h3⟩
    | cb seen st =>
      obtain ⟨fv, h1, h2, h3⟩ := hcr
      exact ⟨fv, by rw [hs.cbv i hi]; exact h1, h2, h3⟩
    | dead => exact trivial
    | unborn => exact ⟨by rw [hs.blk i hi]; exact hcr.1, by rw [hs.tok i hi]; exact hcr.2.1, by rw [hs.cbv i hi]; exact hcr.2.2⟩
  · exact Ids.VRI hs cs g 0 (ClosedL.ids cs (hG.glob g cs hg)) (hr.r0.glob g cs hg)
  · rw [takeH_eq, List.getElem?_take] at hi
    split at hi
    · rename_i hlt
      obtain ⟨a, b, c⟩ := hr.r0.non i hi
      exact ⟨by rw [hs.blk i hlt]; exact a, by rw [hs.tok i hlt]; exact b, by rw [hs.cbv i hlt]; exact c⟩
    · rename_i hge
      exact ⟨if_neg hge, if_neg hge, if_neg hge⟩
  · obtain ⟨hi, hc'⟩ := hget i c hc
    exact hr.r0.lt i c b hc' ((oc i c b hi).1 ho)
  · obtain ⟨hi, hc'⟩ := hget i c hc
    obtain ⟨hj, hd'⟩ := hget j d hd
    exact hr.r0.disj i j c d b hc' hd' ((oc i c b hi).1 h1) ((oc j d b hj).1 h2)
  · obtain ⟨hi, hc'⟩ := hget i c hc
    exact (hr.r0.rnd l hl).2 i c hc' ((oc i c l hi).1 ho)
  · obtain ⟨hi, hc'⟩ := hget i c hc
    exact (hr.r0.mks D hD).2.2 i c hc' ((oc i c D hi).1 ho)
  · obtain ⟨hi, hc'⟩ := hget i c hc
    exact hr.kp.keep i c b hc' ((oc i c b hi).1 ho)

theorem Ext.forget {E E' : Env} (hx : Ext E E') {n : Nat} (hn : ∀ i, n ≤ i → E.blk i = none ∧ E.tok i = none ∧ E.cbv i = none) : Ext E (E'.forget n) where
  blk i b h := by
    have hi : i < n := Nat.lt_of_not_le fun hge => by rw [(hn i hge).1] at h; cases h
    exact (if_pos hi).trans (hx.blk i b h)
  tok i F v h := by
    have hi : i < n := Nat.lt_of_not_le fun hge => by rw [(hn i hge).2.1] at h; cases h
    obtain ⟨F', v', h1, h2⟩ := hx.tok i F v h
    exact ⟨F', v', (if_pos hi).trans h1, h2⟩
  cbv i v h := by
    have hi : i < n := Nat.lt_of_not_le fun hge => by rw [(hn i hge).2.2] at h; cases h
    exact ⟨(if_pos hi).trans (hx.cbv i v h).1, (hx.cbv i v h).2⟩
  imm := hx.imm
  new := hx.new
  keep := hx.keep
  base := hx.base
  rnd := hx.rnd

/-- **A loop with a condition held**: of the temporaries those that are not named, of memory what was made in the round, is let go. -/
theorem Sat.invN (hS : SeatOK S) (hG : GOK S) {b : Code} {t : List AV} {h : Heap} {k : ExK} {ι : Type} (m : List Bool) (n : Nat) (T : ι → List AV) (H : ι → Heap) (C : ι → Prop) (μ : ι → Nat) (i0 : ι) (h0 : C i0) (ht : WeakL (keepT m t) (T i0)) (hh : h = H i0) (hn : ∀ i, C i → (H i).length = n)
    (round : ∀ i, C i → codeR S b (T i) (H i) (fun x t' h' => match x with
      | .normal => ∃ i', C i' ∧ μ i' < μ i ∧ WeakL (keepT m t') (T i') ∧ IdsL (· < n) (T i') ∧ takeH n h' = H i' ∧ IdsH (· < n) (H i')
      | .exit j => k (.exit j) t' h'
      | .goto j => k (.goto j) t' h'
      | .ret => k .ret t' h'
      | .pan v => k (.pan v) t' h')) : Sat S (.loop b) t h k := by
  refine Sat.weak (keepT_weak m t) (Sat.weak ht ?_)
  refine Sat.loop (ι := ι) (fun i t h => C i ∧ t = T i ∧ h = H i) μ i0 ⟨h0, rfl, hh⟩ fun i t h hi => ?_
  obtain ⟨hc, rfl, rfl⟩ := hi
  have := (codeR_sound hS b _ _ _ (round i hc))
  refine ⟨fun E w a hr ha => wpIn_mono (this.out E w a hr ha) ?_⟩
  rintro e a' w' ⟨E', t', h', z, h1, h2, h3, h4, h5⟩
  cases z with
  | normal =>
    obtain ⟨i', g1, g2, g3, g4, g5, g6⟩ := h5
    have hbase : ∀ j, n ≤ j → E.blk j = none ∧ E.tok j = none ∧ E.cbv j = none := fun j hj => hr.r0.non j (List.getElem?_eq_none (by rw [hn i hc]; exact hj))
    refine ⟨E'.forget n, T i', takeH n h', .normal, h1.forget hbase, h2.forget hG n (by rw [g5]; exact g6), ⟨?_, h3.2⟩, h4, i', g2, g1, rfl, g5⟩
    exact Ids.VRL (SameOn.forget E' n) _ _ g4 (WeakL.run g3 (WeakL.run (keepT_weak m t') h3.1))
  | exit _ => exact ⟨E', t', h', _, h1, h2, h3, h4, h5⟩
  | goto _ => exact ⟨E', t', h', _, h1, h2, h3, h4, h5⟩
  | ret => exact ⟨E', t', h', _, h1, h2, h3, h4, h5⟩
  | pan _ => exact ⟨E', t', h', _, h1, h2, h3, h4, h5⟩

/-- The same, the condition as a relation; its first argument gets less. -/
theorem Sat.invP (hS : SeatOK S) (hG : GOK S) {b : Code} {t : List AV} {h : Heap} {k : ExK} (m : List Bool) (n : Nat) (I : Nat → List AV → Heap → Prop) (hn : ∀ μ t h, I μ t h → h.length = n ∧ IdsL (· < n) t ∧ IdsH (· < n) h) (h0 : ∃ μ t', WeakL (keepT m t) t' ∧ I μ t' h)
    (round : ∀ μ t h, I μ t h → codeR S b t h (fun x t' h' => match x with
      | .normal => ∃ μ' t2, μ' < μ ∧ WeakL (keepT m t') t2 ∧ I μ' t2 (takeH n h')
      | .exit j => k (.exit j) t' h'
      | .goto j => k (.goto j) t' h'
      | .ret => k .ret t' h'
      | .pan v => k (.pan v) t' h')) : Sat S (.loop b) t h k := by
  obtain ⟨μ0, t0, hw, hI⟩ := h0
  refine Sat.weak (keepT_weak m t) (Sat.weak hw ?_)
  refine Sat.loop (ι := Nat) I id μ0 hI fun μ t h hi => ?_
  have := (codeR_sound hS b _ _ _ (round μ t h hi))
  refine ⟨fun E w a hr ha => wpIn_mono (this.out E w a hr ha) ?_⟩
  rintro e a' w' ⟨E', t', h', z, h1, h2, h3, h4, h5⟩
  cases z with
  | normal =>
    obtain ⟨μ', t2, g1, g2, g3⟩ := h5
    obtain ⟨q1, q2, q3⟩ := hn _ _ _ g3
    have hbase : ∀ j, n ≤ j → E.blk j = none ∧ E.tok j = none ∧ E.cbv j = none := fun j hj => hr.r0.non j (List.getElem?_eq_none (by rw [(hn _ _ _ hi).1]; exact hj))
    refine ⟨E'.forget n, t2, takeH n h', .normal, h1.forget hbase, h2.forget hG n q3, ⟨?_, h3.2⟩, h4, μ', g1, g3⟩
    exact Ids.VRL (SameOn.forget E' n) _ _ q2 (WeakL.run g2 (WeakL.run (keepT_weak m t') h3.1))
  | exit _ => exact ⟨E', t', h', _, h1, h2, h3, h4, h5⟩
  | goto _ => exact ⟨E', t', h', _, h1, h2, h3, h4, h5⟩
  | ret => exact ⟨E', t', h', _, h1, h2, h3, h4, h5⟩
  | pan _ => exact ⟨E', t', h', _, h1, h2, h3, h4, h5⟩

/-- What comes behind is looked at apart: only what is said of the temporaries counts there. -/
theorem Sat.cut {c : Code} {t : List AV} {h : Heap} {k : ExK} (P : ExK) (h1 : Sat S c t h (fun x t h => ∃ t2, WeakL t t2 ∧ P x t2 h)) (h2 : ∀ x t h, P x t h → k x t h) : Sat S c t h k := by
  refine ⟨fun E w a hr ha => wpIn_mono (h1.out E w a hr ha) ?_⟩
  rintro e a' w' ⟨E', t', h', z, g1, g2, g3, g4, t2, g5, g6⟩
  exact ⟨E', t2, h', z, g1, g2, ⟨WeakL.run g5 g3.1, g3.2⟩, g4, h2 _ _ _ g6⟩

/-! ### Values said more weakly -/
theorem Weak.nils : Weak .nils (.vec [] 0 none) := fun _ _ h => by
  simp only [VR] at h ⊢
  exact ⟨none, 0, h, Nat.le_refl _, by simp, fun i hi => nomatch hi⟩
theorem WeakL.nil : WeakL [] [] := trivial
theorem WeakL.cons {v v' : AV} {l l' : List AV} (h : Weak v v') (hs : WeakL l l') : WeakL (v :: l) (v' :: l') := ⟨h, hs⟩
theorem WeakL.refl : ∀ (l : List AV), WeakL l l
  | [] => trivial
  | v :: l => ⟨Weak.refl v, WeakL.refl l⟩
theorem WeakL.of_eq {l l' : List AV} (h : l = l') : WeakL l l' := h ▸ WeakL.refl l
theorem Weak.agg {cs cs' : List AV} (h : WeakL cs cs') : Weak (.agg cs) (.agg cs') := fun _ _ hv => by
  simp only [VR] at hv ⊢
  obtain ⟨us, e, hu⟩ := hv
  exact ⟨us, e, WeakL.run h hu⟩
theorem Weak.tup {cs cs' : List AV} (h : WeakL cs cs') : Weak (.tup cs) (.tup cs') := fun _ _ hv => by
  simp only [VR] at hv ⊢
  obtain ⟨us, e, hu⟩ := hv
  exact ⟨us, e, WeakL.run h hu⟩
theorem Weak.trans {a b c : AV} (h : Weak a b) (k : Weak b c) : Weak a c := fun E u hv => k E u (h E u hv)

theorem CallH.weakA {f : Nat} {args args' : List AV} {h : Heap} {k : AEnd → Heap → Prop} (hw : WeakL args args') (hc : CallH S f args' h k) : CallH S f args h k :=
  ⟨fun E w us hm hn hr ha => hc.out E w us hm hn hr (WeakL.run hw ha)⟩
theorem ACalls.weakR {f : Nat} {args : List AV} {h : Heap} {Q : AEnd → Heap → Prop} (hc : ACalls S f args h (fun r h' => (∃ v v', r = .ret v ∧ Weak v v' ∧ Q (.ret v') h') ∨ (∃ v, r = .pan v ∧ Q r h'))) : ACalls S f args h Q :=
  fun E w us hm hn hr ha => (hc E w us hm hn hr ha).mono fun e w' ⟨E', h', r, h1, h2, h3, h4, h5⟩ => by
    rcases h5 with ⟨v, v', rfl, hw, hq⟩ | ⟨v, rfl, hq⟩
    · obtain ⟨u, rfl, hu⟩ := h4
      exact ⟨E', h', .ret v', h1, h2, h3, ⟨u, rfl, hw _ _ hu⟩, hq⟩
    · exact ⟨E', h', .pan v, h1, h2, h3, h4, hq⟩
theorem CallH.weakR {f : Nat} {args : List AV} {h : Heap} {k : AEnd → Heap → Prop} (hc : CallH S f args h (fun r h' => (∃ v v', r = .ret v ∧ Weak v v' ∧ k (.ret v') h') ∨ (∃ v, r = .pan v ∧ k r h'))) : CallH S f args h k := ⟨ACalls.weakR hc.out⟩

end Go.Abs
