/- append is the machine's. No condition: lemmas. -/
import Derived.Test.YtflibnlbkffilaaAbs12
set_option linter.unusedSimpArgs false
set_option linter.unusedVariables false
set_option linter.deprecated false
namespace Go.Abs
open Go.RowKit
variable {S : Seat}

theorem VRI.values {E : Env} : ∀ {cs : List AV} {b o : Nat}, VRI E cs b o → ∃ us : List Value, VRL E cs us ∧ ∀ j u, us[j]? = some u → E.imm b (o + j) = some u
  | [], b, o, _ => ⟨[], VRL.nil, fun j u h => by simp at h⟩
  | c :: cs, b, o, h => by
    simp only [VRI] at h
    obtain ⟨⟨u, hu, hv⟩, hr⟩ := h
    obtain ⟨us, h1, h2⟩ := VRI.values hr
    refine ⟨u :: us, VRL.cons hv h1, fun j u' hj => ?_⟩
    cases j with
    | zero => simp at hj; subst hj; exact hu
    | succ j =>
      have := h2 j u' (by simpa using hj)
      rwa [show o + (j + 1) = o + 1 + j by omega]

theorem okCells_all {E : Env} : ∀ {cs : List AV} {us : List Value}, (∀ c ∈ cs, okCell c = true) → VRL E cs us → ∀ u ∈ us, u.oneCell' = true
  | [], us, _, hv, u, hu => by simp only [VRL] at hv; subst hv; cases hu
  | c :: cs, us, h, hv, u, hu => by
    simp only [VRL] at hv
    obtain ⟨u0, us', rfl, h0, hr⟩ := hv
    rcases List.mem_cons.1 hu with rfl | hu
    · exact okCell_one (h c (by simp)) h0
    · exact okCells_all (fun c hc => h c (by simp [hc])) hr u hu

/-- the same pieces, another token and more cells known -/
theorem Ext.tokUp {E : Env} {i F F' : Nat} {v v' : Value} {imm' : Imm} (h : E.tok i = some (F, v)) (hF : F < F') (hi : ∀ b o u, E.imm b o = some u → imm' b o = some u) (hk : ∀ b o, E.keep b → imm' b o = E.imm b o) : Ext E (E.withTok i F' v' imm') where
  blk j c hj := hj
  tok j F0 v0 hj := by
    by_cases e : j = i
    · subst e; rw [h] at hj; cases hj
      exact ⟨F', v', if_pos rfl, .inl hF⟩
    · exact ⟨F0, v0, (if_neg e).trans hj, .inr ⟨rfl, rfl⟩⟩
  cbv j v hj := ⟨hj, rfl⟩
  imm := hi
  new := hk
  keep := rfl
  base := rfl
  rnd := rfl

/-- A token moves on to a world in which its row has grown. -/
theorem R.grow {E : Env} {h : Heap} {w : World} (hr : R S E h w) {i F F' e sz : Nat} {v v' : Value} {xs : List Value} {w' : World} {imm' : Imm}
    (hext : Ext E (E.withTok i F' v' imm'))
    (hrow : w'.ownsRow 0 e sz v' F' xs) (himm : ∀ b, v'.ownBlock = some b → ∀ o u, imm' b o = some u → xs[o]? = some u)
    (hok : immOK imm' w') (hsz : w.heap.size ≤ w'.heap.size) (hs3 : Same3 w w')
    (hblk : ∀ b, b < w.heap.size → v'.ownBlock ≠ some b → w'.heap[b]? = w.heap[b]?)
    (himm2 : ∀ b, b < w.heap.size → v'.ownBlock ≠ some b → ∀ o, imm' b o = E.imm b o)
    (hown : ∀ b, v'.ownBlock = some b → b < w'.heap.size ∧ (w.heap.size ≤ b ∨ (h[i]? = some (.tok F e sz) ∧ E.tok i = some (F, v) ∧ v.ownBlock = some b))) :
    R S (E.withTok i F' v' imm') (put h i (.tok F' e sz)) w' := by
  have hlt : ∀ b, E.keep b → b < w.heap.size := fun b hk => Nat.lt_of_lt_of_le (hr.kp.klt b hk) hr.kp.size
  have hne : ∀ b, b < w.heap.size → (∀ c, h[i]? = some c → ¬ ownsC E i c b) → v'.ownBlock ≠ some b := by
    intro b hb hno e
    rcases (hown b e).2 with h1 | ⟨h1, h2, h3⟩
    · omega
    · exact hno _ h1 ⟨F, v, h2, h3⟩
  refine hr.step {
    v := hext.v
    blk := fun _ _ => rfl
    tok := fun j hj => if_neg hj
    cbv := fun _ _ => rfl, cbJ := fun _ _ => rfl, fp := fun _ _ => rfl
    own := fun j d b hj hd ho => hblk b (hr.r0.lt j d b hd ho) (hne b (hr.r0.lt j d b hd ho) fun c hc ho2 => hj (hr.r0.disj j i d c b hd hc ho ho2))
    ownI := fun j d b hj hd ho o => himm2 b (hr.r0.lt j d b hd ho) (hne b (hr.r0.lt j d b hd ho) fun c hc ho2 => hj (hr.r0.disj j i d c b hd hc ho ho2)) o
    ok := hok
    cr := ⟨v', xs, if_pos rfl, hrow, himm⟩
    new := fun b ho => ?_
    kp := fun b hk => hblk b (hlt b hk) (hne b (hlt b hk) fun c hc ho => hr.kp.keep i c b hc ho hk)
    size := hsz
    s3 := hs3
    hrnd := fun l hl => ?_
    hmks := fun D hD => ?_
    keep := rfl, base := rfl, rnd := rfl, marks := rfl }
  · obtain ⟨F0, v0, e0, hob⟩ := ho
    have e0 : (if i = i then some (F', v') else E.tok i) = some (F0, v0) := e0
    rw [if_pos rfl] at e0; cases e0
    obtain ⟨h1, h2⟩ := hown b hob
    refine ⟨h1, ?_⟩
    rcases h2 with h2 | ⟨h2, h3, h4⟩
    · refine ⟨fun hk => by have := hlt b hk; omega, fun j d hj hd ho' => by have := hr.r0.lt j d b hd ho'; omega, fun e => ?_, fun hm => ?_⟩
      · obtain ⟨⟨r, hl⟩, _⟩ := hr.r0.rnd _ e
        have := (Array.getElem?_eq_some_iff.1 hl).1; omega
      · have := (Array.getElem?_eq_some_iff.1 (hr.r0.mks _ hm).1).1; omega
    · have ho : ownsC E i (.tok F e sz) b := ⟨F, v, h3, h4⟩
      exact ⟨hr.kp.keep i _ b h2 ho, fun j d hj hd ho' => hj (hr.r0.disj j i d _ b hd h2 ho' ho), fun e => (hr.r0.rnd _ e).2 i _ h2 ho, fun hm => (hr.r0.mks _ hm).2.2 i _ h2 ho⟩
  · obtain ⟨⟨r, hl'⟩, hno⟩ := hr.r0.rnd _ hl
    have := (Array.getElem?_eq_some_iff.1 hl').1
    exact hblk l this (hne l this fun c hc => hno i c hc)
  · obtain ⟨hl', _, hno⟩ := hr.r0.mks _ hD
    have := (Array.getElem?_eq_some_iff.1 hl').1
    exact hblk D this (hne D this fun c hc => hno i c hc)

theorem R.drew {E : Env} {h : Heap} {w : World} (hr : R S E h w) : R S E h w.drew := by
  obtain ⟨r0, kp⟩ := hr
  obtain ⟨c1, c2, c3, c4, c5, c6, c7, c8⟩ := r0
  obtain ⟨k1, k2, k3, k4, k5⟩ := kp
  exact ⟨⟨fun i c hi => CR.move (w := w) (w' := w.drew) (Ext.refl E).v rfl rfl rfl rfl rfl (fun _ _ => rfl) (fun _ _ _ => rfl) c6 (Nat.le_refl _) ⟨rfl, rfl, rfl⟩ (c1 i c hi), c2, c3, c4, c5, c6, c7, c8⟩, ⟨k1, k2, k3, k4, k5.trans ⟨rfl, rfl, rfl⟩⟩⟩

/-- A row that moves to a new block. -/
theorem R.regrow {E : Env} {h : Heap} {w : World} (hr : R S E h w) {i F n cap e sz : Nat} {v : Value} (ht : E.tok i = some (F, v) ∨ E.tok i = none) (hF : ∀ F0 v0, E.tok i = some (F0, v0) → F0 < n)
    (all : List Value) (hall : all.length = n * sz) (hge : n ≤ cap) (hcm : cap ≤ maxLen) (zs : Array Value) (hz : zs.size = (cap - n) * sz) :
    R S (E.withTok i n (.slice (some ⟨w.heap.size, 0, none⟩) n cap) (immRow E.imm w.heap.size all)) (put h i (.tok n e sz)) (w.drew.alloc (.cells (all.toArray ++ zs) e)) ∧
    Ext E (E.withTok i n (.slice (some ⟨w.heap.size, 0, none⟩) n cap) (immRow E.imm w.heap.size all)) := by
  have hfresh : ∀ b o u, E.imm b o = some u → b ≠ w.heap.size := fun b o u hu e => absurd (imm_lt hr.r0.imm hu) (by omega)
  have himm : ∀ b o u, E.imm b o = some u → immRow E.imm w.heap.size all b o = some u := fun b o u hu => by
    unfold immRow; rw [if_neg (hfresh b o u hu)]; exact hu
  have hlt : ∀ b, E.keep b → b < w.heap.size := fun b hk => Nat.lt_of_lt_of_le (hr.kp.klt b hk) hr.kp.size
  have hkp : ∀ b o, E.keep b → immRow E.imm w.heap.size all b o = E.imm b o := fun b o hk => by unfold immRow; rw [if_neg (by have := hlt b hk; omega)]
  have hext : Ext E (E.withTok i n (.slice (some ⟨w.heap.size, 0, none⟩) n cap) (immRow E.imm w.heap.size all)) := by
    rcases ht with ht | ht
    · exact Ext.tokUp ht (hF _ _ ht) himm hkp
    · exact Ext.withTok ht himm hkp
  have hcell : ∀ o u, all[o]? = some u → (w.drew.alloc (.cells (all.toArray ++ zs) e)).cell? ⟨w.heap.size, o, none⟩ = some u := fun o u ho => by
    have := World.cell?_alloc_new w.drew (all.toArray ++ zs) e o
    simp only [World.size_drew] at this
    rw [this, Array.getElem?_append_left (by simpa using (List.getElem?_eq_some_iff.1 ho).1)]
    simpa using ho
  have hold : ∀ b, b < w.heap.size → (w.drew.alloc (.cells (all.toArray ++ zs) e)).heap[b]? = w.heap[b]? := fun b hb => Below.heap_alloc w.drew _ b hb
  refine ⟨hr.grow (F := F) (v := v) (xs := all) hext ⟨hall, .inr ⟨w.heap.size, cap, _, rfl, Nat.zero_le _, heap_alloc_new w.drew _, hge, hcm, ?_, ?_⟩⟩ ?_ ?_ ?_ ⟨rfl, rfl, rfl⟩ ?_ ?_ ?_, hext⟩
  · rw [Array.size_append, List.size_toArray, hall, hz, ← Nat.add_mul]; congr 1; omega
  · rw [← hall]; simp
  · intro b hb o u hu
    simp [Value.ownBlock] at hb; subst hb
    unfold immRow at hu; rwa [if_pos rfl] at hu
  · intro b o u hu
    unfold immRow at hu
    split at hu
    · rename_i e0; subst e0; exact hcell o u hu
    · exact hr.drew.r0.imm.alloc _ b o u hu
  · simp
  · intro b hb _; exact hold b hb
  · intro b hb hne o
    unfold immRow
    rw [if_neg (by omega)]
  · intro b hb
    simp [Value.ownBlock] at hb; subst hb
    exact ⟨by simp, .inl (Nat.le_refl _)⟩

theorem zeroCells_size (z : Value) (n : Nat) : (Builtin.zeroCells z.cells n).size = n * z.cells.size := by simp [Builtin.zeroCells]

theorem appK_sound (hS : SeatOK S) {h : Heap} {nid t : Nat} {s x : AV} {k : OpK} (hk : appK S h nid t s x k) :
    ∃ v ups rds, k v ups rds ∧ (∀ p ∈ ups, p.1 = nid ∨ p.1 ∈ rds) ∧ ∀ h' : Heap, (∀ i ∈ rds, h'[i]? = h[i]?) → ∀ (E : Env) (w : World), R S E h' w → E.tok nid = none → ∀ (sv xv : Value) (ty : TypeId), VR E s sv → VR E x xv →
      ∃ E' w' u, (Builtin.append_ #[t, t] ty #[sv, xv]).run S.P w = .ok u w' ∧ VR E' v u ∧ Ext E E' ∧ E'.marks = E.marks ∧ R S E' (puts h' ups) w' := by
  unfold appK at hk
  split at hk
  case h_2 => exact hk.elim
  rename_i ti hti
  have hT := hS.ty t ti hti
  split at hk
  case h_2 => exact hk.elim
  rename_i e hkd
  split at hk
  case h_2 => exact hk.elim
  rename_i te hte
  have hTe := hS.ty e te hte
  obtain ⟨ie, hie, hie1, hie2, hie3⟩ := hTe.info'
  have hzs := hTe.zsize
  have hu := hT.slice hkd
  have hnilapp : ∀ (w : World) (a : Option Addr) (c : Nat) (ty : TypeId) (a0 : Option Addr) (F c0 : Nat), F ≤ c0 → (Builtin.append_ #[t, t] ty #[.slice a0 F c0, .slice a 0 c]).run S.P w = .ok (.slice a0 F c0) w := by
    intro w a c ty a0 F c0 hF
    cases a <;> cases a0 <;> simp [Builtin.append_, run_underlying hu, sizeOf, typeInfo, hie, Builtin.lenOf, Builtin.firstCells, loadCells, loadCellsFrom, hF, storeCells]
  split at hk
  · rename_i ds m g
    split at hk
    · -- onto nil
      obtain ⟨p1, p2, p3, p4, p5⟩ := hk.pf
      refine ⟨_, _, _, hk.go, fun p hp => .inl (by simp at hp; rw [hp]), fun h' _ E w hr ht sv xv ty hs hx => ?_⟩
      simp only [VR] at hs hx
      subst hs
      obtain ⟨a, c, rfl, hmc, hc, _⟩ := hx
      by_cases hm : m = 0
      · subst hm
        have hds : ds = [] := List.eq_nil_of_length_eq_zero (by simpa using p1)
        subst hds
        have hext : Ext E (E.withTok nid 0 (.slice none 0 0) E.imm) := Ext.withTok ht (fun _ _ _ h => h) fun _ _ _ => rfl
        refine ⟨_, w, .slice none 0 0, hnilapp w a c ty none 0 0 (Nat.le_refl _), ?_, hext, rfl, hr.grow (F := 0) (v := .slice none 0 0) (xs := []) hext (World.ownsRow_nil w 0 e te.size) (fun b hb => by simp [Value.ownBlock] at hb) hr.r0.imm (Nat.le_refl _) (Same3.refl w) (fun _ _ _ => rfl) (fun _ _ _ _ => rfl) (fun b hb => by simp [Value.ownBlock] at hb)⟩
        simp only [VR]
        exact ⟨none, 0, rfl, Nat.le_refl _, by simp, fun i hi => by cases hi; exact ⟨0, _, if_pos rfl, Nat.le_refl _, fun _ => rfl⟩⟩
      · rcases hc with hc | ⟨b, o, rfl, hc⟩
        · exfalso
          have : 0 < m * te.size := Nat.mul_pos (Nat.pos_of_ne_zero hm) p5
          rw [hc] at p1; simp only [List.length_nil] at p1; omega
        · obtain ⟨news, hn1, hn2⟩ := hc.values
          have hnl : news.length = m * ie.size := by rw [← hn1.length, p1, hie1]
          have hrun := run_append_nil (P := S.P) w t ty e ie te.zero hu hie hie3 ⟨b, o, none⟩ m c news hnl (fun j u hj => by rw [Addr.add_lit]; exact hr.r0.imm _ _ _ (hn2 j u hj)) (by omega) (by omega) (by rw [hie2]; omega)
          have hge := grownCap_ge w m 0 e
          have hcm : grownCap w m 0 e ≤ maxLen := grownCap_le_maxLen w m 0 e (by simp only [maxLen]; omega)
          obtain ⟨hr', hext⟩ := hr.regrow (F := 0) (v := .slice none 0 0) (i := nid) (e := e) (sz := te.size) (.inr ht) (fun F0 v0 h0 => by rw [ht] at h0; cases h0) news (by rw [hnl, hie1]) hge hcm (Builtin.zeroCells te.zero.cells (grownCap w m 0 e - m)) (by rw [zeroCells_size, hzs])
          refine ⟨_, _, _, hrun, ?_, hext, rfl, hr'⟩
          simp only [VR]
          refine ⟨_, _, rfl, hge, .inr ⟨w.heap.size, 0, rfl, VRI.of_get fun j c hj => ?_⟩, fun i hi => by cases hi; exact ⟨m, _, if_pos rfl, Nat.le_refl _, fun _ => rfl⟩⟩
          obtain ⟨u, hu1, hu2⟩ := (hn1.mono hext.v).get j c hj
          refine ⟨u, ?_, hu2⟩
          show immRow E.imm w.heap.size news w.heap.size (0 + j) = some u
          unfold immRow; rw [if_pos rfl, Nat.zero_add]; exact hu1
    · -- onto a row of its own
      rename_i cs len i
      split at hk
      · rename_i F e' sz hi
        rw [getO_eq] at hi
        obtain ⟨rfl, rfl, rfl, q1, p1, p2, p3, p4, p5⟩ := hk.pf
        refine ⟨_, _, _, hk.go, fun p hp => .inr (by simp at hp; rw [hp]; simp), fun h' hh E w hr ht sv xv ty hs hx => ?_⟩
        have hi' : h'[i]? = some (.tok F e' te.size) := by rw [hh i (by simp)]; exact hi
        obtain ⟨v0, xs, t1, t2, t3⟩ := hr.r0.ch i _ hi'
        simp only [VR] at hs hx
        obtain ⟨a0, c0, rfl, hFc, hcs, htk⟩ := hs
        obtain ⟨F1, v1, t4, _, t5⟩ := htk i rfl
        rw [t1] at t4; cases t4
        have t5 := t5 rfl
        subst t5
        obtain ⟨a, c, rfl, hmc, hc, _⟩ := hx
        have hxl : xs.length = F * te.size := t2.1
        by_cases hm : m = 0
        · subst hm
          have hds : ds = [] := List.eq_nil_of_length_eq_zero (by simpa using p1)
          subst hds
          have hext : Ext E (E.withTok i F (.slice a0 F c0) E.imm) := ⟨fun _ _ h => h, fun j F0 v0 hj => ⟨F0, v0, by
            show (if j = i then some (F, Value.slice a0 F c0) else E.tok j) = some (F0, v0)
            split
            · rename_i e0; subst e0; rw [t1] at hj; exact hj
            · exact hj, .inr ⟨rfl, rfl⟩⟩, fun _ _ h => ⟨h, rfl⟩, fun _ _ _ h => h, fun _ _ _ => rfl, rfl, rfl, rfl⟩
          refine ⟨_, w, .slice a0 F c0, hnilapp w a c ty a0 F c0 hFc, ?_, hext, rfl, hr.grow (F := F) (v := .slice a0 F c0) (xs := xs) hext t2 t3 hr.r0.imm (Nat.le_refl _) (Same3.refl w) (fun _ _ _ => rfl) (fun _ _ _ _ => rfl) (fun b hb => ⟨hr.r0.lt i _ b hi' ⟨F, _, t1, hb⟩, .inr ⟨hi', t1, hb⟩⟩)⟩
          simp only [VR, List.append_nil, Nat.add_zero]
          refine ⟨a0, c0, rfl, hFc, ?_, fun j hj => by cases hj; exact ⟨F, _, if_pos rfl, Nat.le_refl _, fun _ => rfl⟩⟩
          rcases hcs with hcs | ⟨b, o, e0, hcs⟩
          · exact .inl hcs
          · exact .inr ⟨b, o, e0, hcs.mono hext.v⟩
        · rcases hc with hc | ⟨b, o, rfl, hc⟩
          · exfalso
            have : 0 < m * te.size := Nat.mul_pos (Nat.pos_of_ne_zero hm) p5
            rw [hc] at p1; simp only [List.length_nil] at p1; omega
          obtain ⟨news, hn1, hn2⟩ := hc.values
          have hnl : news.length = m * ie.size := by rw [← hn1.length, p1, hie1]
          have hnews : ∀ j u, news[j]? = some u → w.cell? ((⟨b, o, none⟩ : Addr).add j) = some u := fun j u hj => by rw [Addr.add_lit]; exact hr.r0.imm _ _ _ (hn2 j u hj)
          have hone := okCells_all p2 hn1
          -- the cells that were there
          have hold : ∀ (g : Nat), a0 = some ⟨g, 0, none⟩ → ∀ (j : Nat) (c : AV), cs[j]? = some c → ∃ u, xs[j]? = some u ∧ VR E c u := by
            intro g hg j c hj
            rcases hcs with hcs | ⟨b', o', e0, hcs⟩
            · rw [hcs] at hj; simp at hj
            · rw [hg] at e0; cases e0
              obtain ⟨u, hu1, hu2⟩ := hcs.get j c hj
              rw [Nat.zero_add] at hu1
              exact ⟨u, t3 g (by rw [hg]; rfl) j u hu1, hu2⟩
          have hnilcs : a0 = none → cs = [] := by
            intro ha
            rcases hcs with hcs | ⟨b', o', e0, hcs⟩
            · exact hcs
            · rw [ha] at e0; cases e0
          have hall : ∀ (E' : Env), VExt E E' → ∀ (g : Nat), (∀ (j : Nat) (u : Value), (xs ++ news)[j]? = some u → E'.imm g j = some u) → (∀ (j : Nat) (c : AV), cs[j]? = some c → ∃ u, xs[j]? = some u ∧ VR E c u) → VRI E' (cs ++ ds) g 0 := by
            intro E' hv g himm hcsx
            refine VRI.of_get fun j c hj => ?_
            rw [Nat.zero_add]
            rw [List.getElem?_append] at hj
            split at hj
            · obtain ⟨u, hu1, hu2⟩ := hcsx j c hj
              exact ⟨u, himm j u (by rw [List.getElem?_append_left (List.getElem?_eq_some_iff.1 hu1).1]; exact hu1), hu2.mono hv⟩
            · rename_i hge
              obtain ⟨u, hu1, hu2⟩ := hn1.get _ c hj
              refine ⟨u, himm j u ?_, hu2.mono hv⟩
              rw [List.getElem?_append_right (by omega), hxl, ← q1]; exact hu1
          rcases t2.2 with ⟨hv0, hF0⟩ | ⟨g, cap, cur, hv0, _, hgh, hFcap, hcapm, hcur, htake⟩
          · -- nil till now
            cases hv0
            have hxs : xs = [] := List.eq_nil_of_length_eq_zero (by rw [hxl]; simp)
            have hcs0 := hnilcs rfl
            have hrun := run_append_nil (P := S.P) w t ty e' ie te.zero hu hie hie3 ⟨b, o, none⟩ m c news hnl hnews (by omega) (by omega) (by rw [hie2]; rw [Nat.zero_add] at p3; omega)
            have hge := grownCap_ge w m 0 e'
            have hcm : grownCap w m 0 e' ≤ maxLen := grownCap_le_maxLen w m 0 e' (by simp only [maxLen]; omega)
            obtain ⟨hr', hext⟩ := hr.regrow (F := 0) (v := .slice none 0 0) (i := i) (e := e') (sz := te.size) (.inl t1) (fun F0 v0 h0 => by rw [t1] at h0; cases h0; omega) news (by rw [hnl, hie1]) hge hcm (Builtin.zeroCells te.zero.cells (grownCap w m 0 e' - m)) (by rw [zeroCells_size, hzs])
            rw [Nat.zero_add]
            refine ⟨_, _, _, hrun, ?_, hext, rfl, hr'⟩
            simp only [VR]
            refine ⟨_, _, rfl, hge, .inr ⟨w.heap.size, 0, rfl, hall _ hext.v w.heap.size (fun j u hj => ?_) (fun j c hj => by rw [hcs0] at hj; simp at hj)⟩, fun j hj => by cases hj; exact ⟨m, _, if_pos rfl, Nat.le_refl _, fun _ => rfl⟩⟩
            show immRow E.imm w.heap.size news w.heap.size j = some u
            unfold immRow; rw [if_pos rfl]; rw [hxs] at hj; simpa using hj
          · cases hv0
            by_cases hroom : F + m ≤ c0
            · -- in place
              have hfit : F * ie.size + news.length ≤ cur.size := by rw [hnl, hcur, hie1, ← Nat.add_mul]; exact Nat.mul_le_mul_right _ hroom
              have hrun := run_append_room (P := S.P) w t ty e' ie hu hie g F c0 cur hgh ⟨b, o, none⟩ m c news hnl hnews hone hroom hfit
              have hcells : cur.toList.take (F * ie.size) = xs := by rw [hie1]; exact htake
              rw [hcells] at hrun
              have hoth : ∀ k, k ≠ g → (w.setRow g (xs ++ news ++ cur.toList.drop (F * ie.size + news.length)).toArray).heap[k]? = w.heap[k]? := fun k hk => setRow_other w g k _ hk
              have himm : ∀ b o u, E.imm b o = some u → immRow E.imm g (xs ++ news) b o = some u := fun b o u hu => by
                unfold immRow
                split
                · rename_i e0; subst e0
                  have := t3 b rfl o u hu
                  rw [List.getElem?_append_left (List.getElem?_eq_some_iff.1 this).1]; exact this
                · exact hu
              have hgown : ownsC E i (.tok F e' te.size) g := ⟨F, _, t1, rfl⟩
              have hext : Ext E (E.withTok i (F + m) (.slice (some ⟨g, 0, none⟩) (F + m) c0) (immRow E.imm g (xs ++ news))) :=
                Ext.tokUp t1 (by omega) himm fun b o hk => by unfold immRow; rw [if_neg (fun e0 => by subst e0; exact hr.kp.keep i _ _ hi' hgown hk)]
              have hheap := setRow_heap w g cur (xs ++ news ++ cur.toList.drop (F * ie.size + news.length)).toArray e' _ hgh
              have hlen2 : (xs ++ news).length = (F + m) * te.size := by rw [List.length_append, hxl, hnl, hie1, Nat.add_mul]
              refine ⟨_, _, _, hrun, ?_, hext, rfl, hr.grow (F := F) (v := .slice (some ⟨g, 0, none⟩) F c0) (xs := xs ++ news) hext ⟨hlen2, .inr ⟨g, c0, _, rfl, Nat.zero_le _, hheap, hroom, hcapm, ?_, ?_⟩⟩ ?_ ?_ ?_ ⟨rfl, rfl, rfl⟩ ?_ ?_ ?_⟩
              · simp only [VR]
                refine ⟨_, _, rfl, hroom, .inr ⟨g, 0, rfl, hall _ hext.v g (fun j u hj => ?_) (hold g rfl)⟩, fun j hj => by cases hj; exact ⟨F + m, _, if_pos rfl, Nat.le_refl _, fun _ => rfl⟩⟩
                show immRow E.imm g (xs ++ news) g j = some u
                unfold immRow; rw [if_pos rfl]; exact hj
              · rw [← hcells]
                simp only [List.size_toArray, List.length_append, List.length_take, List.length_drop, Array.length_toList]
                omega
              · rw [List.append_assoc, ← List.append_assoc, ← hlen2]
                exact List.take_left
              · intro b' hb' o' u' hu'
                simp [Value.ownBlock] at hb'; subst hb'
                unfold immRow at hu'; rwa [if_pos rfl] at hu'
              · intro b' o' u' hu'
                unfold immRow at hu'
                split at hu'
                · rename_i e0; subst e0
                  rw [cell_of_row _ _ _ _ _ _ hheap]
                  simp only [List.getElem?_toArray]
                  rw [List.getElem?_append_left (List.getElem?_eq_some_iff.1 hu').1]; exact hu'
                · rename_i hne
                  exact (World.cell?_of_block (w := w) (a := ⟨b', o', none⟩) (hoth b' hne)).trans (hr.r0.imm b' o' u' hu')
              · simp [World.setRow]
              · intro b' _ hne
                exact hoth b' (fun e0 => hne (by subst e0; rfl))
              · intro b' _ hne o'
                unfold immRow
                rw [if_neg (fun e0 => hne (by subst e0; rfl))]
              · intro b' hb'
                simp [Value.ownBlock] at hb'; subst hb'
                refine ⟨by have := hr.r0.lt i _ g hi' hgown; simpa [World.setRow] using this, .inr ⟨hi', t1, rfl⟩⟩
            · -- to a new block
              have holds : ∀ j u, xs[j]? = some u → w.cell? ((⟨g, 0, none⟩ : Addr).add j) = some u := t2.cells (g := g) rfl
              have hrun := run_append_grow (P := S.P) w t ty e' ie te.zero hu hie hie3 ⟨g, 0, none⟩ F c0 xs (by rw [hxl, hie1]) holds ⟨b, o, none⟩ m c news hnl hnews (by omega) (by omega) (by rw [hie2]; exact growslice_fits (by omega) p3)
              have hge := grownCap_ge w (F + m) c0 e'
              have hcm : grownCap w (F + m) c0 e' ≤ maxLen := grownCap_le_maxLen w (F + m) c0 e' (by simp only [maxLen]; omega)
              have hlen2 : (xs ++ news).length = (F + m) * te.size := by rw [List.length_append, hxl, hnl, hie1, Nat.add_mul]
              obtain ⟨hr', hext⟩ := hr.regrow (F := F) (v := .slice (some ⟨g, 0, none⟩) F c0) (i := i) (e := e') (sz := te.size) (.inl t1) (fun F0 v0 h0 => by rw [t1] at h0; cases h0; omega) (xs ++ news) hlen2 hge hcm (Builtin.zeroCells te.zero.cells (grownCap w (F + m) c0 e' - (F + m))) (by rw [zeroCells_size, hzs])
              have earr : xs.toArray ++ news.toArray = (xs ++ news).toArray := by simp
              rw [earr] at hrun
              refine ⟨_, _, _, hrun, ?_, hext, rfl, hr'⟩
              simp only [VR]
              refine ⟨_, _, rfl, hge, .inr ⟨w.heap.size, 0, rfl, hall _ hext.v w.heap.size (fun j u hj => ?_) (hold g rfl)⟩, fun j hj => by cases hj; exact ⟨F + m, _, if_pos rfl, Nat.le_refl _, fun _ => rfl⟩⟩
              show immRow E.imm w.heap.size (xs ++ news) w.heap.size j = some u
              unfold immRow; rw [if_pos rfl]; exact hj
      · exact hk.elim
    · exact hk.elim
  · -- nothing is appended
    split at hk
    · refine ⟨_, _, _, hk, fun p hp => (nomatch hp), fun h' _ E w hr ht sv xv ty hs hx => ?_⟩
      simp only [VR] at hs hx
      subst hs; subst hx
      exact ⟨E, w, _, hnilapp w none 0 ty none 0 0 (Nat.le_refl _), by simp only [VR], Ext.refl E, rfl, hr⟩
    · refine ⟨_, _, _, hk, fun p hp => (nomatch hp), fun h' _ E w hr ht sv xv ty hs hx => ?_⟩
      have hs0 := hs
      simp only [VR] at hs hx
      subst hx
      obtain ⟨a0, c0, rfl, hFc, _⟩ := hs
      exact ⟨E, w, _, hnilapp w none 0 ty a0 _ c0 hFc, hs0, Ext.refl E, rfl, hr⟩
    · exact hk.elim
  · exact hk.elim

end Go.Abs
