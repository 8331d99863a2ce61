/- Memory: a new variable, a store, a load: what they do to the relation between abstract and machine memory. No condition: lemmas. -/
import Derived.Test.YtflibnlbkffilaaAbs5
set_option linter.unusedSimpArgs false
set_option linter.unusedVariables false
set_option linter.deprecated false
namespace Go.Abs
open Go.RowKit
variable {S : Seat}

theorem imm_lt {imm : Imm} {w : World} (h : immOK imm w) {b o : Nat} {u : Value} (hu : imm b o = some u) : b < w.heap.size :=
  World.block_lt_of_cell? w ⟨b, o, none⟩ (h b o u hu)

theorem immOK.alloc {imm : Imm} {w : World} (h : immOK imm w) (o : Obj) : immOK imm (w.alloc o) := fun b j u hu => by
  rw [World.cell?_alloc_lt w o ⟨b, j, none⟩ (imm_lt h hu)]; exact h b j u hu

/-- piece i is block b -/
def Env.withBlk (E : Env) (i b : Nat) : Env := { E with blk := fun j => if j = i then some b else E.blk j }

theorem Ext.withBlk {E : Env} {i b : Nat} (h : E.blk i = none) : Ext E (E.withBlk i b) where
  blk j c hj := by
    show (if j = i then some b else E.blk j) = some c
    rw [if_neg (fun e => by subst e; rw [h] at hj; cases hj)]; exact hj
  tok j F v hj := ⟨F, v, hj, .inr ⟨rfl, rfl⟩⟩
  cbv j v hj := ⟨hj, rfl⟩
  imm b o u hu := hu
  new b o hk := rfl
  keep := rfl
  base := rfl
  rnd := rfl

/-- A new variable. -/
theorem R.new {E : Env} {h : Heap} {w : World} (hr : R S E h w) {i : Nat} (hb : E.blk i = none) (htk : E.tok i = none) {cs : List AV} {us : List Value} (hv : VRL E cs us) (t : Nat) :
    R S (E.withBlk i w.heap.size) (put h i (.var cs t)) (w.alloc (.cells us.toArray t)) := by
  have hext : Ext E (E.withBlk i w.heap.size) := Ext.withBlk hb
  have hold : ∀ b, b < w.heap.size → (w.alloc (.cells us.toArray t)).heap[b]? = w.heap[b]? := fun b hb => Below.heap_alloc w _ b hb
  refine hr.step {
    v := hext.v
    blk := fun j hj => if_neg hj
    tok := fun _ _ => rfl, cbv := fun _ _ => rfl, cbJ := fun _ _ => rfl, fp := fun _ _ => rfl
    own := fun j d b hj hd ho => hold b (hr.r0.lt j d b hd ho)
    ownI := fun _ _ _ _ _ _ _ => rfl
    ok := hr.r0.imm.alloc _
    cr := ⟨w.heap.size, us, if_pos rfl, heap_alloc_new w _, hv.mono hext.v, fun o => ?_, htk⟩
    new := fun b ho => ?_
    kp := fun b hk => hold b (Nat.lt_of_lt_of_le (hr.kp.klt b hk) hr.kp.size)
    size := by simp
    s3 := ⟨rfl, rfl, rfl⟩
    hrnd := fun l hl => ?_
    hmks := fun D hD => ?_
    keep := rfl, base := rfl, rnd := rfl, marks := rfl }
  · cases hu : E.imm w.heap.size o with
    | none => exact hu
    | some u => exact absurd (imm_lt hr.r0.imm hu) (Nat.lt_irrefl _)
  · have e : (if i = i then some w.heap.size else E.blk i) = some b := ho
    rw [if_pos rfl] at e; cases e
    refine ⟨by simp, fun hk => absurd (Nat.lt_of_lt_of_le (hr.kp.klt _ hk) hr.kp.size) (Nat.lt_irrefl _), fun j d hj hd ho' => absurd (hr.r0.lt j d _ hd ho') (Nat.lt_irrefl _), fun e => ?_, fun hm => ?_⟩
    · obtain ⟨⟨r, hl⟩, _⟩ := hr.r0.rnd _ e
      exact absurd (Array.getElem?_eq_some_iff.1 hl).1 (Nat.lt_irrefl _)
    · exact absurd (Array.getElem?_eq_some_iff.1 (hr.r0.mks _ hm).1).1 (Nat.lt_irrefl _)
  · obtain ⟨⟨r, hl'⟩, _⟩ := hr.r0.rnd _ hl
    exact hold l (Array.getElem?_eq_some_iff.1 hl').1
  · exact hold D (Array.getElem?_eq_some_iff.1 (hr.r0.mks _ hD).1).1

/-- A store into a variable. -/
theorem R.store {E : Env} {h : Heap} {w : World} (hr : R S E h w) {i : Nat} {cs : List AV} {t : Nat} (hi : h[i]? = some (.var cs t)) {o : Nat} {vs : List AV} {ws : List Value} (hv : VRL E vs ws) (h1 : ∀ u ∈ ws, u.oneCell' = true) (hfit : o + vs.length ≤ cs.length) :
    ∃ b w', E.blk i = some b ∧ (storeCells ⟨b, o, none⟩ ws).run S.P w = .ok () w' ∧ R S E (put h i (.var (splice cs o vs) t)) w' := by
  obtain ⟨b, us, hb, hh, hu, himm, htk⟩ := hr.r0.ch i _ hi
  have hlen := hu.length
  have hlen2 := hv.length
  have hst := run_storeCells_at S.P b o t ws 0 us.toArray w hh (by simp; omega) h1
  simp only [Nat.add_zero] at hst
  have e : us.toArray.toList.take o ++ ws ++ us.toArray.toList.drop (o + ws.length) = spliceV us o ws := by
    rw [spliceV_eq ws us o (by omega)]
  rw [e] at hst
  have hown : ownsC E i (.var cs t) b := hb
  have hoth : ∀ k, k ≠ b → (w.setRow b (spliceV us o ws).toArray).heap[k]? = w.heap[k]? := fun k hk => setRow_other w b k _ hk
  refine ⟨b, _, hb, hst, hr.step {
    v := (Ext.refl E).v
    blk := fun _ _ => rfl, tok := fun _ _ => rfl, cbv := fun _ _ => rfl, cbJ := fun _ _ => rfl, fp := fun _ _ => rfl
    own := fun j d b' hj hd ho => hoth b' (fun e => by subst e; exact hj (hr.r0.disj j i d _ b' hd hi ho hown))
    ownI := fun _ _ _ _ _ _ _ => rfl
    ok := fun b' o' u hu' => ?_
    cr := ⟨b, spliceV us o ws, hb, setRow_heap w b _ _ t _ hh, hu.splice o hv, himm, htk⟩
    new := fun b' ho => ?_
    kp := fun b' hk => hoth b' (fun e => by subst e; exact hr.kp.keep i _ b' hi hown hk)
    size := by simp [World.setRow]
    s3 := ⟨rfl, rfl, rfl⟩
    hrnd := fun l hl => hoth l (fun e => by subst e; exact (hr.r0.rnd _ hl).2 i _ hi hown)
    hmks := fun D hD => hoth D (fun e => by subst e; exact (hr.r0.mks _ hD).2.2 i _ hi hown)
    keep := rfl, base := rfl, rnd := rfl, marks := rfl }⟩
  · have hne : b' ≠ b := fun e => by subst e; rw [himm] at hu'; cases hu'
    exact (World.cell?_of_block (w := w) (a := ⟨b', o', none⟩) (hoth b' hne)).trans (hr.r0.imm b' o' u hu')
  · have e : E.blk i = some b' := ho
    rw [hb] at e; cases e
    refine ⟨?_, hr.kp.keep i _ b hi hown, fun j d hj hd ho' => hj (hr.r0.disj j i d _ b hd hi ho' hown), fun e => (hr.r0.rnd _ e).2 i _ hi hown, fun hm => (hr.r0.mks _ hm).2.2 i _ hi hown⟩
    have := hr.r0.lt i _ b hi hown
    simpa [World.setRow] using this

/-- Loads: of cells that are there. -/
theorem run_loadVar' {P : Program} {t : TypeId} {ti : TI} (hT : TIok P t ti) {E : Env} {w : World} {cs : List AV} {b o off : Nat} {v : AV} (hc : ∀ j c, cs[j]? = some c → ∃ u, w.cell? ⟨b, off + j, none⟩ = some u ∧ VR E c u) (hp : partK ti.kind.agg cs o ti.size = some v) :
    ∃ u, (loadVar t ⟨b, off + o, none⟩).run P w = .ok u w ∧ VR E v u := by
  unfold loadVar
  rw [Sem.run_bind, hT.runAgg]
  simp only [Result.andThen_ok]
  cases ha : ti.kind.agg with
  | true =>
    rw [ha] at hp
    simp only [partK] at hp
    split at hp
    · rename_i r hr
      cases hp
      obtain ⟨h1, h2⟩ := sub_some hr
      have hex : ∃ us : List Value, us.length = r.length ∧ VRL E r us ∧ ∀ j u, us[j]? = some u → w.cell? ⟨b, off + o + j, none⟩ = some u := by
        have hall : ∀ j c, r[j]? = some c → ∃ u, w.cell? ⟨b, off + o + j, none⟩ = some u ∧ VR E c u := by
          intro j c hj
          rw [h1, List.getElem?_take] at hj
          split at hj
          · rw [List.getElem?_drop] at hj
            obtain ⟨u, hu, hv⟩ := hc _ c hj
            exact ⟨u, by rw [Nat.add_assoc]; exact hu, hv⟩
          · cases hj
        clear h1 h2 hr ha
        generalize off + o = q at hall
        induction r generalizing q with
        | nil => exact ⟨[], rfl, VRL.nil, fun j u hj => by simp at hj⟩
        | cons c r ih =>
          obtain ⟨u, hu, hv⟩ := hall 0 c (by simp)
          obtain ⟨us, hl, hvs, hg⟩ := ih (q + 1) (fun j c' hj => by
            have := hall (j + 1) c' (by simpa using hj)
            rwa [show q + (j + 1) = q + 1 + j by omega] at this)
          refine ⟨u :: us, by simp [hl], VRL.cons hv hvs, fun j u' hj => ?_⟩
          cases j with
          | zero => simp at hj; subst hj; simpa using hu
          | succ j =>
            have := hg j u' (by simpa using hj)
            rwa [show q + (j + 1) = q + 1 + j by omega]
      obtain ⟨us, hl, hvs, hg⟩ := hex
      have hlc := run_loadCells_list (P := P) w ⟨b, off + o, none⟩ us (fun j u hj => by rw [Addr.add_lit]; exact hg j u hj)
      refine ⟨.agg us.toArray, ?_, by simp only [VR]; exact ⟨us, rfl, hvs⟩⟩
      have e : ti.size = us.length := by rw [hl, h2]
      have hsz := hT.runSize w
      rw [if_pos rfl]
      simp only [Sem.run_bind, Result.andThen_ok, hsz, Sem.run_pure]
      rw [e, hlc]
      rfl
    · cases hp
  | false =>
    rw [ha] at hp
    simp only [partK, getO_eq] at hp
    obtain ⟨u, hu, hv⟩ := hc o v hp
    refine ⟨u, ?_, hv⟩
    simp [hu]

end Go.Abs
